/-
  OWN WORK. THE TREE MODEL: build: the state at a round's head.
-/
import Derived.Test.Qxb6500421aGreatUPut
import Derived.Test.Qxb6500421aGreatUSam
import Derived.Test.Qxb6500421aGreatTFlt
import Derived.Test.Qxb6500421aGreatTBld
namespace Go.Proofs.Qxb6500421aGreat
open Go.RowKit Go.PlainAid
set_option linter.unusedSimpArgs false
set_option linter.unusedVariables false

def idsR (rs : List Rw) : List Int := rs.map (fun r => (r.id : Int))
theorem idsR_snoc (rs : List Rw) (r : Rw) : idsR (rs ++ [r]) = idsR rs ++ [(r.id : Int)] := by simp [idsR]
structure UBI (w : World) (m : Nat) (J : Nat → Sl) (rt : Nat) (hist : Value) (H : Nat → Prop) (l : List En) (n i : Nat) (kv : Value) (rem : List En) (J1 : Nat → Sl) (acc : List Rw) (H1 : Nat → Prop) (wr : World) : Prop where
  uat : UAt wr m J1 rt hist H1
  inv : Inv J1
  hext : ∀ y, H1 y → H y ∨ w.heap.size ≤ y
  only : Only (fun y => y = m) w wr
  rng : l.drop i = rem
  le : i ≤ l.length
  don : ∃ done, done ++ tp rem = tp l ∧ RowsOk J1 done acc
  eq : bldL (bld n) J (tp l) [] = bldL (bld n) J1 (tp rem) acc
  buf : OwnI wr kv (idsR acc)
  bb : ∀ y, kv.ownBlock = some y → w.heap.size ≤ y ∧ y ≠ m ∧ ¬ H1 y
  blb : Blobs J1 l
section
variable {w wr w1 w2 : World} {m : Nat} {J J1 : Nat → Sl} {rt : Nat} {hist : Value} {H H1 H2 : Nat → Prop} {l rem r : List En} {n i : Nat} {kv v' : Value} {acc : List Rw} {e : En}
theorem UBI.len (h : UBI w m J rt hist H l n i kv rem J1 acc H1 wr) (hf : Fine l) : acc.length ≤ 8 := by
  obtain ⟨done, h1, h2⟩ := h.don
  have h3 := h2.rel.len
  have h4 := tp_len l
  have h5 := hf.cnt
  have h6 := congrArg List.length h1
  rw [List.length_append] at h6
  omega
theorem UBI.mem (h : UBI w m J rt hist H l n i kv rem J1 acc H1 wr) : ∀ x ∈ rem, x ∈ l := fun x hx => by
  rw [← h.rng] at hx
  exact List.mem_of_mem_drop hx
/-- The kids grow by one. -/
theorem UBI.grown (h : UBI w m J rt hist H l n i kv rem J1 acc H1 wr) (ho : Only (fun y => kv.ownBlock = some y) wr w1) (hwhere : ∀ y, v'.ownBlock = some y → kv.ownBlock = some y ∨ wr.heap.size ≤ y) :
    UAt w1 m J1 rt hist H1 ∧ Only (fun y => y = m) w w1 ∧ (∀ y, v'.ownBlock = some y → w.heap.size ≤ y ∧ y ≠ m ∧ ¬ H1 y) := by
  have hs := h.only.size
  have hml := h.uat.lt
  refine ⟨h.uat.keep ho (fun y hy e => (h.bb y e).2.2 hy), h.only.trans ho (fun y hy e => ?_), fun y hy => ?_⟩
  · have := (h.bb y e).1; omega
  · rcases hwhere y hy with e | e
    · exact h.bb y e
    · exact ⟨by omega, by omega, fun hh => by have := h.uat.inn y hh; omega⟩
theorem UBI.file (h : UBI w m J rt hist H l n i kv (e :: r) J1 acc H1 wr) (hf : Fine l) (hc : cutS e.path = none) (hown : OwnI w1 v' (idsR acc ++ [e.id])) (ho : Only (fun y => kv.ownBlock = some y) wr w1) (hwhere : ∀ y, v'.ownBlock = some y → kv.ownBlock = some y ∨ wr.heap.size ≤ y) :
    UBI w m J rt hist H l n (i + 1) v' r J1 (acc ++ [fileR e]) H1 w1 := by
  obtain ⟨g1, g2, g3⟩ := h.grown ho hwhere
  obtain ⟨done, hd, hR⟩ := h.don
  rw [tp_file r hc] at hd
  have hm : Tp.f e ∈ tp l := by rw [← hd]; simp
  have hrg := h.rng
  have hlt : i < l.length := by
    have := congrArg List.length hrg
    simp at this
    omega
  have hr2 : l.drop (i + 1) = r := by
    rw [List.drop_eq_getElem_cons hlt] at hrg
    exact (List.cons.inj hrg).2
  have hid := hf.ids e (h.mem e (by simp))
  refine ⟨g1, h.inv, h.hext, g2, hr2, by omega, ⟨done ++ [.f e], by rw [← hd]; simp, hR.file hf h.blb hm⟩, ?_, ?_, g3, h.blb⟩
  · rw [h.eq, tp_file r hc]
    rfl
  · rw [idsR_snoc]
    have : ((fileR e).id : Int) = e.id := by show ((e.id.toNat : Nat) : Int) = e.id; omega
    rw [this]
    exact hown
/-- The rows of one directory. -/
theorem UBI.group (h : UBI w m J rt hist H l n i kv (e :: r) J1 acc H1 wr) {a b : Str} (hc : cutS e.path = some (a, b)) : Tp.d a (((e :: r).takeWhile (hasP a)).map (strip (a.length + 1))) ∈ tp l ∧ l.drop (i + ((e :: r).takeWhile (hasP a)).length) = (e :: r).dropWhile (hasP a) ∧ i + ((e :: r).takeWhile (hasP a)).length ≤ l.length := by
  obtain ⟨done, hd, hR⟩ := h.don
  rw [tp_dir r hc] at hd
  have hl : (l.drop i).length = (e :: r).length := by rw [h.rng]
  have h2 : ((e :: r).takeWhile (hasP a)).length ≤ (e :: r).length := (List.takeWhile_sublist _).length_le
  have hle := h.le
  rw [List.length_drop] at hl
  refine ⟨by rw [← hd]; simp, ?_, by omega⟩
  have e1 : l.drop (i + ((e :: r).takeWhile (hasP a)).length) = (l.drop i).drop ((e :: r).takeWhile (hasP a)).length := by rw [List.drop_drop]
  rw [e1, h.rng]
  conv => lhs; arg 2; rw [← List.takeWhile_append_dropWhile (p := hasP a) (l := e :: r)]
  exact List.drop_left
theorem UBI.dir (h : UBI w m J rt hist H l n i kv (e :: r) J1 acc H1 wr) (hf : Fine l) {a b : Str} (hc : cutS e.path = some (a, b)) {sub : List En} (hsub : sub = ((e :: r).takeWhile (hasP a)).map (strip (a.length + 1))) (hB : BOk J1 (bld n J1 sub).1 sub (bld n J1 sub).2.1 (bld n J1 sub).2.2) (he : (bld n J1 sub).2.2 = 0)
    (hU : UAt w1 m (bld n J1 sub).1 rt hist H2) (hx : ∀ y, H2 y → H1 y ∨ wr.heap.size ≤ y) (ho1 : Only (fun y => y = m) wr w1) (hown : OwnI w2 v' (idsR acc ++ [((bld n J1 sub).2.1 : Int)])) (ho : Only (fun y => kv.ownBlock = some y) w1 w2) (hwhere : ∀ y, v'.ownBlock = some y → kv.ownBlock = some y ∨ w1.heap.size ≤ y) :
    UBI w m J rt hist H l n (i + ((e :: r).takeWhile (hasP a)).length) v' ((e :: r).dropWhile (hasP a)) (bld n J1 sub).1 (acc ++ [⟨true, 0, (bld n J1 sub).2.1, a⟩]) H2 w2 := by
  obtain ⟨hm, hr2, hle⟩ := h.group hc
  rw [← hsub] at hm
  obtain ⟨done, hd, hR⟩ := h.don
  rw [tp_dir r hc, ← hsub] at hd
  have hs := h.only.size
  have hs1 := ho1.size
  have hml := h.uat.lt
  have bb2 : ∀ y, kv.ownBlock = some y → w.heap.size ≤ y ∧ y ≠ m ∧ ¬ H2 y := fun y hy => by
    have h1 := h.bb y hy
    have h2 := ownsRow_lt h.buf y hy
    refine ⟨h1.1, h1.2.1, fun e => ?_⟩
    rcases hx y e with e | e
    · exact h1.2.2 e
    · omega
  refine ⟨hU.keep ho (fun y hy e => (bb2 y e).2.2 hy), hB.inv, fun y hy => ?_, (h.only.trans ho1 (fun _ _ h => h)).trans ho (fun y hy e => ?_), hr2, hle, ⟨done ++ [.d a sub], by rw [← hd]; simp, (hR.grow hB.grow).dir hf hm (hB.ok he)⟩, ?_, ?_, fun y hy => ?_, h.blb.grow hB.grow⟩
  · rcases hx y hy with e | e
    · exact h.hext y e
    · exact .inr (by omega)
  · have := (bb2 y e).1; omega
  · rw [h.eq, tp_dir r hc, ← hsub, bldL, if_pos he]
  · rw [idsR_snoc]; exact hown
  · rcases hwhere y hy with e | e
    · exact bb2 y e
    · exact ⟨by omega, by omega, fun hh => by have := hU.inn y hh; omega⟩
theorem UBI.fail (h : UBI w m J rt hist H l n i kv (e :: r) J1 acc H1 wr) {a b : Str} (hc : cutS e.path = some (a, b)) {sub : List En} (hsub : sub = ((e :: r).takeWhile (hasP a)).map (strip (a.length + 1))) (he : (bld n J1 sub).2.2 ≠ 0) : bld (n + 1) J l = ((bld n J1 sub).1, 0, (bld n J1 sub).2.2) := by
  have e1 : bldL (bld n) J (tp l) [] = ((bld n J1 sub).1, acc, (bld n J1 sub).2.2) := by
    rw [h.eq, tp_dir r hc, ← hsub, bldL, if_neg he]
  conv => lhs; unfold bld
  rw [e1]
  simp only
  rw [if_neg he]
theorem UBI.done (h : UBI w m J rt hist H l n i kv [] J1 acc H1 wr) : bld (n + 1) J l = finJ J1 l acc ∧ RowsOk J1 (tp l) acc := by
  have e1 : bldL (bld n) J (tp l) [] = (J1, acc, 0) := by rw [h.eq]; rfl
  obtain ⟨done, hd, hR⟩ := h.don
  rw [tp_nil, List.append_nil] at hd
  subst hd
  refine ⟨?_, hR⟩
  conv => lhs; unfold bld
  rw [e1]
  simp
theorem findT_at {J : Nat → Sl} {l : List En} {i : Nat} (hi : In i) (hl : liveS (J i) = true) (hk : (J i).kd = 2) (hd : (J i).lst = l) (hb : ∀ j, In j → j < i → ¬ (liveS (J j) = true ∧ (J j).kd = 2 ∧ (J j).lst = l)) : findT J l = some i := by
  cases hf : findT J l with
  | none => exact absurd hd (findT_none hf i hi hl hk)
  | some r =>
    have hf0 := hf
    unfold findT at hf
    obtain ⟨h1, h2, h3⟩ := List.find?_range_eq_some.1 hf
    congr 1
    have hr := findT_some hf0
    by_cases e : r = i
    · exact e
    · rcases Nat.lt_or_gt_of_ne e with h | h
      · exact absurd ⟨hr.2.1, hr.2.2.1, hr.2.2.2⟩ (hb r hr.1 h)
      · have := h3 i h
        have hi1 := hi.1
        simp [hl, hk, hd] at this
        omega
theorem findT_no {J : Nat → Sl} {l : List En} (hb : ∀ j, In j → ¬ (liveS (J j) = true ∧ (J j).kd = 2 ∧ (J j).lst = l)) : findT J l = none := by
  cases hf : findT J l with
  | none => rfl
  | some r =>
    have hr := findT_some hf
    exact absurd ⟨hr.2.1, hr.2.2.1, hr.2.2.2⟩ (hb r hr.1)
theorem slashI_zero (p : Str) : slashI p 0 = match cutS p with | none => -1 | some (a, _) => ((a.length : Nat) : Int) := by
  have := slashI_pre [] p
  simp only [List.nil_append, List.length_nil] at this
  rw [this]
  cases cutS p with
  | none => rfl
  | some ab => simp
theorem sb_pfx {p a b : Str} (h : p = a ++ 47 :: b) : (sb p).extract 0 (a.length + 1) = sb (a ++ [47]) := by
  have e1 : p = (a ++ [47]) ++ b := by rw [h]; simp
  have e2 : a.length + 1 = (a ++ [47]).length := by simp
  rw [e1, e2]
  exact sb_head _ _
theorem sb_rest {a : Str} {x : En} (h : hasP a x = true) : (sb x.path).extract (a.length + 1) (sb x.path).size = sb (strip (a.length + 1) x).path ∧ a.length + 1 ≤ x.path.length := by
  have hu := under_strip h
  have hp : x.path = (a ++ [47]) ++ (strip (a.length + 1) x).path := by
    conv => lhs; rw [← hu]
    simp [under]
  have e2 : a.length + 1 = (a ++ [47]).length := by simp
  constructor
  · rw [sb_size]
    have := sb_drop (a ++ [47]) (strip (a.length + 1) x).path
    rw [← hp, ← e2] at this
    exact this
  · rw [hp]; simp
end
end Go.Proofs.Qxb6500421aGreat
