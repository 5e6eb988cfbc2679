/-
  OWN WORK. THE TREE: build: the state at a round's head.
-/
import Derived.Test.Qxb6500417aGreatTBld
namespace Go.Proofs.Qxb6500417aGreat
open Go.RowKit Go.PlainAid
set_option linter.unusedSimpArgs false
set_option linter.unusedVariables false

structure BLI (w : World) (t s d : Nat) (D B : Nat → Nat) (recs : List Rec) (J : Nat → Sl) (rt : Nat) (F : Nat → Prop) (L l : List En) (hi m : Nat) (pre : Str) (i : Nat) (bv : Value) (rem : List En) (J1 : Nat → Sl) (acc : List Rw) (news : List Rec) (F1 : Nat → Prop) (wr : World) : Prop where
  wrt : Wrote w wr t s d D B recs J J1 rt F news F1
  rng : (L.drop i).take (hi - i) = rem.map (addP pre)
  le : i ≤ hi
  don : ∃ done, done ++ tp rem = tp l ∧ RowsOk J1 done acc
  eq : bldL (bld m) J (tp l) [] = bldL (bld m) J1 (tp rem) acc
  buf : OwnU wr bv (encs acc)
  bb : ∀ y, bv.ownBlock = some y → w.heap.size ≤ y ∧ y ≠ t ∧ y ≠ s ∧ ¬ F1 y
  blb : Blobs J1 l
section
variable {w wr w1 : World} {t s d : Nat} {D B : Nat → Nat} {recs : List Rec} {J J1 : Nat → Sl} {rt : Nat} {F F1 : Nat → Prop} {L l rem r : List En} {hi m i : Nat} {pre : Str} {bv v' : Value} {acc : List Rw} {news : List Rec} {e : En}
theorem BLI.len (h : BLI w t s d D B recs J rt F L l hi m pre i bv rem J1 acc news F1 wr) (hf : Fine l) : acc.length ≤ 8 ∧ (encs acc).length ≤ 120 ∧ (∀ x ∈ acc, WfR x) := by
  obtain ⟨done, h1, h2⟩ := h.don
  have h3 := h2.rel.len
  have h4 := tp_len l
  have h5 := hf.cnt
  have h6 := congrArg List.length h1
  rw [List.length_append] at h6
  have h7 := encs_bound h2.wf
  refine ⟨by omega, by omega, h2.wf⟩
/-- The buffer grows. -/
theorem BLI.grown (h : BLI w t s d D B recs J rt F L l hi m pre i bv rem J1 acc news F1 wr) {x : List Nat} (hu : UI wr bv v' x w1) : Wrote w w1 t s d D B recs J J1 rt F news F1 ∧ (∀ y, v'.ownBlock = some y → w.heap.size ≤ y ∧ y ≠ t ∧ y ≠ s ∧ ¬ F1 y) := by
  have hs := h.wrt.only.size
  obtain ⟨l1, l2, l3⟩ := h.wrt.ts.ts_lt
  refine ⟨h.wrt.own hu.ho (fun y hy => ?_), fun y hy => ?_⟩
  · have := h.bb y hy
    exact ⟨this.2.1, this.2.2.1, this.2.2.2, this.1⟩
  · rcases hu.hb y hy with e | e
    · exact h.bb y e
    · exact ⟨by omega, by omega, by omega, fun hf => by have := l3 y hf; omega⟩
theorem BLI.file (h : BLI w t s d D B recs J rt F L l hi m pre i bv (e :: r) J1 acc news F1 wr) (hf : Fine l) (hh : hi ≤ L.length) (hc : cutS e.path = none) (hu : UI wr bv v' (encs acc ++ enc (fileR e)) w1) : BLI w t s d D B recs J rt F L l hi m pre (i + 1) v' r J1 (acc ++ [fileR e]) news F1 w1 := by
  obtain ⟨g1, g2⟩ := h.grown hu
  obtain ⟨hl, h1, h2, h3⟩ := range_head (l := l) h.rng hh
  obtain ⟨done, hd, hR⟩ := h.don
  rw [tp_file r hc] at hd
  have hm : Tp.f e ∈ tp l := by rw [← hd]; simp
  refine ⟨g1, h3, by omega, ⟨done ++ [.f e], by rw [← hd]; simp, hR.file hf h.blb hm⟩, ?_, ?_, g2, h.blb⟩
  · rw [h.eq, tp_file r hc]
    rfl
  · rw [encs_snoc]; exact hu.own
/-- The rows of one directory. -/
theorem BLI.group (h : BLI w t s d D B recs J rt F L l hi m pre i bv (e :: r) J1 acc news F1 wr) (hh : hi ≤ L.length) {a b : Str} (hc : cutS e.path = some (a, b)) : Tp.d a (((e :: r).takeWhile (hasP a)).map (strip (a.length + 1))) ∈ tp l ∧ (L.drop i).take (i + ((e :: r).takeWhile (hasP a)).length - i) = (((e :: r).takeWhile (hasP a)).map (strip (a.length + 1))).map (addP (pre ++ a ++ [47])) ∧ (L.drop (i + ((e :: r).takeWhile (hasP a)).length)).take (hi - (i + ((e :: r).takeWhile (hasP a)).length)) = ((e :: r).dropWhile (hasP a)).map (addP pre) ∧ i + ((e :: r).takeWhile (hasP a)).length ≤ hi := by
  obtain ⟨done, hd, hR⟩ := h.don
  rw [tp_dir r hc] at hd
  obtain ⟨q1, q2⟩ := range_split (r := (e :: r).dropWhile (hasP a)) h.rng List.takeWhile_append_dropWhile.symm hh h.le
  refine ⟨by rw [← hd]; simp, by rw [q1]; exact sub_range (fun x hx => mem_takeW hx), q2, ?_⟩
  have hl := range_len h.rng hh h.le
  have : ((e :: r).takeWhile (hasP a)).length ≤ (e :: r).length := (List.takeWhile_sublist _).length_le
  have := h.le
  omega
theorem BLI.dir (h : BLI w t s d D B recs J rt F L l hi m pre i bv (e :: r) J1 acc news F1 wr) (hf : Fine l) (hh : hi ≤ L.length) {a b : Str} (hc : cutS e.path = some (a, b)) {sub : List En} (hsub : sub = ((e :: r).takeWhile (hasP a)).map (strip (a.length + 1))) {w2 : World} {n2 : List Rec} {F2 : Nat → Prop} (hB : BOk J1 (bld m J1 sub).1 sub (bld m J1 sub).2.1 (bld m J1 sub).2.2) (he : (bld m J1 sub).2.2 = 0)
    (hW : Wrote wr w1 t s d (replayB D news) B (recs ++ news) J1 (bld m J1 sub).1 rt F1 n2 F2) (hu : UI w1 bv v' (encs acc ++ enc ⟨true, 0, (bld m J1 sub).2.1, a⟩) w2) : BLI w t s d D B recs J rt F L l hi m pre (i + ((e :: r).takeWhile (hasP a)).length) v' ((e :: r).dropWhile (hasP a)) (bld m J1 sub).1 (acc ++ [⟨true, 0, (bld m J1 sub).2.1, a⟩]) (news ++ n2) F2 w2 := by
  obtain ⟨hm, _, hr2, hle⟩ := h.group hh hc
  rw [← hsub] at hm
  obtain ⟨done, hd, hR⟩ := h.don
  rw [tp_dir r hc, ← hsub] at hd
  have hWW := h.wrt.trans hW
  have hs := h.wrt.only.size
  have hs1 := hWW.only.size
  obtain ⟨l1, l2, l3⟩ := hWW.ts.ts_lt
  have hbv : ∀ y, bv.ownBlock = some y → y < wr.heap.size := fun y hy => ownsRow_lt h.buf y hy
  have bb2 : ∀ y, bv.ownBlock = some y → w.heap.size ≤ y ∧ y ≠ t ∧ y ≠ s ∧ ¬ F2 y := fun y hy => by
    have h1 := h.bb y hy
    have h2 := hbv y hy
    refine ⟨h1.1, h1.2.1, h1.2.2.1, fun e => ?_⟩
    rcases hW.ext y e with e | e
    · exact h1.2.2.2 e
    · omega
  refine ⟨hWW.own hu.ho (fun y hy => ?_), hr2, hle, ⟨done ++ [.d a sub], by rw [← hd]; simp, (hR.grow hB.grow).dir hf hm (hB.ok he)⟩, ?_, ?_, fun y hy => ?_, h.blb.grow hB.grow⟩
  · have := bb2 y hy
    exact ⟨this.2.1, this.2.2.1, this.2.2.2, this.1⟩
  · rw [h.eq, tp_dir r hc, ← hsub, bldL, if_pos he]
  · rw [encs_snoc]; exact hu.own
  · rcases hu.hb y hy with e | e
    · exact bb2 y e
    · exact ⟨by omega, by omega, by omega, fun hf => by have := l3 y hf; omega⟩
theorem BLI.fail (h : BLI w t s d D B recs J rt F L l hi m pre i bv (e :: r) J1 acc news F1 wr) {a b : Str} (hc : cutS e.path = some (a, b)) {sub : List En} (hsub : sub = ((e :: r).takeWhile (hasP a)).map (strip (a.length + 1))) (he : (bld m J1 sub).2.2 ≠ 0) : bld (m + 1) J l = ((bld m J1 sub).1, 0, (bld m J1 sub).2.2) := by
  have e1 : bldL (bld m) J (tp l) [] = ((bld m J1 sub).1, acc, (bld m J1 sub).2.2) := by
    rw [h.eq, tp_dir r hc, ← hsub, bldL, if_neg he]
  conv => lhs; unfold bld
  rw [e1]
  simp only
  rw [if_neg he]
theorem BLI.done (h : BLI w t s d D B recs J rt F L l hi m pre i bv [] J1 acc news F1 wr) : bld (m + 1) J l = finJ J1 l acc ∧ RowsOk J1 (tp l) acc := by
  have e1 : bldL (bld m) J (tp l) [] = (J1, acc, 0) := by rw [h.eq]; rfl
  obtain ⟨done, hd, hR⟩ := h.don
  rw [tp_nil, List.append_nil] at hd
  subst hd
  refine ⟨?_, hR⟩
  conv => lhs; unfold bld
  rw [e1]
  simp
end
end Go.Proofs.Qxb6500417aGreat
