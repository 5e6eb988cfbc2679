/-
  OWN WORK. THE GRAPH: a snapshot goes down, plain; what it costs.
-/
import Derived.Test.Qxb6500417aGreatGP2
import Derived.Test.Qxb6500417aGreatTWrt
namespace Go.Proofs.Qxb6500417aGreat
open Go.RowKit Go.PlainAid
set_option linter.unusedSimpArgs false
set_option linter.unusedVariables false

/-- The blobs of a snapshot, one by one. -/
def stJ : (Nat → Sl) → List Fl → List En → (Nat → Sl) × List En × Nat
  | J, [], acc => (J, acc, 0)
  | J, f :: r, acc => if (putJ J 1 (byL f.data)).2.2 = 0 then stJ (putJ J 1 (byL f.data)).1 r (acc ++ [⟨ls f.path, ((putJ J 1 (byL f.data)).2.1 : Nat), f.mode⟩]) else ((putJ J 1 (byL f.data)).1, acc, (putJ J 1 (byL f.data)).2.2)
def storeJ (J : Nat → Sl) (l : List Fl) : (Nat → Sl) × Nat × Nat := if (stJ J l []).2.2 = 0 then wrJ (stJ J l []).1 (stJ J l []).2.1 else ((stJ J l []).1, 0, (stJ J l []).2.2)
/-- How many trees the listing takes. -/
def ndL (nd : List En → Nat) : List Tp → Nat
  | [] => 0
  | .f _ :: ts => ndL nd ts
  | .d _ sub :: ts => nd sub + ndL nd ts
def nd : Nat → List En → Nat
  | 0, _ => 1
  | n + 1, l => 1 + ndL (nd n) (tp l)
theorem nd_pos : ∀ n l, 1 ≤ nd n l
  | 0, _ => by simp [nd]
  | n + 1, l => by unfold nd; omega
theorem fin_cnt (J : Nat → Sl) (l : List En) (rows : List Rw) : frJ J ≤ frJ (finJ J l rows).1 + 1 ∧ ((finJ J l rows).2.2 ≠ 0 → frJ J < 1) := by
  unfold finJ
  cases hF : findT J l with
  | some i => exact ⟨by show frJ J ≤ frJ J + 1; omega, fun h => absurd rfl h⟩
  | none =>
    cases hL : lowJ J with
    | some i =>
      obtain ⟨h1, h2, _⟩ := lowJ_some hL
      have := frJ_upd h1 h2 (x := ⟨1, 2, encs rows, l, rows⟩) rfl
      exact ⟨by show frJ J ≤ frJ (updT J i ⟨1, 2, encs rows, l, rows⟩) + 1; omega, fun h => absurd rfl h⟩
    | none =>
      have := frJ_full (lowJ_none hL)
      exact ⟨by show frJ J ≤ frJ J + 1; omega, fun _ => by omega⟩
theorem bldL_cnt {rec : (Nat → Sl) → List En → (Nat → Sl) × Nat × Nat} {ndr : List En → Nat} : ∀ (ts : List Tp) (hrec : ∀ a sub, Tp.d a sub ∈ ts → ∀ J, frJ J ≤ frJ (rec J sub).1 + ndr sub ∧ ((rec J sub).2.2 ≠ 0 → frJ J < ndr sub)) (J : Nat → Sl) (acc : List Rw), frJ J ≤ frJ (bldL rec J ts acc).1 + ndL ndr ts ∧ ((bldL rec J ts acc).2.2 ≠ 0 → frJ J < ndL ndr ts)
  | [], _, J, acc => ⟨by show frJ J ≤ frJ J + 0; omega, fun h => absurd rfl h⟩
  | .f e :: ts, hrec, J, acc => bldL_cnt ts (fun a sub hm => hrec a sub (by simp [hm])) J (acc ++ [fileR e])
  | .d a sub :: ts, hrec, J, acc => by
    obtain ⟨h1, h2⟩ := hrec a sub (by simp) J
    unfold bldL ndL
    by_cases h0 : (rec J sub).2.2 = 0
    · rw [if_pos h0]
      obtain ⟨h3, h4⟩ := bldL_cnt ts (fun a sub hm => hrec a sub (by simp [hm])) (rec J sub).1 (acc ++ [⟨true, 0, (rec J sub).2.1, a⟩])
      exact ⟨by omega, fun h => by have := h4 h; omega⟩
    · rw [if_neg h0]
      have := h2 h0
      exact ⟨by show frJ J ≤ frJ (rec J sub).1 + (ndr sub + ndL ndr ts); omega, fun _ => by omega⟩
theorem bld_cnt : ∀ (n : Nat) (J : Nat → Sl) (l : List En), Deep n l → n ≠ 0 → frJ J ≤ frJ (bld n J l).1 + nd n l ∧ ((bld n J l).2.2 ≠ 0 → frJ J < nd n l)
  | 0, J, l, _, h => absurd rfl h
  | n + 1, J, l, hd, _ => by
    have hrec : ∀ a sub, Tp.d a sub ∈ tp l → ∀ J, frJ J ≤ frJ (bld n J sub).1 + nd n sub ∧ ((bld n J sub).2.2 ≠ 0 → frJ J < nd n sub) := fun a sub hm J => by
      have hds := hd.sub hm
      have hne := (can_mem (tp_canon l) _ hm).2
      refine bld_cnt n J sub hds (fun e => ?_)
      subst e
      obtain ⟨x, r, rfl⟩ := List.exists_cons_of_ne_nil hne
      have := hds x (by simp)
      omega
    obtain ⟨h1, h2⟩ := bldL_cnt (tp l) hrec J []
    unfold bld nd
    by_cases h0 : (bldL (bld n) J (tp l) []).2.2 = 0
    · rw [if_pos h0]
      obtain ⟨h3, h4⟩ := fin_cnt (bldL (bld n) J (tp l) []).1 l (bldL (bld n) J (tp l) []).2.1
      exact ⟨by omega, fun h => by have := h4 h; omega⟩
    · rw [if_neg h0]
      have := h2 h0
      exact ⟨by show frJ J ≤ frJ (bldL (bld n) J (tp l) []).1 + (1 + ndL (nd n) (tp l)); omega, fun _ => by omega⟩
/-- Only trees have come. -/
def Tr2 (J J' : Nat → Sl) : Prop := ∀ i, J' i = J i ∨ (J' i).kd = 2
theorem Tr2.refl (J : Nat → Sl) : Tr2 J J := fun _ => .inl rfl
theorem Tr2.trans {J J1 J2 : Nat → Sl} (h : Tr2 J J1) (h2 : Tr2 J1 J2) : Tr2 J J2 := fun i => by
  rcases h2 i with e | e
  · rcases h i with f | f
    · exact .inl (e.trans f)
    · right; rw [e]; exact f
  · exact .inr e
theorem fin_tr2 (J : Nat → Sl) (l : List En) (rows : List Rw) : Tr2 J (finJ J l rows).1 := by
  unfold finJ
  cases hF : findT J l with
  | some i => exact Tr2.refl J
  | none =>
    cases hL : lowJ J with
    | some i =>
      intro j
      show updT J i _ j = J j ∨ (updT J i _ j).kd = 2
      by_cases e : j = i
      · right; rw [e, updJ_self]
      · left; exact updT_other _ _ _ _ e
    | none => exact Tr2.refl J
theorem bld_tr2 : ∀ (n : Nat) (J : Nat → Sl) (l : List En), Tr2 J (bld n J l).1
  | 0, J, l => Tr2.refl J
  | n + 1, J, l => by
    have hL : ∀ (ts : List Tp) (J : Nat → Sl) (acc : List Rw), Tr2 J (bldL (bld n) J ts acc).1 := fun ts => by
      induction ts with
      | nil => intro J acc; exact Tr2.refl J
      | cons x ts ih =>
        intro J acc
        cases x with
        | f e => exact ih J _
        | d a sub =>
          unfold bldL
          by_cases he : (bld n J sub).2.2 = 0
          · rw [if_pos he]; exact (bld_tr2 n J sub).trans (ih _ _)
          · rw [if_neg he]; exact bld_tr2 n J sub
    unfold bld
    by_cases he : (bldL (bld n) J (tp l) []).2.2 = 0
    · rw [if_pos he]; exact (hL _ _ _).trans (fin_tr2 _ _ _)
    · rw [if_neg he]; exact hL _ _ _
theorem BOk.fed {J : Nat → Sl} {l : List En} {n i e : Nat} (h : BOk J (bld n J l).1 l i e) : Fed J (bld n J l).1 := by
  refine ⟨h.inv, h.grow, fun j hj h0 h1 => ?_⟩
  rcases bld_tr2 n J l j with e | e
  · rw [e] at h1; exact absurd h0 h1
  · exact .inr e
theorem put_fed {J : Nat → Sl} (hI : Inv J) (dat : List Nat) : Fed J (putJ J 1 dat).1 ∧ frJ J ≤ frJ (putJ J 1 dat).1 + 1 ∧ (((putJ J 1 dat).2.2 = 0 ∧ In (putJ J 1 dat).2.1 ∧ liveS ((putJ J 1 dat).1 (putJ J 1 dat).2.1) = true ∧ ((putJ J 1 dat).1 (putJ J 1 dat).2.1).kd = 1 ∧ ((putJ J 1 dat).1 (putJ J 1 dat).2.1).dat = dat) ∨ ((putJ J 1 dat).2.2 = 5 ∧ (putJ J 1 dat).2.1 = 0 ∧ frJ J = 0)) := by
  cases putC J 1 dat with
  | old i e hi hl hk hd =>
    rw [e]
    exact ⟨Fed.refl hI, by show frJ J ≤ frJ J + 1; omega, .inl ⟨rfl, hi, hl, hk, hd⟩⟩
  | new i e hi h0 hno =>
    rw [e]
    obtain ⟨h1, h2⟩ := hI.putNew (dat := dat) hi h0 (by omega) (by omega) (by omega : (1 : Nat) ≠ 2)
    have h3 := frJ_upd hi h0 (x := ⟨1, 1, dat, [], []⟩) rfl
    refine ⟨⟨h1, h2, fun j hj g0 g1 => ?_⟩, by show frJ J ≤ frJ (updT J i ⟨1, 1, dat, [], []⟩) + 1; omega, .inl ⟨rfl, hi, ?_, ?_, ?_⟩⟩
    · show (updT J i _ j).kd = 1 ∨ _
      by_cases e : j = i
      · left; rw [e, updJ_self]
      · have : updT J i ⟨1, 1, dat, [], []⟩ j = J j := updT_other _ _ _ _ e
        rw [show (updT J i ⟨1, 1, dat, [], []⟩, i, 0).1 j = J j from this] at g1
        exact absurd g0 g1
    · show liveS (updT J i _ i) = true
      rw [updJ_self]; rfl
    · show (updT J i _ i).kd = 1
      rw [updJ_self]
    · show (updT J i _ i).dat = dat
      rw [updJ_self]
  | full e hf =>
    rw [e]
    exact ⟨Fed.refl hI, by show frJ J ≤ frJ J + 1; omega, .inr ⟨rfl, rfl, frJ_full hf⟩⟩
/-- The entries of a snapshot whose blobs are there. -/
structure EntF (J : Nat → Sl) (f : Fl) (e : En) : Prop where
  path : e.path = ls f.path
  mode : e.mode = f.mode
  iin : In e.id.toNat
  inn : 0 ≤ e.id
  lv : liveS (J e.id.toNat) = true
  kd : (J e.id.toNat).kd = 1
  dat : (J e.id.toNat).dat = byL f.data
inductive EntsF (J : Nat → Sl) : List Fl → List En → Prop where
  | nil : EntsF J [] []
  | cons {f : Fl} {e : En} {l : List Fl} {m : List En} (h : EntF J f e) (hs : EntsF J l m) : EntsF J (f :: l) (e :: m)
theorem EntF.grow {J J' : Nat → Sl} {f : Fl} {e : En} (h : EntF J f e) (hg : Grow J J') : EntF J' f e := by
  have := hg _ h.iin (liveS_ne h.lv)
  exact ⟨h.path, h.mode, h.iin, h.inn, by rw [this]; exact h.lv, by rw [this]; exact h.kd, by rw [this]; exact h.dat⟩
theorem EntsF.grow {J J' : Nat → Sl} (hg : Grow J J') {l : List Fl} {m : List En} (h : EntsF J l m) : EntsF J' l m := by
  induction h with
  | nil => exact .nil
  | cons h _ ih => exact .cons (h.grow hg) ih
theorem EntsF.snoc {J : Nat → Sl} {l : List Fl} {m : List En} (h : EntsF J l m) {f : Fl} {e : En} (h1 : EntF J f e) : EntsF J (l ++ [f]) (m ++ [e]) := by
  induction h with
  | nil => exact .cons h1 .nil
  | cons h _ ih => exact .cons h ih
theorem EntsF.len {J : Nat → Sl} {l : List Fl} {m : List En} (h : EntsF J l m) : m.length = l.length := by
  induction h with
  | nil => rfl
  | cons h _ ih => simp [ih]
theorem EntsF.mem {J : Nat → Sl} {l : List Fl} {m : List En} (h : EntsF J l m) : ∀ e ∈ m, ∃ f, EntF J f e := by
  induction h with
  | nil => simp
  | cons h _ ih =>
    intro e he
    rcases List.mem_cons.1 he with rfl | he
    · exact ⟨_, h⟩
    · exact ih e he
theorem EntsF.paths {J : Nat → Sl} {l : List Fl} {m : List En} (h : EntsF J l m) : m.map (fun e => e.path) = l.map (fun f => ls f.path) := by
  induction h with
  | nil => rfl
  | cons h _ ih => rw [List.map_cons, List.map_cons, ih, h.path]
theorem EntsF.snap {J : Nat → Sl} {l : List Fl} {m : List En} (h : EntsF J l m) : m.map (flJ J) = l := by
  induction h with
  | nil => rfl
  | @cons f e l m h _ ih =>
    rw [List.map_cons, ih]
    congr 1
    unfold flJ
    rw [h.path, h.mode, h.dat, sb_ls, bsOf_byL]
theorem rowErr_zero {p : ByteArray} {m : Int} {n : Nat} {prev : List ByteArray} (h : rowErr p m n prev = 0) : rowErr p m 0 prev = 0 := by
  unfold rowErr at h ⊢
  by_cases h1 : goodB (ls p) = false
  · rw [if_pos h1] at h; cases h
  · rw [if_neg h1] at h ⊢
    by_cases h2 : m < 0 ∨ 3 < m
    · rw [if_pos h2] at h; cases h
    · rw [if_neg h2] at h ⊢
      by_cases h3 : 180 < n
      · rw [if_pos h3] at h; cases h
      · rw [if_neg h3] at h
        rw [if_neg (by omega)]
        exact h
theorem EntsF.chk {J : Nat → Sl} : ∀ {l : List Fl} {m : List En} (h : EntsF J l m) (prev : List ByteArray), chkF l prev = 0 → chkE m prev = 0
  | [], [], _, prev, _ => rfl
  | f :: l, e :: m, .cons h hs, prev, hc => by
    unfold chkF at hc
    unfold chkE
    rw [h.path, sb_ls, h.mode]
    by_cases h0 : rowErr f.path f.mode f.data.size prev = 0
    · rw [if_pos h0] at hc
      have h1 : rowErr f.path f.mode 0 prev = 0 := rowErr_zero h0
      rw [if_pos h1]
      exact EntsF.chk hs _ hc
    · rw [if_neg h0] at hc
      exact absurd hc h0
theorem stJ_ok : ∀ (l done : List Fl) (J : Nat → Sl) (acc : List En), Inv J → EntsF J done acc → Fed J (stJ J l acc).1 ∧ frJ J ≤ frJ (stJ J l acc).1 + l.length ∧ (((stJ J l acc).2.2 = 0 ∧ EntsF (stJ J l acc).1 (done ++ l) (stJ J l acc).2.1) ∨ ((stJ J l acc).2.2 = 5 ∧ frJ J < l.length))
  | [], done, J, acc, hI, hE => ⟨Fed.refl hI, by show frJ J ≤ frJ J + 0; omega, .inl ⟨rfl, by rw [List.append_nil]; exact hE⟩⟩
  | f :: r, done, J, acc, hI, hE => by
    obtain ⟨h1, h2, h3⟩ := put_fed hI (byL f.data)
    unfold stJ
    rcases h3 with ⟨h3, h4, h5, h6, h7⟩ | ⟨h3, h4, h5⟩
    · rw [if_pos h3]
      have hE' : EntsF (putJ J 1 (byL f.data)).1 (done ++ [f]) (acc ++ [⟨ls f.path, ((putJ J 1 (byL f.data)).2.1 : Nat), f.mode⟩]) := (hE.grow h1.grow).snoc ⟨rfl, rfl, by simpa using h4, by simp, by simpa using h5, by simpa using h6, by simpa using h7⟩
      obtain ⟨g1, g2, g3⟩ := stJ_ok r (done ++ [f]) _ _ h1.inv hE'
      refine ⟨h1.trans g1, by rw [List.length_cons]; omega, ?_⟩
      rw [List.append_assoc] at g3
      rcases g3 with g3 | ⟨g3, g4⟩
      · exact .inl g3
      · exact .inr ⟨g3, by rw [List.length_cons]; omega⟩
    · rw [if_neg (by omega)]
      exact ⟨h1, by show frJ J ≤ frJ (putJ J 1 (byL f.data)).1 + (r.length + 1); omega, .inr ⟨h3, by rw [List.length_cons]; omega⟩⟩
/-- What the store of a lawful snapshot leaves. -/
structure StoP (J J' : Nat → Sl) (l : List Fl) (i e : Nat) (c : Nat) : Prop where
  fed : Fed J J'
  fr : frJ J ≤ frJ J' + c
  res : (e = 0 ∧ IsT J' i ∧ snapJ J' i = l) ∨ (e = 5 ∧ i = 0 ∧ frJ J < c)
theorem storeJ_ok {J : Nat → Sl} (hI : Inv J) {l : List Fl} (hc : checkF l = 0) : ∃ m : List En, m.map (fun e => e.path) = l.map (fun f => ls f.path) ∧ StoP J (storeJ J l).1 l (storeJ J l).2.1 (storeJ J l).2.2 (l.length + nd 6 m) := by
  obtain ⟨h1, h2, h3⟩ := stJ_ok l [] J [] hI .nil
  unfold storeJ
  rcases h3 with ⟨h3, h4⟩ | ⟨h3, h4⟩
  · rw [if_pos h3]
    rw [List.nil_append] at h4
    have hl8 : ¬ 8 < l.length := fun h => by unfold checkF at hc; rw [if_pos h] at hc; cases hc
    have hce : checkE (stJ J l []).2.1 = 0 := by
      unfold checkE
      rw [if_neg (by rw [h4.len]; exact hl8)]
      refine h4.chk [] ?_
      unfold checkF at hc
      rwa [if_neg hl8] at hc
    have hid : ∀ e ∈ (stJ J l []).2.1, 1 ≤ e.id ∧ e.id ≤ 48 := fun e he => by
      obtain ⟨f, hf⟩ := h4.mem e he
      have := hf.iin
      have := hf.inn
      exact ⟨by have := hf.iin.1; omega, by have := hf.iin.2; omega⟩
    have hbl : (stJ J l []).2.1.all (blobE (stJ J l []).1) = true := by
      rw [List.all_eq_true]
      intro e he
      obtain ⟨f, hf⟩ := h4.mem e he
      unfold blobE
      simp only [Bool.and_eq_true, decide_eq_true_eq]
      exact ⟨hid e he, by rw [kindJ_live hf.iin hf.lv]; exact hf.kd⟩
    have hfine := checkE_fine hce hid
    have hB := bld_ok 6 (stJ J l []).1 (stJ J l []).2.1 h1.inv hfine hfine.deep (fun e he => by
      obtain ⟨f, hf⟩ := h4.mem e he
      exact ⟨hf.iin, hf.lv, hf.kd⟩)
    obtain ⟨c1, c2⟩ := bld_cnt 6 (stJ J l []).1 (stJ J l []).2.1 hfine.deep (by omega)
    refine ⟨(stJ J l []).2.1, ?_, ?_⟩
    · exact h4.paths
    · have e : wrJ (stJ J l []).1 (stJ J l []).2.1 = bld 6 (stJ J l []).1 (stJ J l []).2.1 := by
        unfold wrJ
        rw [if_pos hce, if_pos hbl]
      rw [e]
      refine ⟨h1.trans hB.fed, by omega, ?_⟩
      rcases hB.err with he | ⟨he, hi⟩
      · obtain ⟨k1, k2, k3, k4⟩ := hB.ok he
        refine .inl ⟨he, ⟨k1, k2, k3⟩, ?_⟩
        unfold snapJ
        rw [k4]
        exact (h4.grow hB.grow).snap
      · exact .inr ⟨he, hi, by have := c2 (by omega); omega⟩
  · rw [if_neg (by omega)]
    refine ⟨l.map (fun f => ⟨ls f.path, 0, 0⟩), by simp [Function.comp_def], ⟨h1, ?_, .inr ⟨h3, rfl, ?_⟩⟩⟩
    · have := nd_pos 6 (l.map (fun f => (⟨ls f.path, 0, 0⟩ : En)))
      show frJ J ≤ frJ (stJ J l []).1 + _
      omega
    · have := nd_pos 6 (l.map (fun f => (⟨ls f.path, 0, 0⟩ : En)))
      omega
end Go.Proofs.Qxb6500417aGreat
