/-
  OWN WORK. THE CANONICAL WALK, step by step, in plain terms; the table of suffix lengths.
-/
import Derived.Test.Qxb6500416aDIntW
namespace Go.Proofs.Qxb6500416a
set_option linter.unusedSimpArgs false
set_option linter.unusedVariables false

section
variable {α : Type} [DecidableEq α]
/-- How far the canonical walk has come. -/
structure MtAt (x y : List α) (M : List Int) (i j : Nat) : Prop where
  il : i ≤ x.length
  jl : j ≤ y.length
  ml : M.length = x.length
  eq : mtc x y 0 = M.take i ++ mtc (x.drop i) (y.drop j) j
theorem take_set (M : List Int) (i : Nat) (v : Int) (h : i < M.length) : (M.set i v).take (i + 1) = M.take i ++ [v] := by
  rw [List.take_succ_eq_append_getElem (by simpa using h), List.take_set_of_le (Nat.le_refl _)]
  simp
variable {x y : List α} {M : List Int} {i j : Nat}
theorem MtAt.start (h : M.length = x.length) : MtAt x y M 0 0 := ⟨by omega, by omega, h, by simp⟩
theorem MtAt.keep (h : MtAt x y M i j) (hi : i < x.length) (hj : j < y.length) (he : x[i] = y[j]) : MtAt x y (M.set i (j : Int)) (i + 1) (j + 1) := by
  obtain ⟨il, jl, ml, eq⟩ := h
  refine ⟨hi, hj, by simpa using ml, ?_⟩
  rw [eq, take_set _ _ _ (by omega), List.drop_eq_getElem_cons hi, List.drop_eq_getElem_cons hj, mtc_cons, if_pos he]
  simp
theorem MtAt.end_ (h : MtAt x y M i j) (hi : i < x.length) (hj : ¬ j < y.length) : MtAt x y (M.set i (-1)) (i + 1) j := by
  obtain ⟨il, jl, ml, eq⟩ := h
  refine ⟨hi, jl, by simpa using ml, ?_⟩
  have hd : y.drop j = [] := List.drop_eq_nil_of_le (by omega)
  rw [eq, take_set _ _ _ (by omega), List.drop_eq_getElem_cons hi, hd, mtc_nil']
  simp
theorem MtAt.goes (h : MtAt x y M i j) (hi : i < x.length) (hj : j < y.length) (he : x[i] ≠ y[j]) (hl : lcs (x.drop i) (y.drop (j + 1)) ≤ lcs (x.drop (i + 1)) (y.drop j)) : MtAt x y (M.set i (-1)) (i + 1) j := by
  obtain ⟨il, jl, ml, eq⟩ := h
  refine ⟨hi, jl, by simpa using ml, ?_⟩
  rw [List.drop_eq_getElem_cons hi, List.drop_eq_getElem_cons hj] at hl
  rw [eq, take_set _ _ _ (by omega), List.drop_eq_getElem_cons hi, List.drop_eq_getElem_cons hj, mtc_cons, if_neg he, if_pos hl]
  simp
theorem MtAt.comes (h : MtAt x y M i j) (hi : i < x.length) (hj : j < y.length) (he : x[i] ≠ y[j]) (hl : ¬ lcs (x.drop i) (y.drop (j + 1)) ≤ lcs (x.drop (i + 1)) (y.drop j)) : MtAt x y M i (j + 1) := by
  obtain ⟨il, jl, ml, eq⟩ := h
  refine ⟨il, hj, ml, ?_⟩
  rw [List.drop_eq_getElem_cons hi, List.drop_eq_getElem_cons hj] at hl
  rw [eq, List.drop_eq_getElem_cons hi, List.drop_eq_getElem_cons hj, mtc_cons, if_neg he, if_neg hl]
theorem MtAt.fin (h : MtAt x y M i j) (hi : i = x.length) : M = mtc x y 0 := by
  obtain ⟨il, jl, ml, eq⟩ := h
  rw [eq, List.drop_eq_nil_of_le (by omega), mtc_nil, List.append_nil, List.take_of_length_le (by omega)]
/-- The cells behind (i, j) are right. -/
def Done (x y : List α) (T : Nat → Nat → Nat) (i j : Nat) : Prop := ∀ a b, a ≤ x.length → b ≤ y.length → (i < a ∨ (a = i ∧ j ≤ b) ∨ b = y.length ∨ a = x.length) → T a b = lcs (x.drop a) (y.drop b)
def upd2 (T : Nat → Nat → Nat) (i j v : Nat) : Nat → Nat → Nat := fun a b => if a = i ∧ b = j then v else T a b
theorem Done.start (x y : List α) (i : Nat) (hi : x.length ≤ i) : Done x y (fun _ _ => 0) i 0 := by
  intro a b ha hb h
  have : a = x.length ∨ b = y.length := by omega
  rcases this with e | e
  · rw [e, List.drop_length, lcs_nil]
  · rw [e, List.drop_length, lcs_nil']
theorem Done.row {T : Nat → Nat → Nat} (h : Done x y T (i + 1) 0) : Done x y T i y.length := by
  intro a b ha hb hc
  exact h a b ha hb (by omega)
theorem Done.get {T : Nat → Nat → Nat} {a b : Nat} (h : Done x y T i j) (ha : a ≤ x.length) (hb : b ≤ y.length) (hc : i < a ∨ (a = i ∧ j ≤ b)) : T a b = lcs (x.drop a) (y.drop b) := h a b ha hb (by omega)
theorem Done.set {T : Nat → Nat → Nat} {v : Nat} (h : Done x y T i (j + 1)) (hi : i < x.length) (hj : j < y.length) (hv : v = lcs (x.drop i) (y.drop j)) : Done x y (upd2 T i j v) i j := by
  intro a b ha hb hc
  unfold upd2
  by_cases e : a = i ∧ b = j
  · rw [if_pos e, hv, e.1, e.2]
  · rw [if_neg e]
    exact h a b ha hb (by omega)
theorem lcs_eqs (hi : i < x.length) (hj : j < y.length) (he : x[i] = y[j]) : lcs (x.drop i) (y.drop j) = lcs (x.drop (i + 1)) (y.drop (j + 1)) + 1 := by
  rw [List.drop_eq_getElem_cons hi, List.drop_eq_getElem_cons hj, lcs_cons, if_pos he]
theorem lcs_nes (hi : i < x.length) (hj : j < y.length) (he : x[i] ≠ y[j]) : lcs (x.drop i) (y.drop j) = max (lcs (x.drop (i + 1)) (y.drop j)) (lcs (x.drop i) (y.drop (j + 1))) := by
  rw [List.drop_eq_getElem_cons hi, List.drop_eq_getElem_cons hj, lcs_cons, if_neg he]
theorem lcs_le : ∀ (n : Nat) (a b : List α), a.length + b.length ≤ n → lcs a b ≤ a.length
  | n, [], b, _ => by rw [lcs_nil]; omega
  | n, x :: a, [], _ => by rw [lcs_nil']; omega
  | 0, x :: a, y :: b, h => by simp at h
  | n + 1, x :: a, y :: b, h => by
    simp only [List.length_cons] at h
    rw [lcs_cons]
    have h1 := lcs_le n a b (by omega)
    have h2 := lcs_le n a (y :: b) (by simp only [List.length_cons]; omega)
    have h3 := lcs_le n (x :: a) b (by simp only [List.length_cons]; omega)
    simp only [List.length_cons] at h2 h3 ⊢
    split <;> omega
end
/-- A flat table. -/
def flatF (T : Nat → Nat → Nat) (k1 : Nat) : Nat → Nat := fun c => T (c / k1) (c % k1)
theorem flatF_at (T : Nat → Nat → Nat) (k i j : Nat) (hj : j ≤ k) : flatF T (k + 1) (i * (k + 1) + j) = T i j := by
  unfold flatF
  have h1 : (i * (k + 1) + j) / (k + 1) = i := by
    rw [Nat.mul_comm, Nat.mul_add_div (by omega), Nat.div_eq_of_lt (by omega)]; omega
  have h2 : (i * (k + 1) + j) % (k + 1) = j := by
    rw [Nat.mul_comm, Nat.mul_add_mod, Nat.mod_eq_of_lt (by omega)]
  rw [h1, h2]
theorem flatF_set (T : Nat → Nat → Nat) (k i j v : Nat) (hj : j ≤ k) : updT (flatF T (k + 1)) (i * (k + 1) + j) v = flatF (upd2 T i j v) (k + 1) := by
  funext c
  unfold updT flatF upd2
  have h0 : (k + 1) * (c / (k + 1)) + c % (k + 1) = c := Nat.div_add_mod c (k + 1)
  by_cases e : c = i * (k + 1) + j
  · rw [if_pos e]
    have h1 : (i * (k + 1) + j) / (k + 1) = i := by
      rw [Nat.mul_comm, Nat.mul_add_div (by omega), Nat.div_eq_of_lt (by omega)]; omega
    have h2 : (i * (k + 1) + j) % (k + 1) = j := by
      rw [Nat.mul_comm, Nat.mul_add_mod, Nat.mod_eq_of_lt (by omega)]
    rw [e, h1, h2, if_pos ⟨rfl, rfl⟩]
  · rw [if_neg e, if_neg]
    rintro ⟨h1, h2⟩
    apply e
    rw [← h0, h1, h2, Nat.mul_comm]
theorem flatF_zero (k : Nat) : flatF (fun _ _ => 0) k = fun _ => 0 := rfl
/-- The numbers of lines. -/
theorem numL_mem : ∀ {L : List Str} {s : Str}, s ∈ L → ∃ h : numL L s < L.length, L[numL L s] = s
  | [], s, h => by simp at h
  | a :: r, s, h => by
    by_cases e : a = s
    · refine ⟨by simp [numL, e], by simp [numL, e]⟩
    · have hm : s ∈ r := by
        rcases List.mem_cons.1 h with h | h
        · exact absurd h.symm e
        · exact h
      obtain ⟨h1, h2⟩ := numL_mem hm
      have e2 : numL (a :: r) s = numL r s + 1 := by simp only [numL]; rw [if_neg e]
      refine ⟨by rw [e2]; simpa using h1, ?_⟩
      simp only [e2, List.getElem_cons_succ]
      exact h2
theorem numL_inj {L : List Str} {s t : Str} (hs : s ∈ L) (ht : t ∈ L) (h : numL L s = numL L t) : s = t := by
  obtain ⟨h1, h2⟩ := numL_mem hs
  obtain ⟨h3, h4⟩ := numL_mem ht
  rw [← h2, ← h4]
  congr 1
theorem addL_mem (L : List Str) (s : Str) : s ∈ addL L s := by
  unfold addL
  split
  · assumption
  · simp
theorem addL_sub (L : List Str) (s : Str) : ∀ t ∈ L, t ∈ addL L s := by
  intro t ht
  unfold addL
  split
  · exact ht
  · simp [ht]
theorem addL_num (L : List Str) (s t : Str) (ht : t ∈ L) : numL (addL L s) t = numL L t := by
  unfold addL
  split
  · rfl
  · have key : ∀ (L : List Str) (M : List Str), t ∈ L → numL (L ++ M) t = numL L t := by
      intro L
      induction L with
      | nil => intro M h; simp at h
      | cons a r ih =>
        intro M h
        rw [List.cons_append]
        simp only [numL]
        by_cases e : a = t
        · rw [if_pos e, if_pos e]
        · rw [if_neg e, if_neg e, ih M]
          rcases List.mem_cons.1 h with h | h
          · exact absurd h.symm e
          · exact h
    exact key L [s] ht
def addsL (L : List Str) (l : List Str) : List Str := l.foldl addL L
theorem addsL_sub (l : List Str) : ∀ (L : List Str), ∀ t ∈ L, t ∈ addsL L l := by
  induction l with
  | nil => intro L t h; exact h
  | cons a r ih => intro L t h; exact ih (addL L a) t (addL_sub L a t h)
theorem addsL_mem (l : List Str) : ∀ (L : List Str), ∀ t ∈ l, t ∈ addsL L l := by
  induction l with
  | nil => intro L t h; simp at h
  | cons a r ih =>
    intro L t h
    rcases List.mem_cons.1 h with h | h
    · rw [h]; exact addsL_sub r _ _ (addL_mem L a)
    · exact ih (addL L a) t h
theorem addsL_num (l : List Str) : ∀ (L : List Str) (t : Str), t ∈ L → numL (addsL L l) t = numL L t := by
  induction l with
  | nil => intro L t h; rfl
  | cons a r ih => intro L t h; rw [show addsL L (a :: r) = addsL (addL L a) r from rfl, ih _ t (addL_sub L a t h), addL_num L a t h]
theorem addL_len (L : List Str) (s : Str) : (addL L s).length ≤ L.length + 1 := by unfold addL; split <;> simp
theorem addsL_len (l : List Str) : ∀ (L : List Str), (addsL L l).length ≤ L.length + l.length := by
  induction l with
  | nil => intro L; simp [addsL]
  | cons a r ih => intro L; have := ih (addL L a); have := addL_len L a; simp only [List.length_cons]; show (addsL (addL L a) r).length ≤ _; omega
theorem addsL_snoc (L l : List Str) (s : Str) : addsL L (l ++ [s]) = addL (addsL L l) s := by unfold addsL; rw [List.foldl_append]; rfl
/-- The lines' numbers, by a pool. -/
def numsL (L : List Str) (l : List Str) : List Int := l.map (fun s => (numL L s : Int))
theorem numsL_len (L l : List Str) : (numsL L l).length = l.length := by simp [numsL]
theorem numsL_more (L l m : List Str) (h : ∀ t ∈ l, t ∈ L) : numsL (addsL L m) l = numsL L l := by
  unfold numsL
  apply List.map_congr_left
  intro t ht
  rw [addsL_num m L t (h t ht)]
theorem numsL_mtc (L a b : List Str) (j : Nat) (ha : ∀ t ∈ a, t ∈ L) (hb : ∀ t ∈ b, t ∈ L) : mtc (numsL L a) (numsL L b) j = mtc a b j :=
  mtc_map _ _ a b j (Nat.le_refl _) (fun x hx y hy h => numL_inj (ha x hx) (hb y hy) (by omega))
theorem numsL_eq (L a b : List Str) (ha : ∀ t ∈ a, t ∈ L) (hb : ∀ t ∈ b, t ∈ L) : numsL L a = numsL L b ↔ a = b := by
  refine ⟨fun h => ?_, fun h => by rw [h]⟩
  unfold numsL at h
  have hl : a.length = b.length := by simpa using congrArg List.length h
  apply List.ext_getElem hl
  intro i h1 h2
  have := congrArg (fun l => l[i]?) h
  simp [h1, h2] at this
  exact numL_inj (ha _ (List.getElem_mem h1)) (hb _ (List.getElem_mem h2)) (by omega)
theorem numsL_cut (L l : List Str) (a b : Nat) : numsL L (cutL l a b) = cutL (numsL L l) a b := by simp [numsL, cutL, List.map_take, List.map_drop]
end Go.Proofs.Qxb6500416a
