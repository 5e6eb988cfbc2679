/-
  OWN WORK. THE CANONICAL WALK OF TWO LISTS, in plain terms.
-/
import Derived.Test.Qxb6500416aDJoin
namespace Go.Proofs.Qxb6500416a
set_option linter.unusedSimpArgs false
set_option linter.unusedVariables false

section
variable {α β : Type} [DecidableEq α] [DecidableEq β]
/-- The length of a longest common subsequence. -/
def lcs : List α → List α → Nat
  | [], _ => 0
  | _ :: _, [] => 0
  | x :: a, y :: b => if x = y then lcs a b + 1 else max (lcs a (y :: b)) (lcs (x :: a) b)
termination_by a b => a.length + b.length
/-- For each place of a its partner in b (counted from j on), or -1. -/
def mtc : List α → List α → Nat → List Int
  | [], _, _ => []
  | _ :: a, [], j => -1 :: mtc a [] j
  | x :: a, y :: b, j => if x = y then (j : Int) :: mtc a b (j + 1) else if lcs (x :: a) b ≤ lcs a (y :: b) then -1 :: mtc a (y :: b) j else mtc (x :: a) b (j + 1)
termination_by a b _ => a.length + b.length
theorem lcs_nil (b : List α) : lcs [] b = 0 := by unfold lcs; rfl
theorem lcs_nil' (a : List α) : lcs a [] = 0 := by cases a <;> (unfold lcs; rfl)
theorem lcs_cons (x y : α) (a b : List α) : lcs (x :: a) (y :: b) = if x = y then lcs a b + 1 else max (lcs a (y :: b)) (lcs (x :: a) b) := by rw [lcs]
theorem mtc_nil (b : List α) (j : Nat) : mtc [] b j = [] := by unfold mtc; rfl
theorem mtc_nil' (x : α) (a : List α) (j : Nat) : mtc (x :: a) [] j = -1 :: mtc a [] j := by rw [mtc]
theorem mtc_cons (x y : α) (a b : List α) (j : Nat) : mtc (x :: a) (y :: b) j = if x = y then (j : Int) :: mtc a b (j + 1) else if lcs (x :: a) b ≤ lcs a (y :: b) then -1 :: mtc a (y :: b) j else mtc (x :: a) b (j + 1) := by rw [mtc]
theorem lcs_map (f : α → β) : ∀ (n : Nat) (a b : List α), a.length + b.length ≤ n → (∀ x ∈ a, ∀ y ∈ b, f x = f y → x = y) → lcs (a.map f) (b.map f) = lcs a b
  | n, [], b, _, _ => by rw [List.map_nil, lcs_nil, lcs_nil]
  | n, x :: a, [], _, _ => by rw [List.map_nil, lcs_nil', lcs_nil']
  | 0, x :: a, y :: b, h, _ => by simp at h
  | n + 1, x :: a, y :: b, h, hf => by
    simp only [List.length_cons] at h
    rw [List.map_cons, List.map_cons, lcs_cons, lcs_cons]
    have h1 := lcs_map f n a b (by omega) (fun u hu v hv => hf u (by simp [hu]) v (by simp [hv]))
    have h2 := lcs_map f n a (y :: b) (by simp only [List.length_cons]; omega) (fun u hu v hv => hf u (by simp [hu]) v hv)
    have h3 := lcs_map f n (x :: a) b (by simp only [List.length_cons]; omega) (fun u hu v hv => hf u hu v (by simp [hv]))
    rw [List.map_cons] at h2 h3
    rw [h1, h2, h3]
    by_cases e : x = y
    · rw [if_pos e, if_pos (by rw [e])]
    · rw [if_neg e, if_neg (fun h => e (hf x (by simp) y (by simp) h))]
theorem mtc_map (f : α → β) : ∀ (n : Nat) (a b : List α) (j : Nat), a.length + b.length ≤ n → (∀ x ∈ a, ∀ y ∈ b, f x = f y → x = y) → mtc (a.map f) (b.map f) j = mtc a b j
  | n, [], b, j, _, _ => by rw [List.map_nil, mtc_nil, mtc_nil]
  | 0, x :: a, b, j, h, _ => by simp at h
  | n + 1, x :: a, [], j, h, hf => by
    have := mtc_map f n a [] j (by simp at h ⊢; omega) (fun u hu v hv => by simp at hv)
    rw [List.map_nil] at this ⊢
    rw [List.map_cons, mtc_nil', mtc_nil', this]
  | n + 1, x :: a, y :: b, j, h, hf => by
    simp only [List.length_cons] at h
    rw [List.map_cons, List.map_cons, mtc_cons, mtc_cons]
    have h1 := mtc_map f n a b (j + 1) (by omega) (fun u hu v hv => hf u (by simp [hu]) v (by simp [hv]))
    have h2 := mtc_map f n a (y :: b) j (by simp only [List.length_cons]; omega) (fun u hu v hv => hf u (by simp [hu]) v hv)
    have h3 := mtc_map f n (x :: a) b (j + 1) (by simp only [List.length_cons]; omega) (fun u hu v hv => hf u hu v (by simp [hv]))
    have l2 := lcs_map f _ a (y :: b) (Nat.le_refl _) (fun u hu v hv => hf u (by simp [hu]) v hv)
    have l3 := lcs_map f _ (x :: a) b (Nat.le_refl _) (fun u hu v hv => hf u hu v (by simp [hv]))
    rw [List.map_cons] at h2 h3 l2 l3
    rw [h1, h2, h3, l2, l3]
    by_cases e : x = y
    · rw [if_pos e, if_pos (by rw [e])]
    · rw [if_neg e, if_neg (fun h => e (hf x (by simp) y (by simp) h))]
theorem mtc_len : ∀ (n : Nat) (a b : List α) (j : Nat), a.length + b.length ≤ n → (mtc a b j).length = a.length
  | n, [], b, j, _ => by rw [mtc_nil]; rfl
  | 0, x :: a, b, j, h => by simp at h
  | n + 1, x :: a, [], j, h => by
    rw [mtc_nil', List.length_cons, List.length_cons, mtc_len n a [] j (by simp at h ⊢; omega)]
  | n + 1, x :: a, y :: b, j, h => by
    simp only [List.length_cons] at h
    rw [mtc_cons]
    split
    · rw [List.length_cons, List.length_cons, mtc_len n a b (j + 1) (by omega)]
    · split
      · rw [List.length_cons, List.length_cons, mtc_len n a (y :: b) j (by simp only [List.length_cons]; omega)]
      · exact mtc_len n (x :: a) b (j + 1) (by simp only [List.length_cons]; omega)
end
end Go.Proofs.Qxb6500416a
