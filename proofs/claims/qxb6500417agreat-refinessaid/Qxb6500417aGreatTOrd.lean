/-
  OWN WORK. The order of strings (the same text as in ITrie).
-/
import Derived.Test.Qxb6500417aGreatIFile
namespace Go.Proofs.Qxb6500417aGreat
open Go.RowKit Go.PlainAid
set_option linter.unusedSimpArgs false
set_option linter.unusedVariables false

/- The order of strings. -/
abbrev bl (a b : Str) : Bool := Op.bytesLess a b
theorem bl_nil (a : Str) : bl a [] = false := by cases a <;> rfl
theorem bl_cons (a b : UInt8) (x y : Str) : bl (a :: x) (b :: y) = (decide (a < b) || (a == b && bl x y)) := rfl
theorem bl_irr : ∀ a : Str, bl a a = false
  | [] => rfl
  | a :: x => by rw [bl_cons, bl_irr x]; simp
theorem bl_trans : ∀ a b c : Str, bl a b = true → bl b c = true → bl a c = true
  | a, [], c, h, _ => by rw [bl_nil] at h; cases h
  | a, b, [], _, h => by rw [bl_nil] at h; cases h
  | [], b :: y, c :: z, _, _ => rfl
  | a :: x, b :: y, c :: z, h1, h2 => by
    rw [bl_cons] at h1 h2 ⊢
    simp only [Bool.or_eq_true, Bool.and_eq_true, decide_eq_true_eq, beq_iff_eq] at h1 h2 ⊢
    rcases h1 with h1 | ⟨rfl, h1⟩
    · rcases h2 with h2 | ⟨rfl, h2⟩
      · exact .inl (UInt8.lt_trans h1 h2)
      · exact .inl h1
    · rcases h2 with h2 | ⟨rfl, h2⟩
      · exact .inl h2
      · exact .inr ⟨rfl, bl_trans x y z h1 h2⟩
theorem bl_asymm {a b : Str} (h : bl a b = true) : bl b a = false := by
  cases h2 : bl b a with
  | false => rfl
  | true => have := bl_trans a b a h h2; rw [bl_irr] at this; cases this
theorem bl_total : ∀ a b : Str, bl a b = true ∨ a = b ∨ bl b a = true
  | [], [] => .inr (.inl rfl)
  | [], _ :: _ => .inl rfl
  | _ :: _, [] => .inr (.inr rfl)
  | a :: x, b :: y => by
    rw [bl_cons, bl_cons]
    by_cases h : a = b
    · subst h
      rcases bl_total x y with h | h | h
      · left; simp [h]
      · right; left; rw [h]
      · right; right; simp [h]
    · have : a < b ∨ b < a := by
        rcases UInt8.lt_or_lt_of_ne h with h | h
        · exact .inl h
        · exact .inr h
      rcases this with h | h
      · left; simp [h]
      · right; right; simp [h]
theorem bl_app : ∀ (p x y : Str), bl (p ++ x) (p ++ y) = bl x y
  | [], x, y => rfl
  | a :: p, x, y => by
    rw [List.cons_append, List.cons_append, bl_cons, bl_app p x y]
    simp
theorem bl_right : ∀ (a b u : Str), bl a b = true → bl a (b ++ u) = true
  | a, [], u, h => by rw [bl_nil] at h; cases h
  | [], b :: y, u, _ => rfl
  | a :: x, b :: y, u, h => by
    rw [List.cons_append, bl_cons]
    rw [bl_cons] at h
    simp only [Bool.or_eq_true, Bool.and_eq_true, decide_eq_true_eq, beq_iff_eq] at h ⊢
    rcases h with h | ⟨rfl, h⟩
    · exact .inl h
    · exact .inr ⟨rfl, bl_right x y u h⟩
theorem bl_left : ∀ (a b u : Str), bl a b = true → ¬ a <+: b → bl (a ++ u) b = true
  | a, [], u, h, _ => by rw [bl_nil] at h; cases h
  | [], b :: y, u, _, hp => absurd (List.nil_prefix) hp
  | a :: x, b :: y, u, h, hp => by
    rw [List.cons_append, bl_cons]
    rw [bl_cons] at h
    simp only [Bool.or_eq_true, Bool.and_eq_true, decide_eq_true_eq, beq_iff_eq] at h ⊢
    rcases h with h | ⟨rfl, h⟩
    · exact .inl h
    · exact .inr ⟨rfl, bl_left x y u h (fun hp' => hp ((List.prefix_cons_inj a).2 hp'))⟩

end Go.Proofs.Qxb6500417aGreat
