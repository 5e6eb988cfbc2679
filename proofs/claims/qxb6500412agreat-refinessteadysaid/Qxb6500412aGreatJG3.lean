/-
  OWN WORK. THE TABLE LAW's GHOST: the whole of it; DueBracket.
-/
import Derived.Test.Qxb6500412aGreatJG2
namespace Go.Proofs.Qxb6500412aGreat
open Go.RowKit Go.PlainAid
set_option linter.unusedSimpArgs false
set_option linter.unusedVariables false

section
variable {w w' : World} {g : Nat} {cv mv : Value} {cl ml : List GE} {op : Bool}
/-- What a bracket step owes and does. -/
def DBr (kind : Int) (op : Bool) (C M : List Tb) (z : Int) (op' : Bool) (C' M' : List Tb) : Prop :=
  (kind = 1 ∧ op = true ∧ z = 3 ∧ op' = op ∧ C' = C ∧ M' = M) ∨ (kind = 1 ∧ op = false ∧ z = 0 ∧ op' = true ∧ C' = C ∧ M' = M) ∨ (kind ≠ 1 ∧ op = false ∧ z = 2 ∧ op' = op ∧ C' = C ∧ M' = M) ∨
  (kind = 2 ∧ op = true ∧ z = 0 ∧ op' = false ∧ C' = C ∧ M' = C) ∨ (kind ≠ 1 ∧ kind ≠ 2 ∧ op = true ∧ z = 0 ∧ op' = false ∧ C' = M ∧ M' = M)
end
end Go.Proofs.Qxb6500412aGreat
