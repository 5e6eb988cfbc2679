/-
  OWN WORK. THE TABLE LAW's GHOST: a row more; DueRow.
-/
import Derived.Test.Qxb6500412aGreatJG5
namespace Go.Proofs.Qxb6500412aGreat
open Go.RowKit Go.PlainAid
set_option linter.unusedSimpArgs false
set_option linter.unusedVariables false

section
variable {w : World} {l : List GE} {b cap i : Nat} {e : GE}
end
end Go.Proofs.Qxb6500412aGreat
