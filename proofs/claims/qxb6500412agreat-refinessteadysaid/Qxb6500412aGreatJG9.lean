/-
  OWN WORK. THE TABLE LAW's GHOST: DueRow of an Update, an Insert.
-/
import Derived.Test.Qxb6500412aGreatJG8
import Derived.Deep.AppendLies
namespace Go.Proofs.Qxb6500412aGreat
open Go.RowKit Go.PlainAid
set_option linter.unusedSimpArgs false
set_option linter.unusedVariables false

theorem rowP_len (t : ByteArray) : (rowP t).length ≤ 4 := fieldsP_len t 4 0
section
variable {w : World} {l : List GE} {b cap i : Nat} {e : GE} {t0 : Tb}
end
end Go.Proofs.Qxb6500412aGreat
