/-
  OWN WORK. THE TABLE LAW's GHOST: DueRow of a Delete.
-/
import Derived.Test.Qxb6500412aGreatJG6
namespace Go.Proofs.Qxb6500412aGreat
open Go.RowKit Go.PlainAid
set_option linter.unusedSimpArgs false
set_option linter.unusedVariables false

def rowOp (kind : Int) (T : ByteArray) (t0 : Tb) : Tb × Int := if kind = 9 then delR t0 (fstP T) else if kind = 8 then updR t0 (rowP T) else insR t0 (rowP T)
/-- Where the blocks of a turned table come from. -/
def GEn (w : World) (e e' : GE) : Prop := (∀ k, GEm e' k → GEm e k ∨ w.heap.size ≤ k) ∧ ∀ k, GEi e' k → GEi e k ∨ w.heap.size ≤ k
section
variable {w : World} {l : List GE} {b cap i : Nat} {e : GE} {t0 : Tb}
end
end Go.Proofs.Qxb6500412aGreat
