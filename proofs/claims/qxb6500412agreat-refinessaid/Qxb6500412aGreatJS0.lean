/-
  OWN WORK. THE TABLE LAW: ScanDue (written by tools/gen_js0.py).
-/
import Derived.Test.Qxb6500412aGreatJG1
import Derived.Test.Qxb6500412aGreatERr
namespace Go.Proofs.Qxb6500412aGreat
open Go.RowKit Go.PlainAid
set_option linter.unusedSimpArgs false
set_option linter.unusedVariables false

/-- Which Errno a Scan owes. -/
def SDu (l : List GE) (nm : ByteArray) (col : Int) (lo hi : Bnd) (z : Int) : Prop := (z = 10 ∧ ∀ e ∈ l, e.t.nm ≠ nm) ∨ ∃ (i : Nat) (e : GE), l[i]? = some e ∧ e.t.nm = nm ∧ z = scnE e.t col lo hi
def scA (lh : Bool) (lv : Vl) : Array Value := #[.bool lh, .bool lv.str, .int .i64 lv.i, .string lv.s]
section
variable {w : World} {v : Value} {l : List GE}
end
end Go.Proofs.Qxb6500412aGreat
