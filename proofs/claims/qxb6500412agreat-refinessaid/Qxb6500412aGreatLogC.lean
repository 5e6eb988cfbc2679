/-
  OWN WORK. THE LOG: Check.
-/
import Derived.Test.Qxb6500412aGreatLogI
namespace Go.Proofs.Qxb6500412aGreat
open Go.RowKit
set_option linter.unusedSimpArgs false
set_option linter.unusedVariables false

/-- What Check asks of the write set. -/
structure GoodSet (op : Bool) (es : List (Nat × ByteArray)) : Prop where
  shut : op = false → es = []
  inn : ∀ e ∈ es, e.1 < 80
  size : ∀ e ∈ es, e.2.size = 128
  nodup : (es.map (·.1)).Nodup

theorem GoodSet.ne {op : Bool} {es : List (Nat × ByteArray)} (h : GoodSet op es) {i j : Nat} (hj : j < i) (hi : i < es.length) : es[j].1 ≠ es[i].1 := by
  have := (List.pairwise_iff_getElem.1 h.nodup) j i (by simp; omega) (by simpa using hi) hj
  simpa using this


end Go.Proofs.Qxb6500412aGreat
