/-
  OWN WORK. THE TABLE LAW's GHOST: what a changing step owes and does (the post of DueSchema and Due).
-/
import Derived.Test.Qxb6500412aGreatJH0
namespace Go.Proofs.Qxb6500412aGreat
open Go.RowKit Go.PlainAid
set_option linter.unusedSimpArgs false
set_option linter.unusedVariables false

theorem rowOp_nm {kind : Int} {T : ByteArray} {t0 : Tb} : (rowOp kind T t0).1.nm = t0.nm := by
  unfold rowOp delR updR insR
  (repeat' split) <;> rfl
theorem rowOp_same {kind : Int} {T : ByteArray} {t0 : Tb} : (rowOp kind T t0).2 ≠ 0 → (rowOp kind T t0).1 = t0 := by
  unfold rowOp delR updR insR
  (repeat' split) <;> intro z <;> first | rfl | exact absurd rfl z
section
variable {w w' : World} {g : Nat} {cv mv cv' : Value} {cl ml cl' : List GE} {op : Bool} {kind a : Int} {s T : ByteArray} {D : Db}
theorem cixD_yes {t0 : Tb} (d : DOk D) (hf : findD D s = some t0) : (cixD D s a).2 = (cixR t0 a).2 ∧ ((cixR t0 a).2 ≠ 0 → cixD D s a = (D, (cixR t0 a).2)) ∧ ((cixR t0 a).2 = 0 → cixD D s a = (putT (cixR t0 a).1 D, 0)) := by
  unfold cixD onT
  rw [hf]
  refine ⟨rfl, fun h => ?_, fun h => ?_⟩
  · simp only [if_neg h]
  · simp only [h, if_true]
theorem dueD_row (hk : kind = 7 ∨ kind = 8 ∨ kind = 9) : dueD kind a s T D = onT D s (fun t0 => rowOp kind T t0) := by
  unfold dueD rowOp
  rcases hk with rfl | rfl | rfl <;> rfl
end
end Go.Proofs.Qxb6500412aGreat
