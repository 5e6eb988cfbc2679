/-
  OWN WORK. TXN, plain: the state of a manager just opened.
-/
import Derived.Test.Qxb6500412aGreatXP7
namespace Go.Proofs.Qxb6500412aGreat
/-- A manager just opened over the database D. -/
def Mu0 (D : Db) : Mu := ⟨D, fun _ => false, fun _ _ => 0, fun _ => D⟩
end Go.Proofs.Qxb6500412aGreat
