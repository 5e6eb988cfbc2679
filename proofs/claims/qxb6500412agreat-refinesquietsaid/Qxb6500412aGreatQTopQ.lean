/-
  OWN WORK. QUERY's LAW: RefinesQuiet.
-/
import Derived.Test.Qxb6500412aGreatQWkQ
namespace Go.Proofs.Qxb6500412aGreat
open Go.RowKit Go.PlainAid
set_option linter.unusedSimpArgs false
set_option linter.unusedVariables false

theorem qrefinesQuiet_any (ad : Option Addr) (len cap : Nat) (ops : List OpD) (w : World) (hops : OpsAt w ad len ops) (hlen : len ≤ 4398046511104) :
    Calls Tryz.prog 6 #[.slice ad len cap] w fun e w' => e = .returned (.bool true) ∧ Below w.heap.size w w' := by
  have C1 := hide (qwalkQ_any ad len cap ops w hops hlen)
  go_enter Tryz.func6, Tryz.ntmps6
  go_wp2_with fail
  refine (unhide C1).mono ?_
  rintro e w' ⟨⟨v, rfl⟩, hb⟩
  go_wp2_with fail
  go_ret
  exact ⟨rfl, hb⟩
end Go.Proofs.Qxb6500412aGreat
