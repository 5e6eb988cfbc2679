/-
  No cell of these rows narrows 'for every input' (looked for: loops, veiled, ifaces, maps, wideKeys, modest, calm, conditions, laid).
  DERIVED. THE GIVEN ROWS OF THIS SEAT. 4 by the template 'for every input the law returns true; each argument reads behind the call as it read before'; 0 by the template 'total and deterministic' (their statements: Qxb6500412aGreatTotals.lean).
  GIVEN WITH THE SEED: the statements are not yours to turn. If you find one false, say at which input.
  Laid BY PROGRAM, IN A SANDBOX (cutbox-rows.mjs): the forced cells as the released guide's own fill.sh prints them over the translation 177bde318aa18563… (all of the seat's roots in one cut). By AI agents, Wed Nov 11 2026. No macro, syntax, notation, axiom, sorry.
-/
import Derived.Test.Qxb6500412aGreatChecked
import GoSem.Claim
import GoSem.ClaimJoined
import GoSem.ClaimMapViews
import Derived.JoinedTies
import Derived.KernelRfl
namespace Go.Proofs.Qxb6500412aGreat
/- THE CELL 'sum', in the pinned program and in every row, IS THE sha256 OF THE DUMP (.gsa) THAT Qxb6500412aGreatProg.lean LOADS. Nothing in Lean hashes anything: it is a label: what it is worth is what the hold of that sum in a sandbox is worth. -/
noncomputable def Tryz.pinned : Pinned := { name := "qxb6500412agreat", sum := "177bde318aa18563cd3cb91e538e41625f8a0d1165503fe512b1923d6594226a", checked := Tryz.checked }
namespace Rows
def none {H : Type} : Left H := { results := [], args := [] }

/-- 'querylaw.Keeps': WHATEVER THE INPUT: true; the input reads as it did. -/
def keepsSpec : ChangeSpec := { name := "keeps", fn := fun _ => fun
  | [d] => { results := [.lit (.bool true)], args := [d] }
  | _ => none }
def keepsRow : OpenClaim := { program := "qxb6500412agreat", sum := "177bde318aa18563cd3cb91e538e41625f8a0d1165503fe512b1923d6594226a", func := "e2e/querylaw.Keeps", spec := "keeps", recurses := true, apart := false }
def KeepsSaid : Prop := keepsRow.holds Tryz.pinned (OpenSpec.ofChange keepsSpec)

/-- ITS FALSE NEIGHBOUR: 'it returns false'. Refute it at one input. -/
def keepsWrong : ChangeSpec := { name := "keeps", fn := fun _ => fun
  | [d] => { results := [.lit (.bool false)], args := [d] }
  | _ => none }
def KeepsWrongFalsely : Prop := keepsRow.holds Tryz.pinned (OpenSpec.ofChange keepsWrong)

/-- 'querylaw.Refines': WHATEVER THE INPUT: true; the input reads as it did. -/
def refinesSpec : ChangeSpec := { name := "refines", fn := fun _ => fun
  | [d] => { results := [.lit (.bool true)], args := [d] }
  | _ => none }
def refinesRow : OpenClaim := { program := "qxb6500412agreat", sum := "177bde318aa18563cd3cb91e538e41625f8a0d1165503fe512b1923d6594226a", func := "e2e/querylaw.Refines", spec := "refines", recurses := true, apart := false }
def RefinesSaid : Prop := refinesRow.holds Tryz.pinned (OpenSpec.ofChange refinesSpec)

/-- ITS FALSE NEIGHBOUR: 'it returns false'. Refute it at one input. -/
def refinesWrong : ChangeSpec := { name := "refines", fn := fun _ => fun
  | [d] => { results := [.lit (.bool false)], args := [d] }
  | _ => none }
def RefinesWrongFalsely : Prop := refinesRow.holds Tryz.pinned (OpenSpec.ofChange refinesWrong)

/-- 'querylaw.RefinesSteady': WHATEVER THE INPUT: true; the input reads as it did. -/
def refinesSteadySpec : ChangeSpec := { name := "refinesSteady", fn := fun _ => fun
  | [d] => { results := [.lit (.bool true)], args := [d] }
  | _ => none }
def refinesSteadyRow : OpenClaim := { program := "qxb6500412agreat", sum := "177bde318aa18563cd3cb91e538e41625f8a0d1165503fe512b1923d6594226a", func := "e2e/querylaw.RefinesSteady", spec := "refinesSteady", recurses := true, apart := false }
def RefinesSteadySaid : Prop := refinesSteadyRow.holds Tryz.pinned (OpenSpec.ofChange refinesSteadySpec)

/-- ITS FALSE NEIGHBOUR: 'it returns false'. Refute it at one input. -/
def refinesSteadyWrong : ChangeSpec := { name := "refinesSteady", fn := fun _ => fun
  | [d] => { results := [.lit (.bool false)], args := [d] }
  | _ => none }
def RefinesSteadyWrongFalsely : Prop := refinesSteadyRow.holds Tryz.pinned (OpenSpec.ofChange refinesSteadyWrong)

/-- 'querylaw.RefinesQuiet': WHATEVER THE INPUT: true; the input reads as it did. -/
def refinesQuietSpec : ChangeSpec := { name := "refinesQuiet", fn := fun _ => fun
  | [d] => { results := [.lit (.bool true)], args := [d] }
  | _ => none }
def refinesQuietRow : OpenClaim := { program := "qxb6500412agreat", sum := "177bde318aa18563cd3cb91e538e41625f8a0d1165503fe512b1923d6594226a", func := "e2e/querylaw.RefinesQuiet", spec := "refinesQuiet", recurses := true, apart := false }
def RefinesQuietSaid : Prop := refinesQuietRow.holds Tryz.pinned (OpenSpec.ofChange refinesQuietSpec)

/-- ITS FALSE NEIGHBOUR: 'it returns false'. Refute it at one input. -/
def refinesQuietWrong : ChangeSpec := { name := "refinesQuiet", fn := fun _ => fun
  | [d] => { results := [.lit (.bool false)], args := [d] }
  | _ => none }
def RefinesQuietWrongFalsely : Prop := refinesQuietRow.holds Tryz.pinned (OpenSpec.ofChange refinesQuietWrong)

end Rows
end Go.Proofs.Qxb6500412aGreat
