/-
  No cell of these rows narrows 'for every input' (looked for: loops, veiled, ifaces, maps, wideKeys, modest, calm, conditions, laid).
  DERIVED. THE GIVEN ROWS OF THIS SEAT. 3 by the template 'for every input the law returns true; each argument reads behind the call as it read before'; 0 by the template 'total and deterministic' (their statements: Qxb6500417aGreatTotals.lean).
  GIVEN WITH THE SEED: the statements are not yours to turn. If you find one false, say at which input.
  Laid BY PROGRAM, IN A SANDBOX (cutbox-rows.mjs): the forced cells as the released guide's own fill.sh prints them over the translation b236b45f1c9064ad… (all of the seat's roots in one cut). By AI agents, Wed Nov 11 2026. No macro, syntax, notation, axiom, sorry.
-/
import Derived.Test.Qxb6500417aGreatChecked
import GoSem.Claim
import GoSem.ClaimJoined
import GoSem.ClaimMapViews
import Derived.JoinedTies
import Derived.KernelRfl
namespace Go.Proofs.Qxb6500417aGreat
/- THE CELL 'sum', in the pinned program and in every row, IS THE sha256 OF THE DUMP (.gsa) THAT Qxb6500417aGreatProg.lean LOADS. Nothing in Lean hashes anything: it is a label: what it is worth is what the hold of that sum in a sandbox is worth. -/
noncomputable def Tryz.pinned : Pinned := { name := "qxb6500417agreat", sum := "b236b45f1c9064ad2a8c5130d3ebc3682fc0eaa63533e5d240e72bc320eb0df8", checked := Tryz.checked }
namespace Rows
def none {H : Type} : Left H := { results := [], args := [] }

/-- 'graphlaw.Refines': WHATEVER THE INPUT: true; the input reads as it did. -/
def refinesSpec : ChangeSpec := { name := "refines", fn := fun _ => fun
  | [d] => { results := [.lit (.bool true)], args := [d] }
  | _ => none }
def refinesRow : OpenClaim := { program := "qxb6500417agreat", sum := "b236b45f1c9064ad2a8c5130d3ebc3682fc0eaa63533e5d240e72bc320eb0df8", func := "e2e/graphlaw.Refines", spec := "refines", recurses := true, apart := false }
def RefinesSaid : Prop := refinesRow.holds Tryz.pinned (OpenSpec.ofChange refinesSpec)

/-- ITS FALSE NEIGHBOUR: 'it returns false'. Refute it at one input. -/
def refinesWrong : ChangeSpec := { name := "refines", fn := fun _ => fun
  | [d] => { results := [.lit (.bool false)], args := [d] }
  | _ => none }
def RefinesWrongFalsely : Prop := refinesRow.holds Tryz.pinned (OpenSpec.ofChange refinesWrong)

/-- 'graphlaw.RefinesSteady': WHATEVER THE INPUT: true; the input reads as it did. -/
def refinesSteadySpec : ChangeSpec := { name := "refinesSteady", fn := fun _ => fun
  | [d] => { results := [.lit (.bool true)], args := [d] }
  | _ => none }
def refinesSteadyRow : OpenClaim := { program := "qxb6500417agreat", sum := "b236b45f1c9064ad2a8c5130d3ebc3682fc0eaa63533e5d240e72bc320eb0df8", func := "e2e/graphlaw.RefinesSteady", spec := "refinesSteady", recurses := true, apart := false }
def RefinesSteadySaid : Prop := refinesSteadyRow.holds Tryz.pinned (OpenSpec.ofChange refinesSteadySpec)

/-- ITS FALSE NEIGHBOUR: 'it returns false'. Refute it at one input. -/
def refinesSteadyWrong : ChangeSpec := { name := "refinesSteady", fn := fun _ => fun
  | [d] => { results := [.lit (.bool false)], args := [d] }
  | _ => none }
def RefinesSteadyWrongFalsely : Prop := refinesSteadyRow.holds Tryz.pinned (OpenSpec.ofChange refinesSteadyWrong)

/-- 'graphlaw.RefinesQuiet': WHATEVER THE INPUT: true; the input reads as it did. -/
def refinesQuietSpec : ChangeSpec := { name := "refinesQuiet", fn := fun _ => fun
  | [d] => { results := [.lit (.bool true)], args := [d] }
  | _ => none }
def refinesQuietRow : OpenClaim := { program := "qxb6500417agreat", sum := "b236b45f1c9064ad2a8c5130d3ebc3682fc0eaa63533e5d240e72bc320eb0df8", func := "e2e/graphlaw.RefinesQuiet", spec := "refinesQuiet", recurses := true, apart := false }
def RefinesQuietSaid : Prop := refinesQuietRow.holds Tryz.pinned (OpenSpec.ofChange refinesQuietSpec)

/-- ITS FALSE NEIGHBOUR: 'it returns false'. Refute it at one input. -/
def refinesQuietWrong : ChangeSpec := { name := "refinesQuiet", fn := fun _ => fun
  | [d] => { results := [.lit (.bool false)], args := [d] }
  | _ => none }
def RefinesQuietWrongFalsely : Prop := refinesQuietRow.holds Tryz.pinned (OpenSpec.ofChange refinesQuietWrong)

end Rows
end Go.Proofs.Qxb6500417aGreat
