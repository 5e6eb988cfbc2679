/-
  OWN WORK. THE INDEX: New.
-/
import Derived.Test.Qxb6500418aIReset
namespace Go.Proofs.Qxb6500418a
open Go.RowKit Go.PlainAid
set_option linter.unusedSimpArgs false
set_option linter.unusedVariables false

def zeroIx : Array Value := tabV 394 (icell (fun _ => Nd.zero) 0 0)
set_option maxRecDepth 100000 in
theorem zeroIx_run (w : World) : (zeroValue 49).run Try.prog w = .ok (.agg zeroIx) w := by kernel_rfl

section
set_option maxRecDepth 100000 in
set_option maxHeartbeats 4000000 in
theorem inew_any (w : World) :
    Calls Try.prog 8 #[] w fun e w' => ∃ x, e = .returned (.pointer (some ⟨x, 0, none⟩)) ∧ w.heap.size ≤ x ∧ IX w' x [] ∧ Only (fun _ => False) w w' := by
  have z := zeroIx_run w
  have h0 : IAt (w.alloc (.cells zeroIx 49)) w.heap.size (fun _ => Nd.zero) 0 0 := Has.new w zeroIx 49
  have o0 : Only (fun _ => False) w (w.alloc (.cells zeroIx 49)) := (Only.refl _ w).alloc _
  have C1 := hide (reset_any h0)
  have hx : ∃ bx, bx = w.heap.size := ⟨_, rfl⟩
  obtain ⟨bx, hbx⟩ := hx
  have hbx1 : w.heap.size ≤ bx := by omega
  rw [← hbx] at C1
  clear h0
  go_enter Try.func8, Try.ntmps8
  go_wp2_with fail
  rw [← hbx]
  clear hbx z
  refine (unhide C1).mono ?_
  rintro e w1 ⟨rfl, h1, ho1⟩
  have hx1 : IX w1 bx [] := ⟨⟨freshP, 1, .nil, _, h1, fresh_inv, trivial, trivial, trivial, rfl⟩, by simp, by simp⟩
  have HX := hide hx1
  have oo := o0.trans ho1 (fun i hi e => by omega)
  clear hx1 h1 ho1
  go_wp2_with fail
  go_ret
  exact ⟨bx, rfl, hbx1, unhide HX, oo⟩
end
end Go.Proofs.Qxb6500418a
