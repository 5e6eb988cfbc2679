/-
  OWN WORK. QUERY's LAW: SameActive, SameLockOf.
-/
import Derived.Test.Qxb6500412aGreatQL0
import Derived.Test.Qxb6500412aGreatS47
namespace Go.Proofs.Qxb6500412aGreat
open Go.RowKit Go.PlainAid
set_option linter.unusedSimpArgs false
set_option linter.unusedVariables false

section
variable {p : Gnd} {w : World} {k g x k2 q2 : Nat} {M N : Mu} {K H : Nat → Prop} {last : Int}
set_option maxRecDepth 100000 in
theorem slsameActive_any (R : QR p w k g x M K last) (E : ME w k2 q2 N H) (s : Int) : Calls Tryz.prog 69 #[.pointer (some ⟨k, 0, none⟩), .pointer (some ⟨k2, 0, none⟩), .int .i64 s] w fun e w' => e = .returned (.bool ((decide (gdS s) && M.act s.toNat) == (decide (gdS s) && N.act s.toNat))) ∧ w = w' := by
  have C1 := sqactive_any R s
  have C2 := smactive_any E s
  generalize (decide (gdS s) && M.act s.toNat) = a at *
  generalize (decide (gdS s) && N.act s.toNat) = b at *
  have C1 := hide C1
  have C2 := hide C2
  clear R E
  go_enter Tryz.func69, Tryz.ntmps69
  go_wp2_with fail
  refine (unhide C1).mono ?_
  rintro e w1 ⟨rfl, rfl⟩
  go_wp2_with fail
  refine (unhide C2).mono ?_
  rintro e w1 ⟨rfl, rfl⟩
  go_wp2_with fail
  go_ret
  exact ⟨rfl, rfl⟩
set_option maxRecDepth 100000 in
theorem slsameLockOf_any (R : QR p w k g x M K last) (E : ME w k2 q2 N H) (s : Int) (nm : ByteArray) : Calls Tryz.prog 71 #[.pointer (some ⟨k, 0, none⟩), .pointer (some ⟨k2, 0, none⟩), .int .i64 s, .string nm] w fun e w' => e = .returned (.bool ((if gdS s then M.lk s.toNat nm else 0) == (if gdS s then N.lk s.toNat nm else 0))) ∧ w = w' := by
  have C1 := sqlockOf_any R s nm
  have C2 := smlockOf_any E s nm
  generalize (if gdS s then M.lk s.toNat nm else 0) = a at *
  generalize (if gdS s then N.lk s.toNat nm else 0) = b at *
  have C1 := hide C1
  have C2 := hide C2
  clear R E
  go_enter Tryz.func71, Tryz.ntmps71
  go_wp2_with fail
  refine (unhide C1).mono ?_
  rintro e w1 ⟨rfl, rfl⟩
  go_wp2_with fail
  refine (unhide C2).mono ?_
  rintro e w1 ⟨rfl, rfl⟩
  go_wp2_with fail
  go_ret
  exact ⟨rfl, rfl⟩
end
end Go.Proofs.Qxb6500412aGreat
