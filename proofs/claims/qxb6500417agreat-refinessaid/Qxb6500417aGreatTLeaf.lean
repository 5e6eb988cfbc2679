/-
  OWN WORK. THE TREE: the first '/' of a path (laid by tools/gen_tleaf.py).
-/
import Derived.Test.Qxb6500417aGreatTEnt2
import Derived.Test.Qxb6500417aGreatTJ5
namespace Go.Proofs.Qxb6500417aGreat
open Go.RowKit Go.PlainAid
set_option linter.unusedSimpArgs false
set_option linter.unusedVariables false

/-- The place of the first '/' of p at or behind k, or -1. -/
def slashI (p : Str) (k : Nat) : Int := match cutS (p.drop k) with
  | none => -1
  | some (a, _) => ((k + a.length : Nat) : Int)
theorem slashI_here {p : Str} {k : Nat} {r : Str} (h : p.drop k = 47 :: r) : slashI p k = (k : Int) := by
  unfold slashI
  rw [h]
  simp [cutS]
theorem slashI_next {p : Str} {k : Nat} {c : UInt8} (h : p.drop k = c :: p.drop (k + 1)) (hc : c ≠ 47) : slashI p k = slashI p (k + 1) := by
  unfold slashI
  rw [h, cutS, if_neg hc]
  cases cutS (p.drop (k + 1)) with
  | none => rfl
  | some x => simp; omega
theorem slashI_end {p : Str} : slashI p p.length = -1 := by
  unfold slashI
  rw [List.drop_length]
  rfl
set_option maxRecDepth 100000 in
set_option maxHeartbeats 1000000 in
theorem slashFrom_any (p : ByteArray) (k : Nat) (hk : k ≤ p.size) (hp : p.size ≤ 1000000) (w : World) :
    Calls Tryz.prog 184 #[.string p, .int .i64 k] w fun e w' => e = .returned (.int .i64 (slashI (ls p) k)) ∧ w = w' := by
  have hb := get_bt p
  have hll := ls_len p
  obtain ⟨R, hR⟩ : ∃ R, slashI (ls p) k = R := ⟨_, rfl⟩
  rw [hR]
  have HR := hide hR
  have Hll := hide hll
  clear hR hll
  go_enter Tryz.func184, Tryz.ntmps184
  go_wp2_with fail
  go_loop [5] (fun iv => ∃ i : Nat, i ≤ p.size ∧ iv = .int .i64 i ∧ slashI (ls p) i = R) (fun iv => p.size - (intOf iv).toNat)
  case atStart => exact ⟨k, by omega, rfl, unhide HR⟩
  case round =>
    clear HR
    obtain ⟨i, hi, rfl, hr⟩ := hrel
    by_cases hil : i < p.size
    · obtain ⟨c, hc, hd⟩ := ls_at p i hil
      have a1 : decide ((i : Int) < (p.size : Int)) = true := decide_eq_true (by omega)
      have a1n : decide (i < p.size) = true := decide_eq_true hil
      have a2 : (i : Int) < (p.size : Int) := by omega
      by_cases h47 : c = 47
      · have e1 : ((c.toNat : Int) == 47) = true := by rw [h47]; decide
        have hr2 : R = (i : Int) := by rw [← hr]; rw [h47] at hd; exact slashI_here hd
        have Hr2 := hide hr2
        clear hr hr2 h47 hd
        go_wp2_with fail
        go_ret
        rw [unhide Hr2]
        exact ⟨rfl, rfl⟩
      · have e1 : ((c.toNat : Int) == 47) = false := by
          rw [show (47 : Int) = ((47 : Nat) : Int) from rfl, ne_byte (by omega)]
          exact decide_eq_false h47
        have Hr2 := hide ((slashI_next hd h47).symm.trans hr)
        clear hr h47 hd
        go_wp2_with fail
        go_round
        case rel => exact ⟨i + 1, by omega, by go_num, unhide Hr2⟩
        case measure => simp [intOf]; omega
    · have hie : i = p.size := by omega
      have a1 : decide ((i : Int) < (p.size : Int)) = false := decide_eq_false (by omega)
      have a1n : decide (i < p.size) = false := decide_eq_false hil
      have hr2 : R = -1 := by rw [← hr, hie, ← unhide Hll]; exact slashI_end
      have Hr2 := hide hr2
      clear hr hr2 hie
      go_wp2_with fail
      go_ret
      rw [unhide Hr2]
      exact ⟨rfl, rfl⟩
end Go.Proofs.Qxb6500417aGreat
