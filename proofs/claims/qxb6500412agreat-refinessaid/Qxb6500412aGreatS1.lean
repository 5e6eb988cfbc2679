/-
  OWN WORK. QUERY: the kinds of bytes; the keywords (written by tools/gen_s1.py).
-/
import Derived.Test.Qxb6500412aGreatS0
import Derived.Test.Qxb6500412aGreatBPut
namespace Go.Proofs.Qxb6500412aGreat
open Go.RowKit Go.PlainAid
set_option linter.unusedSimpArgs false
set_option linter.unusedVariables false
set_option maxRecDepth 100000 in
set_option maxHeartbeats 4000000 in
theorem sqblank_any (c : Nat) (w : World) : Calls Tryz.prog 289 #[.int .u8 (c : Int)] w fun e w' => e = .returned (.bool (blkC c)) ∧ w = w' := by
  obtain ⟨b0, hb0⟩ : ∃ b, decide (c = 32) = b := ⟨_, rfl⟩
  have e0 : ((c : Int) == 32) = b0 := by rw [← hb0, Bool.eq_iff_iff]; simp; omega
  obtain ⟨b1, hb1⟩ : ∃ b, decide (c = 9) = b := ⟨_, rfl⟩
  have e1 : ((c : Int) == 9) = b1 := by rw [← hb1, Bool.eq_iff_iff]; simp; omega
  obtain ⟨b2, hb2⟩ : ∃ b, decide (c = 10) = b := ⟨_, rfl⟩
  have e2 : ((c : Int) == 10) = b2 := by rw [← hb2, Bool.eq_iff_iff]; simp; omega
  obtain ⟨b3, hb3⟩ : ∃ b, decide (c = 13) = b := ⟨_, rfl⟩
  have e3 : ((c : Int) == 13) = b3 := by rw [← hb3, Bool.eq_iff_iff]; simp; omega
  have hp : blkC c = (b0 || b1 || b2 || b3) := by unfold blkC; rw [hb0, hb1, hb2, hb3]
  rw [hp]
  clear hp hb0 hb1 hb2 hb3
  cases b0 <;> cases b1 <;> cases b2 <;> cases b3
  all_goals
    go_enter Tryz.func289, Tryz.ntmps289
    go_wp2_with fail
    go_ret
    exact ⟨rfl, rfl⟩
set_option maxRecDepth 100000 in
set_option maxHeartbeats 4000000 in
theorem sqdigit_any (c : Nat) (w : World) : Calls Tryz.prog 291 #[.int .u8 (c : Int)] w fun e w' => e = .returned (.bool (digC c)) ∧ w = w' := by
  obtain ⟨b0, hb0⟩ : ∃ b, decide (48 ≤ c) = b := ⟨_, rfl⟩
  have e0 : decide ((c : Int) ≥ 48) = b0 := by rw [← hb0, Bool.eq_iff_iff]; simp; omega
  have f0 : decide ((48 : Int) ≤ (c : Int)) = b0 := e0
  obtain ⟨b1, hb1⟩ : ∃ b, decide (c ≤ 57) = b := ⟨_, rfl⟩
  have e1 : decide ((c : Int) ≤ 57) = b1 := by rw [← hb1, Bool.eq_iff_iff]; simp; omega
  have hp : digC c = (b0 && b1) := by unfold digC; rw [hb0, hb1]
  rw [hp]
  clear hp hb0 hb1
  cases b0 <;> cases b1
  all_goals
    go_enter Tryz.func291, Tryz.ntmps291
    go_wp2_with fail
    go_ret
    exact ⟨rfl, rfl⟩
set_option maxRecDepth 100000 in
set_option maxHeartbeats 4000000 in
theorem sqletter_any (c : Nat) (w : World) : Calls Tryz.prog 290 #[.int .u8 (c : Int)] w fun e w' => e = .returned (.bool (letC c)) ∧ w = w' := by
  obtain ⟨b0, hb0⟩ : ∃ b, decide (65 ≤ c) = b := ⟨_, rfl⟩
  have e0 : decide ((c : Int) ≥ 65) = b0 := by rw [← hb0, Bool.eq_iff_iff]; simp; omega
  have f0 : decide ((65 : Int) ≤ (c : Int)) = b0 := e0
  obtain ⟨b1, hb1⟩ : ∃ b, decide (c ≤ 90) = b := ⟨_, rfl⟩
  have e1 : decide ((c : Int) ≤ 90) = b1 := by rw [← hb1, Bool.eq_iff_iff]; simp; omega
  obtain ⟨b2, hb2⟩ : ∃ b, decide (97 ≤ c) = b := ⟨_, rfl⟩
  have e2 : decide ((c : Int) ≥ 97) = b2 := by rw [← hb2, Bool.eq_iff_iff]; simp; omega
  have f2 : decide ((97 : Int) ≤ (c : Int)) = b2 := e2
  obtain ⟨b3, hb3⟩ : ∃ b, decide (c ≤ 122) = b := ⟨_, rfl⟩
  have e3 : decide ((c : Int) ≤ 122) = b3 := by rw [← hb3, Bool.eq_iff_iff]; simp; omega
  obtain ⟨b4, hb4⟩ : ∃ b, decide (c = 95) = b := ⟨_, rfl⟩
  have e4 : ((c : Int) == 95) = b4 := by rw [← hb4, Bool.eq_iff_iff]; simp; omega
  have hp : letC c = ((b0 && b1) || (b2 && b3) || b4) := by unfold letC; rw [hb0, hb1, hb2, hb3, hb4]
  rw [hp]
  clear hp hb0 hb1 hb2 hb3 hb4
  cases b0 <;> cases b1 <;> cases b2 <;> cases b3 <;> cases b4
  all_goals
    go_enter Tryz.func290, Tryz.ntmps290
    go_wp2_with fail
    go_ret
    exact ⟨rfl, rfl⟩
/-- A keyword. -/
def kwB (s : ByteArray) : Bool := (s.toList == [79, 78]) || ((s.toList == [66, 89]) || ((s.toList == [65, 78, 68]) || ((s.toList == [83, 69, 84]) || ((s.toList == [73, 78, 84]) || ((s.toList == [75, 69, 89]) || ((s.toList == [68, 82, 79, 80]) || ((s.toList == [73, 78, 84, 79]) || ((s.toList == [70, 82, 79, 77]) || ((s.toList == [68, 69, 83, 67]) || ((s.toList == [84, 69, 88, 84]) || ((s.toList == [66, 69, 71, 73, 78]) || ((s.toList == [84, 65, 66, 76, 69]) || ((s.toList == [73, 78, 68, 69, 88]) || ((s.toList == [87, 72, 69, 82, 69]) || ((s.toList == [79, 82, 68, 69, 82]) || ((s.toList == [76, 73, 77, 73, 84]) || ((s.toList == [67, 79, 77, 77, 73, 84]) || ((s.toList == [67, 82, 69, 65, 84, 69]) || ((s.toList == [73, 78, 83, 69, 82, 84]) || ((s.toList == [86, 65, 76, 85, 69, 83]) || ((s.toList == [83, 69, 76, 69, 67, 84]) || ((s.toList == [85, 80, 68, 65, 84, 69]) || ((s.toList == [68, 69, 76, 69, 84, 69]) || ((s.toList == [82, 79, 76, 76, 66, 65, 67, 75])))))))))))))))))))))))))
set_option maxRecDepth 100000 in
set_option maxHeartbeats 8000000 in
theorem sqkeyword_any (s : ByteArray) (w : World) : Calls Tryz.prog 292 #[.string s] w fun e w' => e = .returned (.bool (kwB s)) ∧ w = w' := by
  unfold kwB
  obtain ⟨b0, g0⟩ : ∃ b, (s.toList == [79, 78]) = b := ⟨_, rfl⟩
  rw [g0]
  obtain ⟨b1, g1⟩ : ∃ b, (s.toList == [66, 89]) = b := ⟨_, rfl⟩
  rw [g1]
  obtain ⟨b2, g2⟩ : ∃ b, (s.toList == [65, 78, 68]) = b := ⟨_, rfl⟩
  rw [g2]
  obtain ⟨b3, g3⟩ : ∃ b, (s.toList == [83, 69, 84]) = b := ⟨_, rfl⟩
  rw [g3]
  obtain ⟨b4, g4⟩ : ∃ b, (s.toList == [73, 78, 84]) = b := ⟨_, rfl⟩
  rw [g4]
  obtain ⟨b5, g5⟩ : ∃ b, (s.toList == [75, 69, 89]) = b := ⟨_, rfl⟩
  rw [g5]
  obtain ⟨b6, g6⟩ : ∃ b, (s.toList == [68, 82, 79, 80]) = b := ⟨_, rfl⟩
  rw [g6]
  obtain ⟨b7, g7⟩ : ∃ b, (s.toList == [73, 78, 84, 79]) = b := ⟨_, rfl⟩
  rw [g7]
  obtain ⟨b8, g8⟩ : ∃ b, (s.toList == [70, 82, 79, 77]) = b := ⟨_, rfl⟩
  rw [g8]
  obtain ⟨b9, g9⟩ : ∃ b, (s.toList == [68, 69, 83, 67]) = b := ⟨_, rfl⟩
  rw [g9]
  obtain ⟨b10, g10⟩ : ∃ b, (s.toList == [84, 69, 88, 84]) = b := ⟨_, rfl⟩
  rw [g10]
  obtain ⟨b11, g11⟩ : ∃ b, (s.toList == [66, 69, 71, 73, 78]) = b := ⟨_, rfl⟩
  rw [g11]
  obtain ⟨b12, g12⟩ : ∃ b, (s.toList == [84, 65, 66, 76, 69]) = b := ⟨_, rfl⟩
  rw [g12]
  obtain ⟨b13, g13⟩ : ∃ b, (s.toList == [73, 78, 68, 69, 88]) = b := ⟨_, rfl⟩
  rw [g13]
  obtain ⟨b14, g14⟩ : ∃ b, (s.toList == [87, 72, 69, 82, 69]) = b := ⟨_, rfl⟩
  rw [g14]
  obtain ⟨b15, g15⟩ : ∃ b, (s.toList == [79, 82, 68, 69, 82]) = b := ⟨_, rfl⟩
  rw [g15]
  obtain ⟨b16, g16⟩ : ∃ b, (s.toList == [76, 73, 77, 73, 84]) = b := ⟨_, rfl⟩
  rw [g16]
  obtain ⟨b17, g17⟩ : ∃ b, (s.toList == [67, 79, 77, 77, 73, 84]) = b := ⟨_, rfl⟩
  rw [g17]
  obtain ⟨b18, g18⟩ : ∃ b, (s.toList == [67, 82, 69, 65, 84, 69]) = b := ⟨_, rfl⟩
  rw [g18]
  obtain ⟨b19, g19⟩ : ∃ b, (s.toList == [73, 78, 83, 69, 82, 84]) = b := ⟨_, rfl⟩
  rw [g19]
  obtain ⟨b20, g20⟩ : ∃ b, (s.toList == [86, 65, 76, 85, 69, 83]) = b := ⟨_, rfl⟩
  rw [g20]
  obtain ⟨b21, g21⟩ : ∃ b, (s.toList == [83, 69, 76, 69, 67, 84]) = b := ⟨_, rfl⟩
  rw [g21]
  obtain ⟨b22, g22⟩ : ∃ b, (s.toList == [85, 80, 68, 65, 84, 69]) = b := ⟨_, rfl⟩
  rw [g22]
  obtain ⟨b23, g23⟩ : ∃ b, (s.toList == [68, 69, 76, 69, 84, 69]) = b := ⟨_, rfl⟩
  rw [g23]
  obtain ⟨b24, g24⟩ : ∃ b, (s.toList == [82, 79, 76, 76, 66, 65, 67, 75]) = b := ⟨_, rfl⟩
  rw [g24]
  cases b0 with
  | true =>
    simp only [Bool.true_or, Bool.false_or, Bool.or_true]
    go_enter Tryz.func292, Tryz.ntmps292
    go_wp2_with fail
    go_ret
    exact ⟨rfl, rfl⟩
  | false =>
  cases b1 with
  | true =>
    simp only [Bool.true_or, Bool.false_or, Bool.or_true]
    go_enter Tryz.func292, Tryz.ntmps292
    go_wp2_with fail
    go_ret
    exact ⟨rfl, rfl⟩
  | false =>
  cases b2 with
  | true =>
    simp only [Bool.true_or, Bool.false_or, Bool.or_true]
    go_enter Tryz.func292, Tryz.ntmps292
    go_wp2_with fail
    go_ret
    exact ⟨rfl, rfl⟩
  | false =>
  cases b3 with
  | true =>
    simp only [Bool.true_or, Bool.false_or, Bool.or_true]
    go_enter Tryz.func292, Tryz.ntmps292
    go_wp2_with fail
    go_ret
    exact ⟨rfl, rfl⟩
  | false =>
  cases b4 with
  | true =>
    simp only [Bool.true_or, Bool.false_or, Bool.or_true]
    go_enter Tryz.func292, Tryz.ntmps292
    go_wp2_with fail
    go_ret
    exact ⟨rfl, rfl⟩
  | false =>
  cases b5 with
  | true =>
    simp only [Bool.true_or, Bool.false_or, Bool.or_true]
    go_enter Tryz.func292, Tryz.ntmps292
    go_wp2_with fail
    go_ret
    exact ⟨rfl, rfl⟩
  | false =>
  cases b6 with
  | true =>
    simp only [Bool.true_or, Bool.false_or, Bool.or_true]
    go_enter Tryz.func292, Tryz.ntmps292
    go_wp2_with fail
    go_ret
    exact ⟨rfl, rfl⟩
  | false =>
  cases b7 with
  | true =>
    simp only [Bool.true_or, Bool.false_or, Bool.or_true]
    go_enter Tryz.func292, Tryz.ntmps292
    go_wp2_with fail
    go_ret
    exact ⟨rfl, rfl⟩
  | false =>
  cases b8 with
  | true =>
    simp only [Bool.true_or, Bool.false_or, Bool.or_true]
    go_enter Tryz.func292, Tryz.ntmps292
    go_wp2_with fail
    go_ret
    exact ⟨rfl, rfl⟩
  | false =>
  cases b9 with
  | true =>
    simp only [Bool.true_or, Bool.false_or, Bool.or_true]
    go_enter Tryz.func292, Tryz.ntmps292
    go_wp2_with fail
    go_ret
    exact ⟨rfl, rfl⟩
  | false =>
  cases b10 with
  | true =>
    simp only [Bool.true_or, Bool.false_or, Bool.or_true]
    go_enter Tryz.func292, Tryz.ntmps292
    go_wp2_with fail
    go_ret
    exact ⟨rfl, rfl⟩
  | false =>
  cases b11 with
  | true =>
    simp only [Bool.true_or, Bool.false_or, Bool.or_true]
    go_enter Tryz.func292, Tryz.ntmps292
    go_wp2_with fail
    go_ret
    exact ⟨rfl, rfl⟩
  | false =>
  cases b12 with
  | true =>
    simp only [Bool.true_or, Bool.false_or, Bool.or_true]
    go_enter Tryz.func292, Tryz.ntmps292
    go_wp2_with fail
    go_ret
    exact ⟨rfl, rfl⟩
  | false =>
  cases b13 with
  | true =>
    simp only [Bool.true_or, Bool.false_or, Bool.or_true]
    go_enter Tryz.func292, Tryz.ntmps292
    go_wp2_with fail
    go_ret
    exact ⟨rfl, rfl⟩
  | false =>
  cases b14 with
  | true =>
    simp only [Bool.true_or, Bool.false_or, Bool.or_true]
    go_enter Tryz.func292, Tryz.ntmps292
    go_wp2_with fail
    go_ret
    exact ⟨rfl, rfl⟩
  | false =>
  cases b15 with
  | true =>
    simp only [Bool.true_or, Bool.false_or, Bool.or_true]
    go_enter Tryz.func292, Tryz.ntmps292
    go_wp2_with fail
    go_ret
    exact ⟨rfl, rfl⟩
  | false =>
  cases b16 with
  | true =>
    simp only [Bool.true_or, Bool.false_or, Bool.or_true]
    go_enter Tryz.func292, Tryz.ntmps292
    go_wp2_with fail
    go_ret
    exact ⟨rfl, rfl⟩
  | false =>
  cases b17 with
  | true =>
    simp only [Bool.true_or, Bool.false_or, Bool.or_true]
    go_enter Tryz.func292, Tryz.ntmps292
    go_wp2_with fail
    go_ret
    exact ⟨rfl, rfl⟩
  | false =>
  cases b18 with
  | true =>
    simp only [Bool.true_or, Bool.false_or, Bool.or_true]
    go_enter Tryz.func292, Tryz.ntmps292
    go_wp2_with fail
    go_ret
    exact ⟨rfl, rfl⟩
  | false =>
  cases b19 with
  | true =>
    simp only [Bool.true_or, Bool.false_or, Bool.or_true]
    go_enter Tryz.func292, Tryz.ntmps292
    go_wp2_with fail
    go_ret
    exact ⟨rfl, rfl⟩
  | false =>
  cases b20 with
  | true =>
    simp only [Bool.true_or, Bool.false_or, Bool.or_true]
    go_enter Tryz.func292, Tryz.ntmps292
    go_wp2_with fail
    go_ret
    exact ⟨rfl, rfl⟩
  | false =>
  cases b21 with
  | true =>
    simp only [Bool.true_or, Bool.false_or, Bool.or_true]
    go_enter Tryz.func292, Tryz.ntmps292
    go_wp2_with fail
    go_ret
    exact ⟨rfl, rfl⟩
  | false =>
  cases b22 with
  | true =>
    simp only [Bool.true_or, Bool.false_or, Bool.or_true]
    go_enter Tryz.func292, Tryz.ntmps292
    go_wp2_with fail
    go_ret
    exact ⟨rfl, rfl⟩
  | false =>
  cases b23 with
  | true =>
    simp only [Bool.true_or, Bool.false_or, Bool.or_true]
    go_enter Tryz.func292, Tryz.ntmps292
    go_wp2_with fail
    go_ret
    exact ⟨rfl, rfl⟩
  | false =>
  cases b24 with
  | true =>
    simp only [Bool.true_or, Bool.false_or, Bool.or_true]
    go_enter Tryz.func292, Tryz.ntmps292
    go_wp2_with fail
    go_ret
    exact ⟨rfl, rfl⟩
  | false =>
  simp only [Bool.false_or, Bool.or_false]
  go_enter Tryz.func292, Tryz.ntmps292
  go_wp2_with fail
  go_ret
  exact ⟨rfl, rfl⟩
end Go.Proofs.Qxb6500412aGreat
