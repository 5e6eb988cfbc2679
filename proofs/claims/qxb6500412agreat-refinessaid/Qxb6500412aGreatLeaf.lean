/-
  OWN WORK. THE LEAVES: functions of plain values.
-/
import Derived.Test.Qxb6500412aGreatProg
import Derived.WalkLawsBesides
import Derived.WalkSpells
import Derived.Test.Qxb6500412aGreatPlain
namespace Go.Proofs.Qxb6500412aGreat
open Go.RowKit
set_option linter.unusedSimpArgs false
set_option linter.unusedVariables false

def inD (b : Int) : Bool := decide (0 ≤ b) && decide (b < 80)
theorem inD_t {b : Int} (h0 : 0 ≤ b) (h1 : b < 80) : inD b = true := by simp [inD, h0, h1]
theorem inD_f {b : Int} (h : ¬ (0 ≤ b ∧ b < 80)) : inD b = false := by simp [inD]; omega

theorem inData_any (b : Int) (w : World) : Calls Tryz.prog 201 #[.int .i64 b] w fun e w' => e = .returned (.bool (inD b)) ∧ w = w' := by
  by_cases h0 : 0 ≤ b
  · by_cases h1 : b < 80
    · rw [inD_t h0 h1]
      go_enter Tryz.func201, Tryz.ntmps201
      go_wp2
      go_ret
      exact ⟨by simp [h1], rfl⟩
    · rw [inD_f (by omega)]
      go_enter Tryz.func201, Tryz.ntmps201
      go_wp2
      go_ret
      exact ⟨by simp [h1], rfl⟩
  · rw [inD_f (by omega)]
    have h0' : decide (0 ≤ b) = false := by simpa using h0
    go_enter Tryz.func201, Tryz.ntmps201
    go_wp2
    go_ret
    exact ⟨by simp, rfl⟩

theorem homeAt_any (b : Int) (w : World) (h0 : 0 ≤ b) (h1 : b < 80) : Calls Tryz.prog 140 #[.int .i64 b] w fun e w' => e = .returned (.int .i64 (73 + b)) ∧ w = w' := by
  go_enter Tryz.func140, Tryz.ntmps140
  go_wp2
  go_ret
  exact ⟨rfl, rfl⟩

theorem slotAt_any (b : Int) (w : World) (h0 : 0 ≤ b) (h1 : b < 72) : Calls Tryz.prog 138 #[.int .i64 b] w fun e w' => e = .returned (.int .i64 (1 + b)) ∧ w = w' := by
  go_enter Tryz.func138, Tryz.ntmps138
  go_wp2
  go_ret
  exact ⟨rfl, rfl⟩

theorem wrap64_u8 (b : UInt8) : wrap64 (b.toNat : Int) = b.toNat := by
  have := UInt8.toNat_lt b
  unfold wrap64; omega

theorem numberAt_any (h : ByteArray) (i : Int) (w : World) (h0 : 0 ≤ i) (h1 : i < 72) (hs : h.size = 128) : Calls Tryz.prog 139 #[.string h, .int .i64 i] w fun e w' => e = .returned (.int .i64 (byteAt h (1 + i.toNat))) ∧ w = w' := by
  go_enter Tryz.func139, Tryz.ntmps139
  go_wp2
  go_ret
  refine ⟨?_, rfl⟩
  have e : 1 + i.toNat = (1 + i).toNat := by omega
  rw [e, byteAt_get h _ (by omega)]
  simp [wrap64_u8]

set_option maxRecDepth 100000 in
theorem zero_lit : (⟨#[0, 0, 0, 0, 0, 0, 0, 0, 0, 0, 0, 0, 0, 0, 0, 0, 0, 0, 0, 0, 0, 0, 0, 0, 0, 0, 0, 0, 0, 0, 0, 0, 0, 0, 0, 0, 0, 0, 0, 0, 0, 0, 0, 0, 0, 0, 0, 0, 0, 0, 0, 0, 0, 0, 0, 0, 0, 0, 0, 0, 0, 0, 0, 0, 0, 0, 0, 0, 0, 0, 0, 0, 0, 0, 0, 0, 0, 0, 0, 0, 0, 0, 0, 0, 0, 0, 0, 0, 0, 0, 0, 0, 0, 0, 0, 0, 0, 0, 0, 0, 0, 0, 0, 0, 0, 0, 0, 0, 0, 0, 0, 0, 0, 0, 0, 0, 0, 0, 0, 0, 0, 0, 0, 0, 0, 0, 0, 0]⟩ : ByteArray) = zeroB := rfl

set_option maxRecDepth 100000 in
theorem blockOf_any (s : ByteArray) (w : World) (hs : s.size ≤ maxLen) : Calls Tryz.prog 202 #[.string s] w fun e w' => e = .returned (.string (blockOf s)) ∧ w = w' := by
  unfold maxLen at hs
  by_cases h : 128 ≤ s.size
  · go_enter Tryz.func202, Tryz.ntmps202
    go_wp2
    go_ret
    exact ⟨by simp [blockOf, h], rfl⟩
  · go_enter Tryz.func202, Tryz.ntmps202
    go_wp2
    go_ret
    refine ⟨?_, rfl⟩
    show Ending.returned (Value.string (s ++ ByteArray.extract _ s.size 128)) = _
    rw [blockOf, if_neg h, zero_lit]

theorem wrap_byte (h : ByteArray) (i : Nat) (hi : i < h.size) : wrap64 ((h[i]).toNat : Int) = byteAt h i := by
  rw [wrap64_u8, byteAt_get h i hi]
theorem wrap_byte' (h : ByteArray) (k : Nat) (hi : (1 + (k : Int)).toNat < h.size) : wrap64 ((h[(1 + (k : Int)).toNat]).toNat : Int) = byteAt h (1 + k) := by
  have e : (1 + (k : Int)).toNat = 1 + k := by omega
  rw [wrap64_u8, byteAt_get h (1 + k) (by omega)]
  simp [e]

theorem logged_eq {h : ByteArray} {n : Nat} (hs : h.size = 128) (h0 : n = byteAt h 0) (hn : n ≤ 72) (ha : ∀ j, j < n → byteAt h (1 + j) < 80) : logged h = n := by
  subst h0; unfold logged; rw [if_pos ⟨hs, hn, ha⟩]
theorem logged_no {h : ByteArray} {k : Nat} (hk : k < byteAt h 0) (hb : 80 ≤ byteAt h (1 + k)) : logged h = 0 := by
  unfold logged; rw [if_neg]; rintro ⟨_, _, h3⟩; have := h3 k hk; omega
theorem logged_big {h : ByteArray} (hk : 72 < byteAt h 0) : logged h = 0 := by
  unfold logged; rw [if_neg]; rintro ⟨_, h3, _⟩; omega

set_option maxRecDepth 100000 in
set_option maxHeartbeats 400000 in
theorem logged_any (h : ByteArray) (w : World) (hs : h.size = 128) : Calls Tryz.prog 137 #[.string h] w fun e w' => e = .returned (.int .i64 (logged h)) ∧ w = w' := by
  have h0 : 0 < h.size := by omega
  have hx0 := wrap_byte h 0 h0
  generalize hg : byteAt h 0 = n at hx0
  have Hg := hide hg
  clear hg
  have hlt : n < 256 := by rw [← unhide Hg]; exact byteAt_lt h 0
  by_cases hn : n ≤ 72
  · go_enter Tryz.func137, Tryz.ntmps137
    go_wp2_with fail
    simp only [hx0]
    clear hx0
    go_loop [4] (fun i => ∃ k : Nat, k ≤ n ∧ i = .int .i64 k ∧ ∀ j, j < k → byteAt h (1 + j) < 80) (fun i => n - (intOf i).toNat)
    case atStart => exact ⟨0, Nat.zero_le _, rfl, fun j hj => by omega⟩
    case round =>
      obtain ⟨k, hk, rfl, ha⟩ := hrel
      have Ha := hide ha
      clear ha
      by_cases hkn : k < n
      · have hx1 := wrap_byte h (1 + k) (by omega)
        have hbb := byteAt_lt h (1 + k)
        by_cases hb : byteAt h (1 + k) < 80
        · have hin := inD_t (b := byteAt h (1 + k)) (by omega) (by omega)
          go_wp2_with (go_at_call 201; refine (inData_any _ _).mono ?_; rintro e w' ⟨rfl, rfl⟩)
          go_round
          case rel => exact ⟨k + 1, by omega, by go_num, fun j hj => by rcases Nat.lt_succ_iff_lt_or_eq.1 hj with h' | rfl; exact unhide Ha j h'; exact hb⟩
          case measure => simp [intOf]; omega
        · have hin := inD_f (b := byteAt h (1 + k)) (by omega)
          go_wp2_with (go_at_call 201; refine (inData_any _ _).mono ?_; rintro e w' ⟨rfl, rfl⟩)
          go_ret
          refine ⟨?_, rfl⟩
          rw [logged_no (k := k) (by rw [unhide Hg]; exact hkn) (by omega)]
          rfl
      · go_wp2
        go_ret
        refine ⟨?_, rfl⟩
        rw [logged_eq hs (unhide Hg).symm hn (fun j hj => unhide Ha j (by omega))]
        rfl
  · go_enter Tryz.func137, Tryz.ntmps137
    go_wp2_with fail
    go_ret
    refine ⟨?_, rfl⟩
    rw [logged_big (by rw [unhide Hg]; omega)]
    rfl
end Go.Proofs.Qxb6500412aGreat
