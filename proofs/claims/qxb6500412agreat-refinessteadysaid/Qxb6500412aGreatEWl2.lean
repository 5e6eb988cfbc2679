/-
  OWN WORK. TABLE: the codes read back.
-/
import Derived.Test.Qxb6500412aGreatEWlk
namespace Go.Proofs.Qxb6500412aGreat
open Go.RowKit Go.PlainAid
set_option linter.unusedSimpArgs false
set_option linter.unusedVariables false

theorem mkB_at {n : Nat} {f : Nat → Nat} {j : Nat} (hj : j < n) (hf : f j < 256) : byteAt (mkB n f) j = f j := by
  unfold byteAt mkB
  rw [List.getD_eq_getElem?_getD]
  simp [hj]
  omega
theorem or8 {x b : Nat} (hb : b < 256) (hx : x < 72057594037927936) : bits .or .u64 ((x : Int) * 256) (b : Int) = ((x * 256 + b : Nat) : Int) := by
  have h1 : (x : Int) * 256 = ((x * 256 : Nat) : Int) := by omega
  rw [h1, u64_or_nat _ _ (by omega) (by omega), nat_join 8 _ _ (by omega) (by omega)]
set_option maxRecDepth 100000 in
theorem eintOf_any (i : Int) (h : In64 i) (w : World) : Calls Tryz.prog 346 #[.string (cI i)] w fun e w' => e = .returned (.tuple #[.int .i64 i, .bool true]) ∧ w = w' := by
  have hsz := cI_size i
  have hUlt : (i + 9223372036854775808).toNat < 18446744073709551616 := by have := h.1; have := h.2; omega
  have hat : ∀ j, j < 8 → byteAt (cI i) j = (i + 9223372036854775808).toNat / 256 ^ (7 - j) % 256 := fun j hj => by
    unfold cI
    exact mkB_at hj (Nat.mod_lt _ (by omega))
  have hU : ((i + 9223372036854775808).toNat : Int) = i + 9223372036854775808 := by have := h.1; omega
  generalize (i + 9223372036854775808).toNat = U at *
  generalize cI i = c at *
  have hs8 : (c.size : Int) = 8 := by omega
  have HAT := hide hat
  have HU := hide hU
  clear hat hU
  go_enter Tryz.func346, Tryz.ntmps346
  go_upto_region 5 with fail
  go_loop [4, 5] (fun uv jv => ∃ n : Nat, n ≤ 8 ∧ jv = .int .i64 n ∧ uv = .int .u64 ((U / 256 ^ (8 - n) : Nat) : Int)) (fun _ jv => 8 - (intOf jv).toNat)
  case atStart =>
    refine ⟨0, by omega, rfl, ?_⟩
    have : U / 256 ^ (8 - 0) = 0 := Nat.div_eq_of_lt (by simpa using hUlt)
    rw [this]
    rfl
  case round =>
    obtain ⟨n, hn, rfl, rfl⟩ := hrel
    by_cases h8 : n < 8
    · have a1 : decide ((n : Int) < 8) = true := decide_eq_true (by omega)
      have a1p : (n : Int) < 8 := by omega
      have qi : n < c.size := by omega
      have hb : (c[n].toNat : Int) = ((byteAt c n : Nat) : Int) := byteAt_idx c n qi
      have hbt := unhide HAT n h8
      have hlt : U / 256 ^ (8 - n) < 72057594037927936 := by
        have e1 : 256 ^ (8 - n) ≥ 256 := by
          have : 8 - n = (7 - n) + 1 := by omega
          rw [this, Nat.pow_succ]
          have : 0 < 256 ^ (7 - n) := Nat.pow_pos (by omega)
          omega
        exact Nat.lt_of_le_of_lt (Nat.div_le_div_left e1 (by omega)) (by omega)
      have hnext : U / 256 ^ (8 - n) * 256 + byteAt c n = U / 256 ^ (8 - (n + 1)) := by
        rw [hbt, show 8 - n = 7 - n + 1 by omega, Nat.pow_succ, ← Nat.div_div_eq_div_mul, show 8 - (n + 1) = 7 - n by omega]
        omega
      have hbl := byteAt_lt c n
      generalize byteAt c n = b at *
      generalize U / 256 ^ (8 - n) = V at *
      have ho := or8 (x := V) hbl hlt
      have HN := hide hnext
      have vI : (V : Int) < 72057594037927936 := by omega
      have bI : (b : Int) < 256 := by omega
      clear hbt hnext
      go_wp2_with fail
      exact ⟨⟨n + 1, by omega, by go_num, by rw [← unhide HN]; simp⟩, by simp [intOf]; omega⟩
    · obtain rfl : n = 8 := by omega
      have a1 : decide (((8 : Nat) : Int) < 8) = false := decide_eq_false (by omega)
      have e0 : U / 256 ^ (8 - 8) = U := by simp
      rw [e0]
      have hx : bits .xor .u64 (U : Int) 9223372036854775808 = (((U + 9223372036854775808) % 18446744073709551616 : Nat) : Int) := by
        have := u64_xor_nat U 9223372036854775808 hUlt (by omega)
        rw [xor63 hUlt] at this
        exact this
      have hw : IntKind.i64.wrap (((U + 9223372036854775808) % 18446744073709551616 : Nat) : Int) = i := by
        rw [IntKind.wrap_i64]
        have h1 := h.1
        have h2 := h.2
        have hU := unhide HU
        omega
      have hw2 : wrap64 (((U + 9223372036854775808) % 18446744073709551616 : Nat) : Int) = i := by
        have h1 := h.1
        have h2 := h.2
        have hU := unhide HU
        unfold wrap64
        omega
      generalize (U + 9223372036854775808) % 18446744073709551616 = Y at *
      clear e0
      go_wp2_with fail
      go_ret2
      exact ⟨rfl, rfl⟩
theorem cP_cut {s : ByteArray} {m : Nat} (h : s.size ≤ m) : (cP s m).extract 0 s.size = s := by
  apply ls_inj
  rw [ls_cut, cP_ls h]
  simp only [List.drop_zero, Nat.sub_zero, padL, List.append_assoc]
  rw [← ls_len s, List.take_left]
set_option maxRecDepth 100000 in
theorem eunpad_any (s : ByteArray) (m : Nat) (hs : s.size ≤ m) (hm : m ≤ 100) (w : World) : Calls Tryz.prog 198 #[.string (cP s m), .int .i64 m] w fun e w' => e = .returned (.tuple #[.string s, .bool true]) ∧ w = w' := by
  have hsz := cP_size s m
  have hat : ∀ j, j < m + 1 → byteAt (cP s m) j = if j = m then s.size else byteAt s j := fun j hj => by
    unfold cP
    exact mkB_at hj (by
      by_cases c : j = m
      · rw [if_pos c]; omega
      · rw [if_neg c]; exact byteAt_lt _ _)
  have hcut := cP_cut hs
  generalize cP s m = c at *
  have qm : m < c.size := by omega
  have hbm : (c[m].toNat : Int) = (s.size : Int) := by
    have := byteAt_idx c m qm
    rw [hat m (by omega), if_pos rfl] at this
    exact this
  have HAT := hide hat
  clear hat
  have cI : (c.size : Int) = (m : Int) + 1 := by omega
  have mI : (m : Int) ≤ 100 := by omega
  have a0 : ((c.size : Int) != (m : Int) + 1) = false := by rw [cI]; simp
  have a0' : (((m : Int) + 1) != (m : Int) + 1) = false := by simp
  have a1 : decide ((s.size : Int) > (m : Int)) = false := decide_eq_false (by omega)
  have a1' : decide ((m : Int) < (s.size : Int)) = false := decide_eq_false (by omega)
  have mq : (m : Int) < (c.size : Int) := by omega
  go_enter Tryz.func198, Tryz.ntmps198
  go_upto_region 7 with fail
  go_loop [7] (fun jv => ∃ n : Nat, s.size ≤ n ∧ n ≤ m ∧ jv = .int .i64 n) (fun jv => m - (intOf jv).toNat)
  case atStart => exact ⟨s.size, Nat.le_refl _, hs, rfl⟩
  case round =>
    obtain ⟨n, hn1, hn, rfl⟩ := hrel
    by_cases h8 : n < m
    · have b1 : decide ((n : Int) < (m : Int)) = true := decide_eq_true (by omega)
      have b1p : (n : Int) < (m : Int) := by omega
      have qi : n < c.size := by omega
      have hb : (c[n].toNat : Int) = 0 := by
        have := byteAt_idx c n qi
        rw [unhide HAT n (by omega), if_neg (by omega), byteAt_out' hn1] at this
        exact this
      go_wp2_with fail
      exact ⟨⟨n + 1, by omega, by omega, by go_num⟩, by simp [intOf]; omega⟩
    · obtain rfl : n = m := by omega
      have b1 : decide ((n : Int) < (n : Int)) = false := by simp
      have sq : (s.size : Int) ≤ (c.size : Int) := by omega
      go_wp2_with fail
      go_ret2
      exact ⟨by first | (rw [hcut]; done) | simp [hcut], rfl⟩
end Go.Proofs.Qxb6500412aGreat
