/-
  OWN WORK. TABLE: the codes, walked.
-/
import Derived.Test.Qxb6500412aGreatBStr
import Derived.Test.Qxb6500412aGreatECod
import Derived.Laws.BitsAllLaws
namespace Go.Proofs.Qxb6500412aGreat
open Go.RowKit Go.PlainAid
set_option linter.unusedSimpArgs false
set_option linter.unusedVariables false

theorem Only.fresh {a b c : World} {g : Nat} (h : Only (fun _ => False) a b) (k : Only (fun x => x = g) b c) (hg : a.heap.size ≤ g) : Only (fun _ => False) a c := h.trans k (fun i hi e => by omega)
theorem run_conv_mkB {w : World} {g n cap : Nat} {f : Nat → Nat} (h : Has w g (tabV n (u8f f)) 5) (hf : ∀ j, j < n → f j < 256) : (convert 282 9 (.slice (some ⟨g, 0, none⟩) n cap)).run Tryz.prog w = .ok (.string (mkB n f)) w := by
  have := run_convert_bytes_back (P := Tryz.prog) w 282 9 5 ⟨g, 0, none⟩ cap ((List.range n).map (fun j => UInt8.ofNat (f j))) Tryz.underlying282 Tryz.underlying5 Tryz.underlying9 (fun j hj => by
    have hj2 : j < n := by simpa using hj
    rw [addr_add, h.cell, u8_get _ _ _ (by simpa using hj2)]
    simp
    have := hf j hj2
    omega)
  simp only [List.length_map, List.length_range] at this
  exact this
theorem Has.setU {w : World} {g n : Nat} {f : Nat → Nat} (h : Has w g (tabV n (u8f f)) 5) (i v : Nat) : Has (w.setCell ⟨g, i, none⟩ (.int .u8 (v : Int))) g (tabV n (u8f (fun j => if j = i then v else f j))) 5 := by
  have := Has.setCell h i (.int .u8 (v : Int))
  rw [u8_set] at this
  exact this
theorem Has.congrU {w : World} {g n : Nat} {D E : Nat → Nat} (h : Has w g (tabV n (u8f D)) 5) (e : ∀ j, j < n → D j = E j) : Has w g (tabV n (u8f E)) 5 := by
  rw [← u8_congr n e]
  exact h
set_option maxRecDepth 100000 in
theorem epad_any (s : ByteArray) (m : Nat) (hs : s.size ≤ m) (hm : m ≤ 100) (w : World) : Calls Tryz.prog 302 #[.string s, .int .i64 m] w fun e w' => e = .returned (.string (cP s m)) ∧ Only (fun _ => False) w w' := by
  have hmk : ∀ w, (Instr.makeSlice 282 (.int .i64 ((m : Int) + 1)) (.int .i64 ((m : Int) + 1))).run Tryz.prog w = .ok (.slice (some ⟨w.heap.size, 0, none⟩) (m + 1) (m + 1)) (w.alloc (.cells (tabV (m + 1) (u8f (fun _ => 0))) 5)) := fun w => by
    have := run_make_bytes w (m + 1) (by omega)
    simpa using this
  have mI : (m : Int) ≤ 100 := by omega
  have H0 : Has (w.alloc (.cells (tabV (m + 1) (u8f (fun _ => 0))) 5)) w.heap.size (tabV (m + 1) (u8f (fun _ => 0))) 5 := Has.new _ _ _
  have o0 : Only (fun _ => False) w (w.alloc (.cells (tabV (m + 1) (u8f (fun _ => 0))) 5)) := (Only.refl _ w).alloc _
  go_enter Tryz.func302, Tryz.ntmps302
  go_upto_region 3 with fail
  generalize w.alloc (.cells (tabV (m + 1) (u8f (fun _ => 0))) 5) = w1 at *
  clear hmk
  have HH := hide (And.intro H0 o0)
  clear H0 o0
  go_loopw [6] (fun jv wr => ∃ k : Nat, k ≤ s.size ∧ jv = .int .i64 k ∧ Has wr w.heap.size (tabV (m + 1) (u8f (fun j => if j < k then byteAt s j else 0))) 5 ∧ Only (fun _ => False) w wr) (fun jv _ => s.size - (intOf jv).toNat)
  case atStart => exact ⟨0, Nat.zero_le _, rfl, (unhide HH).1.congrU (fun j _ => by simp), (unhide HH).2⟩
  case round =>
    clear HH
    obtain ⟨k, hk, rfl, hH, hO⟩ := hrel
    by_cases hkn : k < s.size
    · have a2 : decide ((k : Int) < (s.size : Int)) = true := decide_eq_true (by omega)
      have a3 : decide ((k : Int) < (m : Int)) = true := decide_eq_true (by omega)
      have a3p : (k : Int) < (m : Int) := by omega
      have d1 := hH.cell k
      rw [u8_get _ _ _ (by omega)] at d1
      have d2 := hH.free k
      have a4 : (k : Int) < (m : Int) + 1 := by omega
      have hbk : (s[k].toNat : Int) = ((byteAt s k : Nat) : Int) := byteAt_idx s k hkn
      have hN := (hH.setU k (byteAt s k)).congrU (E := fun j => if j < k + 1 then byteAt s j else 0) (fun j _ => by
        by_cases c : j = k
        · rw [if_pos c, if_pos (by omega), c]
        · rw [if_neg c]
          by_cases d : j < k
          · rw [if_pos d, if_pos (by omega)]
          · rw [if_neg d, if_neg (by omega)])
      have oN : Only (fun _ => False) w (wr.setCell ⟨w.heap.size, k, none⟩ (.int .u8 ((byteAt s k : Nat) : Int))) := hO.fresh (only1 _ _) (Nat.le_refl _)
      have HN := hide (And.intro hN oN)
      clear hN hO hH oN
      go_wp2_with fail
      go_roundw
      case rel => exact ⟨k + 1, by omega, by go_num, (unhide HN).1, (unhide HN).2⟩
      case measure => simp [intOf]; omega
    · obtain rfl : k = s.size := by omega
      have a2 : decide ((s.size : Int) < (s.size : Int)) = false := by simp
      have d1 := hH.cell m
      rw [u8_get _ _ _ (by omega)] at d1
      have d2 := hH.free m
      have a4 : (m : Int) < (m : Int) + 1 := by omega
      have w8 : IntKind.u8.wrap (s.size : Int) = (s.size : Int) := IntWalk.u8_in _ (by omega)
      have hN := (hH.setU m s.size).congrU (E := fun j => if j = m then s.size else byteAt s j) (fun j _ => by
        by_cases c : j = m
        · rw [if_pos c, if_pos c]
        · rw [if_neg c, if_neg c]
          by_cases d : j < s.size
          · rw [if_pos d]
          · rw [if_neg d, byteAt_out' (by omega)])
      have oN : Only (fun _ => False) w (wr.setCell ⟨w.heap.size, m, none⟩ (.int .u8 (s.size : Int))) := hO.fresh (only1 _ _) (Nat.le_refl _)
      have hcv := run_conv_mkB (cap := m + 1) hN (fun j hj => by
        by_cases c : j = m
        · rw [if_pos c]; omega
        · rw [if_neg c]; exact byteAt_lt _ _)
      have HN := hide oN
      clear hN hO hH oN
      go_upto_region 7 with fail
      generalize wr.setCell ⟨w.heap.size, m, none⟩ (.int .u8 (s.size : Int)) = w2 at *
      clear d1 d2
      go_wp2_with fail
      go_ret
      exact ⟨rfl, unhide HN⟩
theorem xor63 {u : Nat} (h : u < 18446744073709551616) : u ^^^ 9223372036854775808 = (u + 9223372036854775808) % 18446744073709551616 := by
  apply Nat.eq_of_testBit_eq
  intro i
  have e1 : (9223372036854775808 : Nat) = 2 ^ 63 := by decide
  have e2 : (18446744073709551616 : Nat) = 2 ^ 64 := by decide
  rw [Nat.testBit_xor, e1, e2, Nat.testBit_mod_two_pow, Nat.testBit_two_pow, Nat.add_comm]
  by_cases c : i < 63
  · rw [Nat.testBit_two_pow_add_gt c]
    have d : decide (i < 64) = true := decide_eq_true (by omega)
    have d2 : decide (63 = i) = false := decide_eq_false (by omega)
    rw [d, d2]
    simp
  · by_cases d : i = 63
    · subst d
      rw [Nat.testBit_two_pow_add_eq]
      simp
    · have d1 : decide (i < 64) = false := decide_eq_false (by omega)
      have d2 : decide (63 = i) = false := decide_eq_false (by omega)
      rw [d1, d2]
      have : u.testBit i = false := Nat.testBit_lt_two_pow (Nat.lt_of_lt_of_le h (by rw [e2]; exact Nat.pow_le_pow_right (by omega) (by omega)))
      rw [this]
      rfl
/-- The code of an int, as the program reckons it. -/
theorem flip_u64 {i : Int} (h : In64 i) : bits .xor .u64 (IntKind.u64.wrap i) 9223372036854775808 = (((i + 9223372036854775808).toNat : Nat) : Int) := by
  have h1 := h.1
  have h2 := h.2
  have hw : IntKind.u64.wrap i = i % 18446744073709551616 := by simp [IntKind.wrap, IntKind.bits, IntKind.signed]
  rw [hw, u64_xor _ _ (by omega) (by omega) (by omega) (by omega)]
  have e : (9223372036854775808 : Int).toNat = 9223372036854775808 := rfl
  rw [e, xor63 (by omega)]
  omega
set_option maxRecDepth 100000 in
theorem ecodeInt_any (i : Int) (h : In64 i) (w : World) : Calls Tryz.prog 316 #[.int .i64 i] w fun e w' => e = .returned (.string (cI i)) ∧ Only (fun _ => False) w w' := by
  have hmk : ∀ w, (Instr.makeSlice 282 (.int .i64 8) (.int .i64 8)).run Tryz.prog w = .ok (.slice (some ⟨w.heap.size, 0, none⟩) 8 8) (w.alloc (.cells (tabV 8 (u8f (fun _ => 0))) 5)) := fun w => run_make_bytes w 8 (by omega)
  have hx := flip_u64 h
  have hcI : ∀ U, (i + 9223372036854775808).toNat = U → cI i = mkB 8 (fun j => U / 256 ^ (7 - j) % 256) := fun U hU => by unfold cI; rw [hU]
  have hUlt : (i + 9223372036854775808).toNat < 18446744073709551616 := by have := h.1; have := h.2; omega
  generalize hU : (i + 9223372036854775808).toNat = U at *
  rw [hcI U rfl]
  have H0 : Has (w.alloc (.cells (tabV 8 (u8f (fun _ => 0))) 5)) w.heap.size (tabV 8 (u8f (fun _ => 0))) 5 := Has.new _ _ _
  have o0 : Only (fun _ => False) w (w.alloc (.cells (tabV 8 (u8f (fun _ => 0))) 5)) := (Only.refl _ w).alloc _
  clear hcI hU h
  go_enter Tryz.func316, Tryz.ntmps316
  go_upto_region 4 with fail
  generalize w.alloc (.cells (tabV 8 (u8f (fun _ => 0))) 5) = w1 at *
  have HH := hide (And.intro H0 o0)
  clear H0 o0 hmk hx
  go_loopw [3, 5] (fun uv jv wr => ∃ n : Nat, n ≤ 8 ∧ jv = .int .i64 ((n : Int) - 1) ∧ uv = .int .u64 ((U / 256 ^ (8 - n) : Nat) : Int) ∧ Has wr w.heap.size (tabV 8 (u8f (fun j => if n ≤ j then U / 256 ^ (7 - j) % 256 else 0))) 5 ∧ Only (fun _ => False) w wr) (fun _ jv _ => (intOf jv + 1).toNat)
  case atStart => exact ⟨8, Nat.le_refl _, rfl, by simp, (unhide HH).1.congrU (fun j hj => by rw [if_neg (by omega)]), (unhide HH).2⟩
  case round =>
    clear HH
    obtain ⟨n, hn, rfl, rfl, hH, hO⟩ := hrel
    by_cases h0 : 0 < n
    · obtain ⟨m, rfl⟩ : ∃ m, n = m + 1 := ⟨n - 1, by omega⟩
      have e1 : ((m + 1 : Nat) : Int) - 1 = (m : Int) := by omega
      rw [e1]
      have a1 : decide ((m : Int) ≥ 0) = true := decide_eq_true (by omega)
      have a1' : decide (0 ≤ (m : Int)) = true := decide_eq_true (by omega)
      have a2 : (m : Int) < 8 := by omega
      have d1 := hH.cell m
      rw [u8_get _ _ _ (by omega)] at d1
      have d2 := hH.free m
      have e2 : 8 - (m + 1) = 7 - m := by omega
      rw [e2]
      have hq : U / 256 ^ (7 - m) / 256 = U / 256 ^ (8 - m) := by
        rw [Nat.div_div_eq_div_mul, show 8 - m = 7 - m + 1 by omega, Nat.pow_succ]
      have w8 : IntKind.u8.wrap ((U / 256 ^ (7 - m) : Nat) : Int) = ((U / 256 ^ (7 - m) % 256 : Nat) : Int) := by
        simp [IntKind.wrap, IntKind.bits, IntKind.signed]
      have hN := (hH.setU m (U / 256 ^ (7 - m) % 256)).congrU (E := fun j => if m ≤ j then U / 256 ^ (7 - j) % 256 else 0) (fun j _ => by
        by_cases c : j = m
        · rw [if_pos c, if_pos (by omega), c]
        · rw [if_neg c]
          by_cases d : m + 1 ≤ j
          · rw [if_pos d, if_pos (by omega)]
          · rw [if_neg d, if_neg (by omega)])
      have oN : Only (fun _ => False) w (wr.setCell ⟨w.heap.size, m, none⟩ (.int .u8 ((U / 256 ^ (7 - m) % 256 : Nat) : Int))) := hO.fresh (only1 _ _) (Nat.le_refl _)
      have HN := hide (And.intro hN oN)
      have HQ := hide hq
      have hlt : U / 256 ^ (7 - m) < 18446744073709551616 := Nat.lt_of_le_of_lt (Nat.div_le_self _ _) hUlt
      generalize hV : U / 256 ^ (7 - m) = V at *
      have HV := hide hV
      clear hN hO hH oN hq hV e1 e2
      have eV : ((V % 256 : Nat) : Int) = (V : Int) % 256 := by omega
      rw [eV] at HN
      clear eV
      go_wp2_with fail
      exact ⟨⟨m, by omega, rfl, by rw [← unhide HQ]; simp, (unhide HN).1, (unhide HN).2⟩, by first | (simp [intOf]; done) | (simp [intOf]; omega)⟩
    · obtain rfl : n = 0 := by omega
      have a1 : decide (((0 : Nat) : Int) - 1 ≥ 0) = false := by decide
      have hcv := run_conv_mkB (cap := 8) hH (fun j hj => by rw [if_pos (by omega)]; exact Nat.mod_lt _ (by omega))
      have eB : mkB 8 (fun j => if 0 ≤ j then U / 256 ^ (7 - j) % 256 else 0) = mkB 8 (fun j => U / 256 ^ (7 - j) % 256) := mkB_congr (fun j _ => by rw [if_pos (by omega)])
      rw [eB] at hcv
      have HN := hide hO
      clear hO hH eB
      go_wp2_with fail
      go_ret
      exact ⟨rfl, unhide HN⟩
theorem efront_any (k : ByteArray) (w : World) : Calls Tryz.prog 318 #[.string k] w fun e w' => e = .returned (.string (if 8 < k.size then k.extract 0 8 else k)) ∧ w = w' := by
  by_cases h : 8 < k.size
  · have a1 : decide ((k.size : Int) > 8) = true := decide_eq_true (by omega)
    have a1' : decide (8 < (k.size : Int)) = true := decide_eq_true (by omega)
    have a2 : (8 : Int) ≤ (k.size : Int) := by omega
    rw [if_pos h]
    clear h
    go_enter Tryz.func318, Tryz.ntmps318
    go_wp2_with fail
    go_ret
    exact ⟨rfl, rfl⟩
  · have a1 : decide ((k.size : Int) > 8) = false := decide_eq_false (by omega)
    have a1' : decide (8 < (k.size : Int)) = false := decide_eq_false (by omega)
    rw [if_neg h]
    clear h
    go_enter Tryz.func318, Tryz.ntmps318
    go_wp2_with fail
    go_ret
    exact ⟨rfl, rfl⟩
theorem eback_any (k : ByteArray) (hk : k.size ≤ 1000) (w : World) : Calls Tryz.prog 255 #[.string k] w fun e w' => e = .returned (.string (if 8 < k.size then k.extract (k.size - 8) k.size else k)) ∧ w = w' := by
  by_cases h : 8 < k.size
  · have a1 : decide ((k.size : Int) > 8) = true := decide_eq_true (by omega)
    have a1' : decide (8 < (k.size : Int)) = true := decide_eq_true (by omega)
    have a2 : (8 : Int) ≤ (k.size : Int) := by omega
    have a3 : (k.size : Int) ≤ 1000 := by omega
    have e1 : ((k.size : Int) - 8).toNat = k.size - 8 := by omega
    rw [if_pos h]
    clear h
    go_enter Tryz.func255, Tryz.ntmps255
    go_wp2_with fail
    go_ret
    exact ⟨by first | rfl | simp [e1], rfl⟩
  · have a1 : decide ((k.size : Int) > 8) = false := decide_eq_false (by omega)
    have a1' : decide (8 < (k.size : Int)) = false := decide_eq_false (by omega)
    rw [if_neg h]
    clear h
    go_enter Tryz.func255, Tryz.ntmps255
    go_wp2_with fail
    go_ret
    exact ⟨rfl, rfl⟩
/-- A value as it is handed over. -/
def vlA (v : Vl) : Value := .agg #[.bool v.str, .int .i64 v.i, .string v.s]
theorem ecodeVal_any (v : Vl) (h : v.fit) (w : World) : Calls Tryz.prog 253 #[vlA v] w fun e w' => e = .returned (.string (cV v)) ∧ Only (fun _ => False) w w' := by
  have o0 : Only (fun _ => False) w (w.alloc (.cells #[.bool v.str, .int .i64 v.i, .string v.s] 152)) := (Only.refl _ w).alloc _
  unfold vlA cV
  cases hs : v.str with
  | true =>
    have C := epad_any v.s 7 h.2 (by omega) (w.alloc (.cells #[.bool true, .int .i64 v.i, .string v.s] 152))
    have C := hide C
    rw [hs] at o0
    go_enter Tryz.func253, Tryz.ntmps253
    go_wp2_with fail
    refine (unhide C).mono ?_
    rintro e w1 ⟨rfl, o1⟩
    have HO := hide (o0.trans o1 (fun _ _ h => h))
    clear o1 o0
    go_wp2_with fail
    go_ret
    exact ⟨rfl, unhide HO⟩
  | false =>
    have C := ecodeInt_any v.i (Vl.fit_int h hs).2 (w.alloc (.cells #[.bool false, .int .i64 v.i, .string v.s] 152))
    have C := hide C
    rw [hs] at o0
    go_enter Tryz.func253, Tryz.ntmps253
    go_wp2_with fail
    refine (unhide C).mono ?_
    rintro e w1 ⟨rfl, o1⟩
    have HO := hide (o0.trans o1 (fun _ _ h => h))
    clear o1 o0
    go_wp2_with fail
    go_ret
    exact ⟨rfl, unhide HO⟩
end Go.Proofs.Qxb6500412aGreat
