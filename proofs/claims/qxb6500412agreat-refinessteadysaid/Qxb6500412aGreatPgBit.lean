/-
  OWN WORK. THE PAGER's BITMAP: mask, bit, with, setBit, clearBit.
-/
import Derived.Test.Qxb6500412aGreatPgRW
namespace Go.Proofs.Qxb6500412aGreat
open Go.RowKit
set_option linter.unusedSimpArgs false
set_option linter.unusedVariables false

def maskN (n : Nat) : Nat := 2 ^ (n % 8)
theorem maskN_lt (n : Nat) : maskN n < 256 := by
  unfold maskN
  have : n % 8 < 8 := Nat.mod_lt _ (by omega)
  generalize n % 8 = k at *
  rcases (by omega : k = 0 ∨ k = 1 ∨ k = 2 ∨ k = 3 ∨ k = 4 ∨ k = 5 ∨ k = 6 ∨ k = 7) with rfl | rfl | rfl | rfl | rfl | rfl | rfl | rfl <;> decide

theorem mask_fact : ∀ n : Fin 72, (2 : Int) ^ min (IntKind.u64.wrap (bits BinOp.and IntKind.i64 ((n.val : Nat) : Int) 7)).toNat 8 % 256 = ((maskN n.val : Nat) : Int) := by decide +kernel

theorem mask_any (n : Nat) (hn : n < 72) (w : World) :
    Calls Tryz.prog 207 #[.int .i64 n] w fun e w' => e = .returned (.int .u8 (maskN n)) ∧ w = w' := by
  have hm := mask_fact ⟨n, hn⟩
  go_enter Tryz.func207, Tryz.ntmps207
  go_wp2
  go_ret
  refine ⟨?_, rfl⟩
  rw [← hm]
  rfl
theorem mask_q (n : Nat) (hn : n < 72) (w : World) :
    Calls Tryz.prog 207 #[.int .i64 n] w fun e w' => e = .returned (.int .u8 (maskN n)) ∧ w' = w := (mask_any n hn w).mono fun _ _ h => ⟨h.1, h.2.symm⟩

def bitOf (m : ByteArray) (n : Nat) : Bool := (byteAt m (n / 8)).testBit (n % 8)

theorem and_fact : ∀ (b : Fin 256) (k : Fin 8), (bits BinOp.and IntKind.u8 ((b.val : Nat) : Int) (((2 ^ k.val : Nat)) : Int) != 0) = b.val.testBit k.val := by decide +kernel
theorem and_mask (b n : Nat) (hb : b < 256) : (bits BinOp.and IntKind.u8 (b : Int) ((maskN n : Nat) : Int) != 0) = b.testBit (n % 8) := and_fact ⟨b, hb⟩ ⟨n % 8, Nat.mod_lt _ (by omega)⟩

theorem byteAt_idx (m : ByteArray) (i : Nat) (h : i < m.size) : (m[i].toNat : Int) = ((byteAt m i : Nat) : Int) := by rw [byteAt_get m i h]

theorem Only.drewN' {S : Nat → Prop} {a w : World} (h : Only S a w) (n : Nat) : Only S a (w.drewN n) := ⟨h.os, h.tape, h.output, h.size, h.block⟩

theorem bit_q (m : ByteArray) (n : Nat) (hm : m.size = 128) (hn : n < 72) (w : World) :
    Calls Tryz.prog 143 #[.string m, .int .i64 n] w fun e w' => e = .returned (.bool (bitOf m n)) ∧ ∃ k, w' = w.drewN k := by
  have i0 : 0 ≤ (n : Int) / 8 := by omega
  have i1 : (n : Int) / 8 < 128 := by omega
  go_enter Tryz.func143, Tryz.ntmps143
  go_wp2_with fail
  go_quiet (first | (go_at_call 207; refine Calls.quiet_of_same (mask_q n hn _)))
  go_wp2_with fail
  go_ret
  refine ⟨?_, nq, rfl⟩
  have hb : n / 8 < m.size := by omega
  have := and_mask (byteAt m (n / 8)) n (byteAt_lt m _)
  unfold bitOf
  rw [← this, ← byteAt_idx m _ hb]
  rfl
theorem bit_any (m : ByteArray) (n : Nat) (hm : m.size = 128) (hn : n < 72) (w : World) :
    Calls Tryz.prog 143 #[.string m, .int .i64 n] w fun e w' => e = .returned (.bool (bitOf m n)) ∧ Only (fun _ => False) w w' :=
  (bit_q m n hm hn w).mono fun _ _ ⟨h, k, e⟩ => ⟨h, e ▸ (Only.refl _ w).drewN' k⟩

def withB (m : ByteArray) (i v : Nat) : ByteArray := m.extract 0 i ++ ⟨#[UInt8.ofNat v]⟩ ++ m.extract (i + 1) 128

theorem with_any (m : ByteArray) (i v : Nat) (hm : m.size = 128) (hi : i < 128) (hv : v < 256) (w : World) :
    Calls Tryz.prog 208 #[.string m, .int .i64 i, .int .u8 v] w fun e w' => e = .returned (.string (withB m i v)) ∧ Only (fun _ => False) w w' := by
  have hv8 : ((UInt8.ofNat v).toNat : Int) = v := u8_wrap v hv
  have hcv := run_convert_bytes_back (P := Tryz.prog) (w.alloc (.cells #[.int .u8 (v : Int)] 5)).drew 282 137 5 ⟨w.heap.size, 0, none⟩ 1 [UInt8.ofNat v] Tryz.underlying282 Tryz.underlying5 Tryz.underlying137 (fun j hj => by
    obtain rfl : j = 0 := by simpa using hj
    rw [addr_add, (Has.new w _ 5).drew.cell]
    simp [hv8]
    omega)
  simp only [List.length_singleton] at hcv
  go_enter Tryz.func208, Tryz.ntmps208
  go_wp2_with fail
  go_region
  all_goals
    go_wp2_with fail
    go_ret
    exact ⟨rfl, ((Only.refl _ w).alloc _).drew⟩

def setB (m : ByteArray) (n : Nat) : ByteArray := withB m (n / 8) (byteAt m (n / 8) ||| maskN n)
def clrB (m : ByteArray) (n : Nat) : ByteArray := withB m (n / 8) (byteAt m (n / 8) - (byteAt m (n / 8) &&& maskN n))

theorem or_fact : ∀ (b : Fin 256) (k : Fin 8), bits BinOp.or IntKind.u8 ((b.val : Nat) : Int) (((2 ^ k.val : Nat)) : Int) = ((b.val ||| 2 ^ k.val : Nat) : Int) ∧ (b.val ||| 2 ^ k.val) < 256 := by decide +kernel
theorem andNot_fact : ∀ (b : Fin 256) (k : Fin 8), bits BinOp.andNot IntKind.u8 ((b.val : Nat) : Int) (((2 ^ k.val : Nat)) : Int) = ((b.val - (b.val &&& 2 ^ k.val) : Nat) : Int) := by decide +kernel

theorem setBit_any (m : ByteArray) (n : Nat) (hm : m.size = 128) (hn : n < 72) (w : World) :
    Calls Tryz.prog 146 #[.string m, .int .i64 n] w fun e w' => e = .returned (.string (setB m n)) ∧ Only (fun _ => False) w w' := by
  have i0 : 0 ≤ (n : Int) / 8 := by omega
  have i1 : (n : Int) / 8 < 128 := by omega
  have hb : n / 8 < m.size := by omega
  have hof := or_fact ⟨byteAt m (n / 8), byteAt_lt m _⟩ ⟨n % 8, Nat.mod_lt _ (by omega)⟩
  have ho : bits BinOp.or IntKind.u8 (m[n / 8].toNat : Int) ((maskN n : Nat) : Int) = ((byteAt m (n / 8) ||| maskN n : Nat) : Int) := by
    rw [byteAt_idx m _ hb]; exact hof.1
  have hv : (byteAt m (n / 8) ||| maskN n) < 256 := hof.2
  have hdef : setB m n = withB m (n / 8) (byteAt m (n / 8) ||| maskN n) := rfl
  rw [hdef]
  generalize (byteAt m (n / 8) ||| maskN n) = v at *
  have e8 : (n : Int) / 8 = ((n / 8 : Nat) : Int) := by omega
  have C1 : ∀ w, Calls Tryz.prog 208 #[.string m, .int .i64 ((n : Int) / 8), .int .u8 v] w fun e w' => e = .returned (.string (withB m (n / 8) v)) ∧ Only (fun _ => False) w w' := by
    intro w
    have := with_any m (n / 8) v hm (by omega) hv w
    rw [← e8] at this
    exact this
  have C1 := hide C1
  clear hof hdef e8
  go_enter Tryz.func146, Tryz.ntmps146
  go_wp2_with fail
  go_quiet (first | (go_at_call 207; refine Calls.quiet_of_same (mask_q n hn _)))
  go_wp2_with fail
  refine (unhide C1 _).mono ?_
  rintro e w2 ⟨rfl, ho2⟩
  go_wp2_with fail
  go_ret
  exact ⟨rfl, ((Only.refl _ w).drewN' nq).trans ho2 (fun _ _ h => h)⟩

theorem clearBit_any (m : ByteArray) (n : Nat) (hm : m.size = 128) (hn : n < 72) (w : World) :
    Calls Tryz.prog 344 #[.string m, .int .i64 n] w fun e w' => e = .returned (.string (clrB m n)) ∧ Only (fun _ => False) w w' := by
  have i0 : 0 ≤ (n : Int) / 8 := by omega
  have i1 : (n : Int) / 8 < 128 := by omega
  have hb : n / 8 < m.size := by omega
  have hof := andNot_fact ⟨byteAt m (n / 8), byteAt_lt m _⟩ ⟨n % 8, Nat.mod_lt _ (by omega)⟩
  have ho : bits BinOp.andNot IntKind.u8 (m[n / 8].toNat : Int) ((maskN n : Nat) : Int) = ((byteAt m (n / 8) - (byteAt m (n / 8) &&& maskN n) : Nat) : Int) := by
    rw [byteAt_idx m _ hb]; exact hof
  have hv : (byteAt m (n / 8) - (byteAt m (n / 8) &&& maskN n)) < 256 := by have := byteAt_lt m (n / 8); omega
  have hdef : clrB m n = withB m (n / 8) (byteAt m (n / 8) - (byteAt m (n / 8) &&& maskN n)) := rfl
  rw [hdef]
  generalize (byteAt m (n / 8) - (byteAt m (n / 8) &&& maskN n)) = v at *
  have e8 : (n : Int) / 8 = ((n / 8 : Nat) : Int) := by omega
  have C1 : ∀ w, Calls Tryz.prog 208 #[.string m, .int .i64 ((n : Int) / 8), .int .u8 v] w fun e w' => e = .returned (.string (withB m (n / 8) v)) ∧ Only (fun _ => False) w w' := by
    intro w
    have := with_any m (n / 8) v hm (by omega) hv w
    rw [← e8] at this
    exact this
  have C1 := hide C1
  clear hof hdef e8
  go_enter Tryz.func344, Tryz.ntmps344
  go_wp2_with fail
  go_quiet (first | (go_at_call 207; refine Calls.quiet_of_same (mask_q n hn _)))
  go_wp2_with fail
  refine (unhide C1 _).mono ?_
  rintro e w2 ⟨rfl, ho2⟩
  go_wp2_with fail
  go_ret
  exact ⟨rfl, ((Only.refl _ w).drewN' nq).trans ho2 (fun _ _ h => h)⟩

theorem withB_list (m : ByteArray) (i v : Nat) (hm : m.size = 128) : (withB m i v).data.toList = m.data.toList.take i ++ UInt8.ofNat v :: m.data.toList.drop (i + 1) := by
  unfold withB
  have hl : m.data.toList.length = 128 := by rw [Array.length_toList]; exact hm
  rw [ByteArray.data_append, ByteArray.data_append, ByteArray.data_extract, ByteArray.data_extract]
  simp only [Array.toList_append, Array.toList_extract, List.extract_eq_take_drop, List.drop_zero, Nat.sub_zero, List.append_assoc, List.cons_append, List.nil_append]
  rw [List.take_of_length_le (l := m.data.toList.drop (i + 1)) (by rw [List.length_drop, hl]; omega)]
theorem withB_size (m : ByteArray) (i v : Nat) (hm : m.size = 128) (hi : i < 128) : (withB m i v).size = 128 := by
  have h1 : (withB m i v).size = (withB m i v).data.toList.length := by rw [Array.length_toList]; rfl
  have : m.data.toList.length = 128 := by rw [Array.length_toList]; exact hm
  rw [h1, withB_list m i v hm]
  simp only [List.length_append, List.length_take, List.length_cons, List.length_drop, this]
  omega
theorem byteAt_withB (m : ByteArray) (i v j : Nat) (hm : m.size = 128) (hi : i < 128) (hv : v < 256) : byteAt (withB m i v) j = if j = i then v else byteAt m j := by
  have hl : m.data.toList.length = 128 := by rw [Array.length_toList]; exact hm
  unfold byteAt
  rw [withB_list m i v hm, List.getD_eq_getElem?_getD, List.getD_eq_getElem?_getD]
  by_cases h : j = i
  · subst h
    rw [if_pos rfl, List.getElem?_append_right (by rw [List.length_take]; omega)]
    have : j - (m.data.toList.take j).length = 0 := by rw [List.length_take, hl]; omega
    rw [this, List.getElem?_cons_zero]
    show (UInt8.ofNat v).toNat = v
    rw [UInt8.toNat_ofNat']
    omega
  · rw [if_neg h]
    by_cases hlt : j < i
    · rw [List.getElem?_append_left (by rw [List.length_take, hl]; omega), List.getElem?_take, if_pos hlt]
    · rw [List.getElem?_append_right (by rw [List.length_take, hl]; omega), List.length_take, hl, show min i 128 = i by omega, show j - i = (j - (i + 1)) + 1 by omega, List.getElem?_cons_succ, List.getElem?_drop, show i + 1 + (j - (i + 1)) = j by omega]

theorem setB_size (m : ByteArray) (n : Nat) (hm : m.size = 128) (hn : n < 72) : (setB m n).size = 128 := withB_size m _ _ hm (by omega)
theorem clrB_size (m : ByteArray) (n : Nat) (hm : m.size = 128) (hn : n < 72) : (clrB m n).size = 128 := withB_size m _ _ hm (by omega)

theorem or_bit : ∀ (b : Fin 256) (k j : Fin 8), (b.val ||| 2 ^ k.val).testBit j.val = if j.val = k.val then true else b.val.testBit j.val := by decide +kernel
theorem andNot_bit : ∀ (b : Fin 256) (k j : Fin 8), (b.val - (b.val &&& 2 ^ k.val)).testBit j.val = if j.val = k.val then false else b.val.testBit j.val := by decide +kernel

theorem bitOf_setB (m : ByteArray) (n k : Nat) (hm : m.size = 128) (hn : n < 72) (hk : k < 72) : bitOf (setB m n) k = if k = n then true else bitOf m k := by
  have hof := or_fact ⟨byteAt m (n / 8), byteAt_lt m _⟩ ⟨n % 8, Nat.mod_lt _ (by omega)⟩
  have hb := or_bit ⟨byteAt m (n / 8), byteAt_lt m _⟩ ⟨n % 8, Nat.mod_lt _ (by omega)⟩ ⟨k % 8, Nat.mod_lt _ (by omega)⟩
  unfold bitOf setB
  have hlt : (byteAt m (n / 8) ||| maskN n) < 256 := hof.2
  rw [byteAt_withB m _ _ _ hm (by omega) hlt]
  by_cases h8 : k / 8 = n / 8
  · rw [if_pos h8]
    refine hb.trans ?_
    simp only
    by_cases hm8 : k % 8 = n % 8
    · rw [if_pos hm8, if_pos (by omega)]
    · rw [if_neg hm8, if_neg (by omega), h8]
  · rw [if_neg h8, if_neg (fun e => h8 (by rw [e]))]
theorem bitOf_clrB (m : ByteArray) (n k : Nat) (hm : m.size = 128) (hn : n < 72) (hk : k < 72) : bitOf (clrB m n) k = if k = n then false else bitOf m k := by
  have hb := andNot_bit ⟨byteAt m (n / 8), byteAt_lt m _⟩ ⟨n % 8, Nat.mod_lt _ (by omega)⟩ ⟨k % 8, Nat.mod_lt _ (by omega)⟩
  unfold bitOf clrB
  rw [byteAt_withB m _ _ _ hm (by omega) (by have := byteAt_lt m (n / 8); omega)]
  by_cases h8 : k / 8 = n / 8
  · rw [if_pos h8]
    refine hb.trans ?_
    simp only
    by_cases hm8 : k % 8 = n % 8
    · rw [if_pos hm8, if_pos (by omega)]
    · rw [if_neg hm8, if_neg (by omega), h8]
  · rw [if_neg h8, if_neg (fun e => h8 (by rw [e]))]
end Go.Proofs.Qxb6500412aGreat
