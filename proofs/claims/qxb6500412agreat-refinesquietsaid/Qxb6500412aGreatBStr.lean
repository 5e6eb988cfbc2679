/-
  OWN WORK. THE B-TREE: strings in pages: getStr, setAt, putStr.
-/
import Derived.Test.Qxb6500412aGreatPgBit
import Derived.Test.Qxb6500412aGreatOTab
import Derived.Test.Qxb6500412aGreatBNd
import Derived.BigRegion
import Derived.BigQuiet
import Derived.Deep.QuietTactic
import Derived.Deep.DeepCutAuto
namespace Go.Proofs.Qxb6500412aGreat
open Go.RowKit Go.PlainAid
set_option linter.unusedSimpArgs false
set_option linter.unusedVariables false

theorem getStr_any (b : ByteArray) (off n : Nat) (hb : b.size = 128) (h : off + n ≤ 128) (w : World) :
    Calls Tryz.prog 357 #[.string b, .int .i64 off, .int .i64 n] w fun e w' => e = .returned (.string (b.extract off (off + n))) ∧ Only (fun _ => False) w w' := by
  have a1 : (off : Int) + (n : Int) ≤ 128 := by omega
  go_enter Tryz.func357, Tryz.ntmps357
  go_wp2_with fail
  go_ret
  exact ⟨rfl, Only.refl _ w⟩
theorem setAt_any (m : ByteArray) (i v : Nat) (hm : m.size = 128) (hi : i < 128) (hv : v < 256) (w : World) :
    Calls Tryz.prog 153 #[.string m, .int .i64 i, .int .u8 v] w fun e w' => e = .returned (.string (withB m i v)) ∧ Only (fun _ => False) w w' := by
  have hv8 : ((UInt8.ofNat v).toNat : Int) = v := u8_wrap v hv
  have hcv := run_convert_bytes_back (P := Tryz.prog) (w.alloc (.cells #[.int .u8 (v : Int)] 5)).drew 282 137 5 ⟨w.heap.size, 0, none⟩ 1 [UInt8.ofNat v] Tryz.underlying282 Tryz.underlying5 Tryz.underlying137 (fun j hj => by
    obtain rfl : j = 0 := by simpa using hj
    rw [addr_add, (Has.new w _ 5).drew.cell]
    simp [hv8]
    omega)
  simp only [List.length_singleton] at hcv
  go_enter Tryz.func153, Tryz.ntmps153
  go_wp2_with fail
  go_region
  all_goals
    go_wp2_with fail
    go_ret
    exact ⟨rfl, ((Only.refl _ w).alloc _).drew⟩
/-- The string's length and its first k bytes laid at off. -/
def putF (f : Nat → Nat) (off : Nat) (s : ByteArray) (k : Nat) (j : Nat) : Nat := if off ≤ j ∧ j ≤ off + k then fld s (j - off) else f j
theorem putF_zero (f : Nat → Nat) (off : Nat) (s : ByteArray) : (fun j => if j = off then s.size else f j) = putF f off s 0 := by
  funext j
  unfold putF
  by_cases h : j = off
  · subst h; rw [if_pos rfl, if_pos (by omega)]; simp [fld]
  · rw [if_neg h, if_neg (by omega)]
theorem putF_succ (f : Nat → Nat) (off : Nat) (s : ByteArray) (k : Nat) : (fun j => if j = off + 1 + k then byteAt s k else putF f off s k j) = putF f off s (k + 1) := by
  funext j
  by_cases h : j = off + 1 + k
  · subst h
    show (if off + 1 + k = off + 1 + k then byteAt s k else _) = _
    rw [if_pos rfl]
    unfold putF
    rw [if_pos (by omega)]
    have e : off + 1 + k - off = k + 1 := by omega
    rw [e]
    unfold fld
    rw [if_neg (by omega)]
    rfl
  · show (if j = off + 1 + k then byteAt s k else _) = _
    rw [if_neg h]
    unfold putF
    by_cases h2 : off ≤ j ∧ j ≤ off + k
    · rw [if_pos h2, if_pos (by omega)]
    · rw [if_neg h2, if_neg (by omega)]
theorem Has.setU8 {w : World} {g : Nat} {f : Nat → Nat} (h : Has w g (tabV 128 (u8f f)) 5) (i v : Nat) : Has (w.setCell ⟨g, i, none⟩ (.int .u8 (v : Int))) g (tabV 128 (u8f (fun j => if j = i then v else f j))) 5 := by
  have := Has.setCell h i (.int .u8 (v : Int))
  rw [u8_set] at this
  exact this
set_option maxRecDepth 100000 in
theorem putStr_any (g : Nat) (f : Nat → Nat) (off : Nat) (s : ByteArray) (w : World) (h : Has w g (tabV 128 (u8f f)) 5) (hs : s.size ≤ 16) (ho : off + 17 ≤ 128) :
    Calls Tryz.prog 288 #[.slice (some ⟨g, 0, none⟩) 128 128, .int .i64 off, .string s, .int .i64 16] w fun e w' => e = .returned (.slice (some ⟨g, 0, none⟩) 128 128) ∧ Has w' g (tabV 128 (u8f (putF f off s s.size))) 5 ∧ Only (fun k => k = g) w w' := by
  have c1 := h.cell off
  rw [u8_get _ _ _ (by omega)] at c1
  have c2 := h.free off
  have a1 : (off : Int) < 128 := by omega
  have h1 := h.setU8 off s.size
  rw [putF_zero] at h1
  have o1 : Only (fun k => k = g) w (w.setCell ⟨g, off, none⟩ (.int .u8 (s.size : Int))) := only1 _ _
  have H1 := hide h1
  have O1 := hide o1
  clear h1 o1
  go_enter Tryz.func288, Tryz.ntmps288
  go_upto_region 3 with fail
  generalize w.setCell ⟨g, off, none⟩ (.int .u8 (s.size : Int)) = w1 at *
  clear c1 c2
  go_loopw [9] (fun i wr => ∃ k : Nat, k ≤ s.size ∧ i = .int .i64 k ∧ Has wr g (tabV 128 (u8f (putF f off s k))) 5 ∧ Only (fun k => k = g) w wr) (fun i _ => s.size - (intOf i).toNat)
  case atStart => exact ⟨0, Nat.zero_le _, rfl, unhide H1, unhide O1⟩
  case round =>
    obtain ⟨k, hk, rfl, hH, hO⟩ := hrel
    by_cases hkn : k < s.size
    · have a2 : decide ((k : Int) < (s.size : Int)) = true := decide_eq_true (by omega)
      have a3 : decide ((k : Int) < 16) = true := decide_eq_true (by omega)
      have d1 := hH.cell (off + 1 + k)
      rw [u8_get _ _ _ (by omega)] at d1
      have d2 := hH.free (off + 1 + k)
      have a4 : (off : Int) + 1 + (k : Int) < 128 := by omega
      have hbk : (s[k].toNat : Int) = ((byteAt s k : Nat) : Int) := byteAt_idx s k hkn
      have hN := hH.setU8 (off + 1 + k) (byteAt s k)
      rw [putF_succ] at hN
      have HN := hide hN
      have ON := hide hO
      clear hN hO hH
      go_wp2_with fail
      go_roundw
      case rel => exact ⟨k + 1, by omega, by go_num, unhide HN, (unhide ON).trans (only1 _ _) (fun _ _ h => h)⟩
      case measure => simp [intOf]; omega
    · obtain rfl : k = s.size := by omega
      have a2 : decide ((s.size : Int) < (s.size : Int)) = false := by simp
      have FF := hide (And.intro hH hO)
      clear hH hO
      go_wp2_with fail
      go_ret
      exact ⟨rfl, unhide FF⟩
end Go.Proofs.Qxb6500412aGreat
