/-
  OWN WORK. THE PAGER's BITMAP: countClear, lowestClear.
-/
import Derived.Test.Qxb6500412aGreatPgBit
namespace Go.Proofs.Qxb6500412aGreat
open Go.RowKit
set_option linter.unusedSimpArgs false
set_option linter.unusedVariables false

def cnt (f : Nat → Bool) (k : Nat) : Nat := ((List.range k).filter (fun n => n != 0 && !f n)).length
theorem cnt_succ (f : Nat → Bool) (k : Nat) : cnt f (k + 1) = cnt f k + (if k ≠ 0 ∧ f k = false then 1 else 0) := by
  unfold cnt
  rw [List.range_succ, List.filter_append, List.length_append]
  congr 1
  by_cases h0 : k = 0
  · subst h0; simp
  · cases hf : f k <;> simp [h0, hf]
theorem cnt_le (f : Nat → Bool) (k : Nat) : cnt f k ≤ k := by
  unfold cnt
  have := List.length_filter_le (fun n => n != 0 && !f n) (List.range k)
  simpa using this
theorem cnt_congr {f g : Nat → Bool} (k : Nat) (h : ∀ n, n < k → f n = g n) : cnt f k = cnt g k := by
  unfold cnt
  congr 1
  apply List.filter_congr
  intro n hn
  rw [h n (List.mem_range.1 hn)]

def lowOf (f : Nat → Bool) : Nat := ((List.range 72).find? (fun n => n != 0 && !f n)).getD 0
theorem lowOf_eq {f : Nat → Bool} {n : Nat} (h0 : 1 ≤ n) (hn : n < 72) (hf : f n = false) (hb : ∀ j, 1 ≤ j → j < n → f j = true) : lowOf f = n := by
  unfold lowOf
  have : (List.range 72).find? (fun n => n != 0 && !f n) = some n := by
    rw [List.find?_eq_some_iff_getElem]
    refine ⟨by simp [hf]; omega, n, by simpa using hn, by simp, fun j hj => ?_⟩
    rw [List.getElem_range]
    by_cases hj0 : j = 0
    · simp [hj0]
    · rw [hb j (by omega) hj]; simp
  rw [this]; rfl
theorem lowOf_zero {f : Nat → Bool} (hb : ∀ j, 1 ≤ j → j < 72 → f j = true) : lowOf f = 0 := by
  unfold lowOf
  have : (List.range 72).find? (fun n => n != 0 && !f n) = none := by
    rw [List.find?_eq_none]
    intro j hj
    have hj' := List.mem_range.1 hj
    by_cases hj0 : j = 0
    · simp [hj0]
    · rw [hb j (by omega) hj']; simp
  rw [this]; rfl
theorem find_congr {α : Type} {p q : α → Bool} : ∀ (l : List α), (∀ x ∈ l, p x = q x) → l.find? p = l.find? q := by
  intro l
  induction l with
  | nil => intro _; rfl
  | cons a r ih =>
    intro h
    rw [List.find?_cons, List.find?_cons, h a (by simp), ih (fun x hx => h x (by simp [hx]))]
theorem lowOf_congr {f g : Nat → Bool} (h : ∀ n, n < 72 → f n = g n) : lowOf f = lowOf g := by
  unfold lowOf
  congr 1
  apply find_congr
  intro n hn
  rw [h n (List.mem_range.1 hn)]
theorem lowOf_lt (f : Nat → Bool) : lowOf f < 72 := by
  unfold lowOf
  cases h : (List.range 72).find? (fun n => n != 0 && !f n) with
  | none => simp
  | some n => have := List.mem_of_find?_eq_some h; simpa using this
theorem lowOf_free {f : Nat → Bool} (h : lowOf f ≠ 0) : f (lowOf f) = false := by
  unfold lowOf at h ⊢
  cases hf : (List.range 72).find? (fun n => n != 0 && !f n) with
  | none => rw [hf] at h; simp at h
  | some n => have := List.find?_some hf; simp at this; simpa using this.2

theorem or1_fact : ∀ (b : Fin 256), bits BinOp.or IntKind.u8 ((b.val : Nat) : Int) 1 = ((b.val ||| 1 : Nat) : Int) ∧ (b.val ||| 1) < 256 ∧ ((b.val ||| 1).testBit 0 = true) ∧ ∀ j : Fin 8, j.val ≠ 0 → (b.val ||| 1).testBit j.val = b.val.testBit j.val := by decide +kernel
theorem ff_bit : ∀ j : Fin 8, (255 : Nat).testBit j.val = true := by decide
theorem and0_fact : ∀ (b : Fin 256) (k : Fin 8), (bits BinOp.and IntKind.u8 ((b.val : Nat) : Int) (((2 ^ k.val : Nat)) : Int) == 0) = !b.val.testBit k.val := by decide +kernel

/-- The byte that the scan looks at. -/
def scanB (m : ByteArray) (i : Nat) : Nat := if i = 0 then byteAt m 0 ||| 1 else byteAt m i
theorem scanB_lt (m : ByteArray) (i : Nat) : scanB m i < 256 := by
  unfold scanB
  split
  · exact (or1_fact ⟨byteAt m 0, byteAt_lt m 0⟩).2.1
  · exact byteAt_lt m i
theorem scanB_bit (m : ByteArray) (n : Nat) : (scanB m (n / 8)).testBit (n % 8) = (n == 0 || bitOf m n) := by
  unfold scanB
  by_cases h0 : n / 8 = 0
  · rw [if_pos h0]
    obtain ⟨_, _, hz, hj⟩ := or1_fact ⟨byteAt m 0, byteAt_lt m 0⟩
    by_cases hn : n = 0
    · subst hn; simp
    · have := hj ⟨n % 8, Nat.mod_lt _ (by omega)⟩ (by simp only; omega)
      simp only at this
      rw [this]
      have hn' : (n == 0) = false := by simpa using hn
      rw [hn', Bool.false_or]
      unfold bitOf
      rw [h0]
  · rw [if_neg h0]
    have hn' : (n == 0) = false := by
      have : n ≠ 0 := fun e => h0 (by rw [e])
      simpa using this
    rw [hn', Bool.false_or]
    rfl

set_option maxRecDepth 100000 in
set_option maxHeartbeats 1000000 in
theorem lowestClear_any (m : ByteArray) (hm : m.size = 128) (w : World) :
    Calls Tryz.prog 145 #[.string m] w fun e w' => e = .returned (.int .i64 (lowOf (bitOf m))) ∧ w = w' := by
  go_enter Tryz.func145, Tryz.ntmps145
  go_wp2_with fail
  go_loop [3] (fun v => ∃ i : Nat, i ≤ 9 ∧ v = .int .i64 i ∧ ∀ j, 1 ≤ j → j < 8 * i → bitOf m j = true) (fun v => (9 - intOf v).toNat)
  case atStart => exact ⟨0, by omega, rfl, fun j _ hj => by omega⟩
  case round =>
    obtain ⟨i, hi, rfl, ha⟩ := hrel
    have Ha := hide ha
    clear ha
    by_cases hi9 : i < 9
    · have hi9' : (i : Int) < 9 := by omega
      have i1 : (i : Int) < 128 := by omega
      have hib : i < m.size := by omega
      have hidx := byteAt_idx m i hib
      go_upto_if 14 with fail
      go_cut [4] (fun v wx => v = .int .u8 (scanB m i) ∧ w = wx)
      case first =>
        by_cases h0 : i = 0
        · subst h0
          have hor := (or1_fact ⟨byteAt m 0, byteAt_lt m 0⟩).1
          simp only at hor
          have hsc : ((byteAt m 0 ||| 1 : Nat) : Int) = ((scanB m 0 : Nat) : Int) := by unfold scanB; rw [if_pos rfl]
          rw [hsc] at hor
          clear hsc
          generalize scanB m 0 = sb at *
          go_wp2_with fail
          go_meet
          exact ⟨rfl, rfl⟩
        · have h0' : ((i : Int) == 0) = false := by simpa using h0
          have hsc : scanB m i = byteAt m i := by unfold scanB; rw [if_neg h0]
          have Hsc := hide hsc
          clear hsc
          go_wp2_with fail
          go_meet
          exact ⟨by rw [unhide Hsc], rfl⟩
      case rest =>
      obtain ⟨rfl, rfl⟩ := hcut
      have hbits : ∀ n, n / 8 = i → (scanB m i).testBit (n % 8) = (n == 0 || bitOf m n) := fun n hn => by rw [← hn]; exact scanB_bit m n
      have hsl := scanB_lt m i
      clear hidx
      generalize scanB m i = sb at *
      have Hbits := hide hbits
      clear hbits
      by_cases hff : sb = 255
      · subst hff
        go_wp2_with fail
        go_round
        case rel =>
          refine ⟨i + 1, by omega, by go_num, fun j h1 h2 => ?_⟩
          by_cases hj : j < 8 * i
          · exact unhide Ha j h1 hj
          · have := unhide Hbits j (by omega)
            rw [ff_bit ⟨j % 8, Nat.mod_lt _ (by omega)⟩] at this
            have hj0 : (j == 0) = false := by simp; omega
            rw [hj0, Bool.false_or] at this
            exact this.symm
        case measure => simp [intOf]; omega
      · have hff' : ((sb : Int) != 255) = true := by simp; omega
        go_wp2_with fail
        go_loop [5] (fun v => ∃ n : Nat, 8 * i ≤ n ∧ n ≤ 8 * i + 8 ∧ v = .int .i64 n ∧ ∀ j, 1 ≤ j → j < n → bitOf m j = true) (fun v => (80 - intOf v).toNat)
        case atStart => exact ⟨8 * i, by omega, by omega, by simp; omega, fun j h1 h2 => unhide Ha j h1 h2⟩
        case round =>
          obtain ⟨n, hn0, hn1, rfl, hb⟩ := hrel
          have Hb := hide hb
          clear hb
          by_cases hn8 : n < 8 * i + 8
          · have hd1 : decide ((n : Int) < (i : Int) * 8 + 8) = true := by simp; omega
            have hd2 : decide ((n : Int) < 72) = true := by simp; omega
            have C1 := hide (mask_any n (by omega) w)
            have ha := and0_fact ⟨sb, hsl⟩ ⟨n % 8, Nat.mod_lt _ (by omega)⟩
            have hbt := unhide Hbits n (by omega)
            have ha' : (bits BinOp.and IntKind.u8 (sb : Int) ((maskN n : Nat) : Int) == 0) = !(n == 0 || bitOf m n) := by rw [← hbt]; exact ha
            cases hv : (n == 0 || bitOf m n) with
            | false =>
              rw [hv] at ha'
              simp only [Bool.or_eq_false_iff] at hv
              have hn00 : 1 ≤ n := by have := hv.1; simp at this; omega
              have hfin := lowOf_eq hn00 (by omega) hv.2 (fun j h1 h2 => unhide Hb j h1 h2)
              have Hfin := hide hfin
              clear ha hbt hv hfin hn00
              simp only [Bool.not_false] at ha'
              go_wp2_with fail
              refine (unhide C1).mono ?_
              rintro e w' ⟨rfl, rfl⟩
              go_wp2_with fail
              go_ret
              rw [unhide Hfin]
              exact ⟨rfl, rfl⟩
            | true =>
              rw [hv] at ha'
              have hnx : 1 ≤ n → bitOf m n = true := fun h1 => by
                have h0 : (n == 0) = false := by simp; omega
                rw [h0, Bool.false_or] at hv
                exact hv
              have Hnx := hide hnx
              clear ha hbt hv hnx
              simp only [Bool.not_true] at ha'
              go_wp2_with fail
              refine (unhide C1).mono ?_
              rintro e w' ⟨rfl, rfl⟩
              go_wp2_with fail
              go_round
              case rel =>
                refine ⟨n + 1, by omega, by omega, by go_num, fun j h1 h2 => ?_⟩
                by_cases hj : j = n
                · subst hj; exact unhide Hnx h1
                · exact unhide Hb j h1 (by omega)
              case measure => simp [intOf]; omega
          · have hd1 : decide ((n : Int) < (i : Int) * 8 + 8) = false := by simp; omega
            go_wp2_with fail
            go_round
            case rel => exact ⟨i + 1, by omega, by go_num, fun j h1 h2 => unhide Hb j h1 (by omega)⟩
            case measure => simp [intOf]; omega
    · obtain rfl : i = 9 := by omega
      go_wp2_with fail
      go_ret
      rw [lowOf_zero (fun j h1 h2 => unhide Ha j h1 (by omega))]
      exact ⟨rfl, rfl⟩
end Go.Proofs.Qxb6500412aGreat
