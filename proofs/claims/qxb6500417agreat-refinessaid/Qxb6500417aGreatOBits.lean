/-
  OWN WORK. THE OBJECT STORE's BITMAP: isUsed, mark, pick; lowestFree.
-/
import Derived.Test.Qxb6500417aGreatOLeaf
namespace Go.Proofs.Qxb6500417aGreat
open Go.RowKit
set_option linter.unusedSimpArgs false
set_option linter.unusedVariables false

def usedW (us : Nat → Nat) (b : Nat) : Bool := (us (b / 64)).testBit (b % 64)
theorem omask_fact : ∀ b : Fin 145, IntKind.u64.wrap ((2 : Int) ^ min (IntKind.u64.wrap (bits BinOp.and IntKind.i64 ((b.val : Nat) : Int) 63)).toNat 64) = ((2 ^ (b.val % 64) : Nat) : Int) := by decide +kernel
theorem pow64 (k : Nat) (hk : k < 64) : 2 ^ k < 18446744073709551616 := by
  have : 2 ^ k < 2 ^ 64 := Nat.pow_lt_pow_right (by omega) hk
  omega
theorem and_pow (v k : Nat) : (((v &&& 2 ^ k : Nat) : Int) != 0) = v.testBit k := by
  cases h : v.testBit k with
  | true =>
    have hne : v &&& 2 ^ k ≠ 0 := by
      intro h0
      have := congrArg (fun n => n.testBit k) h0
      simp [Nat.testBit_and, Nat.testBit_two_pow, h] at this
    have : ((v &&& 2 ^ k : Nat) : Int) ≠ 0 := by omega
    simpa using this
  | false =>
    have hz : v &&& 2 ^ k = 0 := by
      apply Nat.eq_of_testBit_eq
      intro j
      rw [Nat.testBit_and, Nat.testBit_two_pow]
      by_cases e : k = j
      · subst e; simp [h]
      · simp [e]
    rw [hz]; rfl
/-- Bit k cleared. -/
def clrW (v k : Nat) : Nat := (BitVec.ofNat 64 v &&& ~~~ BitVec.ofNat 64 (2 ^ k)).toNat
theorem clrW_lt (v k : Nat) : clrW v k < 18446744073709551616 := (BitVec.ofNat 64 v &&& ~~~ BitVec.ofNat 64 (2 ^ k)).isLt
theorem clrW_bit (v k j : Nat) (hv : v < 18446744073709551616) (hk : k < 64) (hj : j < 64) : (clrW v k).testBit j = if j = k then false else v.testBit j := by
  unfold clrW
  rw [BitVec.testBit_toNat, BitVec.getLsbD_and, BitVec.getLsbD_not, BitVec.getLsbD_ofNat, BitVec.getLsbD_ofNat, Nat.testBit_two_pow]
  by_cases e : j = k
  · subst e; simp
  · have e' : ¬ k = j := fun h => e h.symm
    simp [e, e', hj]
theorem orW_lt (v k : Nat) (hv : v < 18446744073709551616) (hk : k < 64) : v ||| 2 ^ k < 18446744073709551616 := Nat.or_lt_two_pow (n := 64) (by omega) (pow64 k hk)
theorem orW_bit (v k j : Nat) : (v ||| 2 ^ k).testBit j = if j = k then true else v.testBit j := by
  rw [Nat.testBit_or, Nat.testBit_two_pow]
  by_cases e : j = k
  · subst e; simp
  · have e' : ¬ k = j := fun h => e h.symm
    simp [e, e']
theorem bits_andNot_u64_nat (a k : Nat) (ha : a < 18446744073709551616) (hk : k < 64) : bits .andNot .u64 (a : Int) ((2 ^ k : Nat) : Int) = ((clrW a k : Nat) : Int) := by
  have hl := clrW_lt a k
  unfold clrW at *
  show IntKind.u64.wrap ((BitVec.ofInt 64 (a : Int) &&& ~~~ BitVec.ofInt 64 ((2 ^ k : Nat) : Int)).toNat : Int) = _
  rw [BitVec.ofInt_natCast, BitVec.ofInt_natCast, IntKind.wrap_u64]
  omega

section
variable {w : World} {s d : Nat} {tab : Nat → Ent} {hd us : Nat → Nat} {nf rt : Nat}
set_option maxRecDepth 100000 in
theorem isUsed_any (h : SAt w s d tab hd us nf rt) (b : Nat) (hb : b < 145) (hu : us (b / 64) < 18446744073709551616) :
    Calls Tryz.prog 203 #[.pointer (some ⟨s, 0, none⟩), .int .i64 b] w fun e w' => e = .returned (.bool (usedW us b)) ∧ w = w' := by
  have c := (h.word (b / 64) (by omega)).1
  have hm := omask_fact ⟨b, hb⟩
  simp only at hm
  have e1 := bits_and_u64_nat (us (b / 64)) (2 ^ (b % 64)) hu (pow64 _ (Nat.mod_lt _ (by omega)))
  have e2 := and_pow (us (b / 64)) (b % 64)
  go_enter Tryz.func203, Tryz.ntmps203
  have Hm := hide hm
  have H1 := hide e1
  have H2 := hide e2
  clear hm e1 e2
  go_wp2_with fail
  go_ret
  refine ⟨?_, rfl⟩
  show Ending.returned (.bool (bits BinOp.and IntKind.u64 (us (b / 64) : Int) (IntKind.u64.wrap (2 ^ min (IntKind.u64.wrap (bits BinOp.and IntKind.i64 (b : Int) 63)).toNat 64)) != 0)) = _
  rw [unhide Hm, unhide H1, unhide H2]
  rfl

def markW (us : Nat → Nat) (b : Nat) (on : Bool) : Nat → Nat := updT us (b / 64) (if on = true then us (b / 64) ||| 2 ^ (b % 64) else clrW (us (b / 64)) (b % 64))
def wordsOk (us : Nat → Nat) : Prop := ∀ k, k < 3 → us k < 18446744073709551616
theorem markW_ok {us : Nat → Nat} (h : wordsOk us) (b : Nat) (hb : b < 145) (on : Bool) : wordsOk (markW us b on) := by
  intro k hk
  unfold markW updT
  by_cases e : k = b / 64
  · rw [if_pos e]
    cases on
    · exact clrW_lt _ _
    · exact orW_lt _ _ (h _ (by omega)) (Nat.mod_lt _ (by omega))
  · rw [if_neg e]; exact h k hk
theorem markW_bit {us : Nat → Nat} (h : wordsOk us) (b c : Nat) (hb : b < 145) (hc : c < 145) (on : Bool) : usedW (markW us b on) c = if c = b then on else usedW us c := by
  have hb6 : b % 64 < 64 := Nat.mod_lt _ (by omega)
  have hc6 : c % 64 < 64 := Nat.mod_lt _ (by omega)
  unfold usedW markW updT
  by_cases e : c / 64 = b / 64
  · rw [if_pos e]
    cases on
    · rw [if_neg (by simp), clrW_bit _ _ _ (h _ (by omega)) hb6 hc6]
      by_cases e2 : c = b
      · subst e2; simp
      · have : ¬ c % 64 = b % 64 := by omega
        rw [if_neg this, if_neg e2, e]
    · rw [if_pos rfl, orW_bit]
      by_cases e2 : c = b
      · subst e2; simp
      · have : ¬ c % 64 = b % 64 := by omega
        rw [if_neg this, if_neg e2, e]
  · rw [if_neg e, if_neg (by intro h; subst h; exact e rfl)]

set_option maxRecDepth 100000 in
set_option maxHeartbeats 1000000 in
theorem mark_any (h : SAt w s d tab hd us nf rt) (b : Nat) (hb : b < 145) (hu : wordsOk us) (on : Bool) :
    Calls Tryz.prog 126 #[.pointer (some ⟨s, 0, none⟩), .int .i64 b, .bool on] w fun e w' => e = .returned (.tuple #[]) ∧ SAt w' s d tab hd (markW us b on) nf rt ∧ Only (fun k => k = s) w w' := by
  obtain ⟨c, z⟩ := h.word (b / 64) (by omega)
  have hm := omask_fact ⟨b, hb⟩
  simp only at hm
  have hb6 : b % 64 < 64 := Nat.mod_lt _ (by omega)
  have huw := hu (b / 64) (by omega)
  have b3 : b / 64 < 3 := by omega
  unfold markW
  have e3 := h.setWord (b / 64) b3
  cases on with
  | true =>
    have e1 := bits_or_u64_nat (us (b / 64)) (2 ^ (b % 64)) huw (pow64 _ hb6)
    have e4 := e3 (us (b / 64) ||| 2 ^ (b % 64))
    rw [← e1, ← hm] at e4
    have H4 := hide e4
    have i1 : (b : Int) / 64 < 3 := by omega
    have i2 : (0 : Int) ≤ (b : Int) / 64 := by omega
    clear e1 e3 e4 hm
    go_enter Tryz.func126, Tryz.ntmps126
    go_wp2_with fail
    go_region
    all_goals
      go_wp2_with fail
      refine bodyPost_ret (v := .tuple #[]) (by simp [results, Tryz.results126, go_sem]) rfl ?_
      exact ⟨rfl, (unhide H4).keep ((Only.refl (fun _ => False) _).drew) (fun h => h), (only1 (p := s) (303 + b / 64) _).drew⟩
  | false =>
    have e1 := bits_andNot_u64_nat (us (b / 64)) (b % 64) huw hb6
    have e4 := e3 (clrW (us (b / 64)) (b % 64))
    rw [← e1, ← hm] at e4
    have H4 := hide e4
    have i1 : (b : Int) / 64 < 3 := by omega
    have i2 : (0 : Int) ≤ (b : Int) / 64 := by omega
    clear e1 e3 e4 hm
    go_enter Tryz.func126, Tryz.ntmps126
    go_wp2_with fail
    go_region
    all_goals
      go_wp2_with fail
      go_end0
      exact ⟨rfl, (unhide H4).keep ((Only.refl (fun _ => False) _).drew) (fun h => h), (only1 (p := s) (303 + b / 64) _).drew⟩

def lowId (tab : Nat → Ent) : Nat := ((List.range 49).find? (fun n => n != 0 && (tab n).state == 0)).getD 0
theorem lowId_eq {tab : Nat → Ent} {n : Nat} (h0 : 1 ≤ n) (hn : n < 49) (hf : (tab n).state = 0) (hb : ∀ j, 1 ≤ j → j < n → (tab j).state ≠ 0) : lowId tab = n := by
  unfold lowId
  have : (List.range 49).find? (fun n => n != 0 && (tab n).state == 0) = some n := by
    rw [List.find?_eq_some_iff_getElem]
    refine ⟨by simp [hf]; omega, n, by simpa using hn, by simp, ?_⟩
    intro j hj
    simp only [List.getElem_range]
    by_cases e : j = 0
    · simp [e]
    · have := hb j (by omega) hj
      simp [this]
  rw [this]; rfl
theorem lowId_zero {tab : Nat → Ent} (hb : ∀ j, 1 ≤ j → j < 49 → (tab j).state ≠ 0) : lowId tab = 0 := by
  unfold lowId
  have : (List.range 49).find? (fun n => n != 0 && (tab n).state == 0) = none := by
    rw [List.find?_eq_none]
    intro j hj
    have hj' : j < 49 := by simpa using hj
    by_cases e : j = 0
    · simp [e]
    · have := hb j (by omega) hj'
      simp [this]
  rw [this]; rfl

set_option maxRecDepth 100000 in
theorem lowestFree_any (h : SAt w s d tab hd us nf rt) :
    Calls Tryz.prog 189 #[.pointer (some ⟨s, 0, none⟩)] w fun e w' => e = .returned (.int .i64 (lowId tab : Int)) ∧ w = w' := by
  go_enter Tryz.func189, Tryz.ntmps189
  go_wp2_with fail
  go_loop [3] (fun v => ∃ k : Nat, 1 ≤ k ∧ k ≤ 49 ∧ v = .int .i64 k ∧ ∀ j, 1 ≤ j → j < k → (tab j).state ≠ 0) (fun v => (49 - intOf v).toNat)
  case atStart => exact ⟨1, by omega, by omega, rfl, fun j h1 h2 => by omega⟩
  case round =>
    obtain ⟨k, hk1, hk, rfl, ha⟩ := hrel
    have Ha := hide ha
    clear ha
    by_cases hk8 : k < 49
    · have c := (h.state k hk8).1
      generalize hst : (tab k).state = st at *
      have Hst := hide hst
      clear hst
      have hk' : decide ((k : Int) ≤ 48) = true := by simp; omega
      have hk2 : (k : Int) < 49 := by omega
      by_cases e0 : st = 0
      · subst e0
        go_wp2_with fail
        go_ret
        rw [lowId_eq hk1 hk8 (unhide Hst) (fun j h1 h2 => unhide Ha j h1 h2)]
        exact ⟨rfl, rfl⟩
      · have e0' : ((st : Int) == 0) = false := ne_intO (by omega)
        have He := hide e0
        clear e0
        go_wp2_with fail
        go_round
        case rel =>
          refine ⟨k + 1, by omega, by omega, by go_num, fun j h1 h2 => ?_⟩
          by_cases hj : j = k
          · subst hj; rw [unhide Hst]; exact unhide He
          · exact unhide Ha j h1 (by omega)
        case measure => simp [intOf]; omega
    · obtain rfl : k = 49 := by omega
      go_wp2_with fail
      go_ret
      rw [lowId_zero (fun j h1 h2 => unhide Ha j h1 h2)]
      exact ⟨rfl, rfl⟩
end
end Go.Proofs.Qxb6500417aGreat
