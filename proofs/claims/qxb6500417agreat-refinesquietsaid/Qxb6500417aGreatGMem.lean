/-
  OWN WORK. THE GRAPH: members.
-/
import Derived.Test.Qxb6500417aGreatGMrk
namespace Go.Proofs.Qxb6500417aGreat
open Go.RowKit Go.PlainAid
set_option linter.unusedSimpArgs false
set_option linter.unusedVariables false

theorem memL_mem (s : Nat → Bool) (j : Nat) : ∀ k, (j : Int) ∈ memL s k ↔ (j < k ∧ j ≠ 0 ∧ s j = true)
  | 0 => by simp [memL]
  | k + 1 => by
    unfold memL
    rw [List.mem_append, memL_mem s j k]
    by_cases h : k ≠ 0 ∧ s k = true
    · rw [if_pos h]
      simp only [List.mem_singleton]
      constructor
      · rintro (⟨a, b, c⟩ | e)
        · exact ⟨by omega, b, c⟩
        · have : j = k := by omega
          subst this; exact ⟨by omega, h.1, h.2⟩
      · rintro ⟨a, b, c⟩
        by_cases e : j = k
        · exact .inr (by omega)
        · exact .inl ⟨by omega, b, c⟩
    · rw [if_neg h]
      constructor
      · rintro (⟨a, b, c⟩ | e)
        · exact ⟨by omega, b, c⟩
        · simp at e
      · rintro ⟨a, b, c⟩
        by_cases e : j = k
        · subst e; exact absurd ⟨b, c⟩ h
        · exact .inl ⟨by omega, b, c⟩
theorem memL_bd (s : Nat → Bool) : ∀ k, ∀ x ∈ memL s k, 0 ≤ x ∧ x < k
  | 0, x, h => by simp [memL] at h
  | k + 1, x, h => by
    unfold memL at h
    rcases List.mem_append.1 h with h | h
    · have := memL_bd s k x h; omega
    · by_cases e : k ≠ 0 ∧ s k = true
      · rw [if_pos e] at h; simp at h; omega
      · rw [if_neg e] at h; simp at h
def orL (x : Nat) (l : List Int) : Nat := l.foldl (fun x i => x ||| 2 ^ i.toNat) x
theorem orL_bit (j : Nat) : ∀ (l : List Int) (x : Nat), (∀ i ∈ l, 0 ≤ i) → (orL x l).testBit j = (x.testBit j || l.contains (j : Int))
  | [], x, _ => by simp [orL]
  | i :: l, x, h => by
    have h0 := h i (by simp)
    show (orL (x ||| 2 ^ i.toNat) l).testBit j = _
    rw [orL_bit j l _ (fun y hy => h y (by simp [hy])), Nat.testBit_or, Nat.testBit_two_pow, List.contains_cons, Bool.or_assoc]
    congr 2
    rw [Bool.eq_iff_iff]
    simp only [decide_eq_true_eq, beq_iff_eq]
    omega
theorem orL_lt : ∀ (l : List Int) (x : Nat), (∀ i ∈ l, i < 64) → x < 18446744073709551616 → orL x l < 18446744073709551616
  | [], x, _, h => h
  | i :: l, x, h, hx => orL_lt l _ (fun y hy => h y (by simp [hy])) (or_lt64 hx (pow64 _ (by have := h i (by simp); omega)))
theorem orL_take {l : List Int} {k : Nat} (hk : k < l.length) (x : Nat) : orL x (l.take (k + 1)) = orL x (l.take k) ||| 2 ^ (l[k]).toNat := by
  have e : l.take (k + 1) = l.take k ++ [l[k]] := by
    rw [List.take_add_one, List.getElem?_eq_getElem hk]; rfl
  rw [e]
  unfold orL
  rw [List.foldl_append]
  rfl
section
variable {J : Nat → Sl}
theorem desc_mark (hI : Inv J) {i : Nat} (hi : IsT J i) (j : Nat) : markP 6 J i (fun _ => false) j = true ↔ Desc J i j := by
  have hP := markP_ok hI 6 (fun _ => False) i (fun _ => false) hi (hI.tr i hi.1 (liveS_ne hi.2.1) hi.2.2).fine.deep (.inr (by omega)) (fun t ht => by simp at ht)
  constructor
  · intro h
    rcases hP.sd j h with e | e
    · simp at e
    · exact e
  · intro h
    induction h with
    | self => exact hP.me
    | step _ hr ih => exact hP.cl _ ih (fun h => h) _ hr
theorem Desc.live (hI : Inv J) {i j : Nat} (hi : In i ∧ liveS (J i) = true) (h : Desc J i j) : In j ∧ liveS (J j) = true := by
  induction h with
  | self => exact hi
  | step _ hr ih => exact hI.lv _ ih.1 ih.2 _ hr
theorem mbL_mem (hI : Inv J) {i : Nat} (hi : IsT J i) (j : Nat) : (j : Int) ∈ mbL J (i : Int) ↔ Desc J i j := by
  have he : trE J (i : Int) = 0 := by
    unfold trE
    rw [liveJ_nat hi.1, hi.2.1]
    simp [hi.2.2]
  unfold mbL
  rw [if_pos he, memL_mem]
  have e : (i : Int).toNat = i := by omega
  rw [e, desc_mark hI hi]
  constructor
  · rintro ⟨_, _, h⟩; exact h
  · intro h
    have := (h.live hI ⟨hi.1, hi.2.1⟩).1
    exact ⟨by have := this.2; omega, by have := this.1; omega, h⟩
theorem mbL_bd (J : Nat → Sl) (id : Int) : ∀ x ∈ mbL J id, 0 ≤ x ∧ x < 49 := fun x hx => by
  unfold mbL at hx
  split at hx
  · exact memL_bd _ _ x hx
  · simp at hx
theorem mbL_len49 (J : Nat → Sl) (id : Int) : (mbL J id).length ≤ 49 := by
  unfold mbL
  split
  · exact memL_len _ _
  · simp
/-- A set of ids. -/
def MkS (y x : Nat) (P : Nat → Prop) : Prop := ∀ j, y.testBit j = true ↔ x.testBit j = true ∨ P j
end
section
variable {w : World} {g t s d rt : Nat} {D B : Nat → Nat} {recs : List Rec} {J : Nat → Sl} {F : Nat → Prop} {T : Gt}
set_option maxRecDepth 100000 in
set_option maxHeartbeats 4000000 in
theorem gmem_any (h : TS w t s d D B recs J rt F) (hg : GH w g t T) (x : Nat) (hx : x < 18446744073709551616) (i : Nat) (hi : IsT J i) :
    Calls Tryz.prog 157 #[.pointer (some ⟨g, 0, none⟩), .int .u64 x, .int .i64 i] w fun e w' => ∃ y : Nat, e = .returned (.int .u64 (y : Nat)) ∧ y < 18446744073709551616 ∧ MkS y x (Desc J i) ∧ Only (fun _ => False) w w' := by
  have C1 := hide (tmembers_any h (i : Int))
  have hgl := hg.lt
  have ct := hg.tr.1
  have hm := fun j => mbL_mem h.inv hi j
  have hb := mbL_bd J (i : Int)
  have hl := mbL_len49 J (i : Int)
  have Hm := hide hm
  clear hm h hg hi
  generalize mbL J (i : Int) = l at *
  have Hb := hide hb
  go_enter Tryz.func157, Tryz.ntmps157
  go_wp2_with fail
  refine (unhide C1).mono ?_
  rintro e w1 ⟨v, rfl, hII⟩
  have HII := hide hII
  obtain ⟨a, cap, rfl, hcell⟩ := OwnI.in_ hII.own
  have Hc := hide hcell
  clear C1 hcell hII
  go_wp2_with fail
  go_loopw [1, 9] (fun xv kv wr => ∃ k : Nat, kv = .int .i64 k ∧ k ≤ l.length ∧ xv = .int .u64 (orL x (l.take k) : Nat) ∧ w1 = wr) (fun _ kv _ => l.length - (intOf kv).toNat)
  case atStart => exact ⟨0, rfl, by omega, rfl, rfl⟩
  case round =>
    obtain ⟨k, rfl, hk, rfl, rfl⟩ := hrel
    by_cases hkl : k < l.length
    · obtain ⟨b, rfl, hc⟩ := unhide Hc (by omega)
      have hck := hc k hkl
      have b1 : decide ((k : Int) < (l.length : Int)) = true := decide_eq_true (by omega)
      have b1n : decide (k < l.length) = true := decide_eq_true hkl
      have b2 : (k : Int) < (l.length : Int) := by omega
      have hbd := unhide Hb _ (List.getElem_mem hkl)
      have hnx := orL_take hkl x
      have hlt := orL_lt (l.take k) x (fun y hy => by have := unhide Hb y (List.mem_of_mem_take hy); omega) hx
      obtain ⟨n, hn⟩ : ∃ n : Nat, (l[k]) = (n : Int) := ⟨l[k].toNat, by omega⟩
      rw [hn] at hck hbd
      have en : l[k].toNat = n := by omega
      rw [en] at hnx
      obtain ⟨b', hb'⟩ : ∃ b', (2 : Nat) ^ n = b' := ⟨_, rfl⟩
      have C2 := hide (gbit_any n (by omega) b' hb'.symm w1)
      have hbl : b' < 18446744073709551616 := by rw [← hb']; exact pow64 _ (by omega)
      rw [hb'] at hnx
      have e3 := bits_or_u64_nat _ b' hlt hbl
      have Hnx := hide hnx
      clear hc hnx hn en hb' hbd hb
      generalize orL x (l.take k) = u at *
      obtain ⟨v, hv⟩ : ∃ v, u ||| b' = v := ⟨_, rfl⟩
      rw [hv] at e3 Hnx
      clear hv
      go_wp2_with fail
      refine (unhide C2).mono ?_
      rintro e w2 ⟨rfl, rfl⟩
      clear C2
      go_wp2_with fail
      go_roundw
      case rel => exact ⟨k + 1, by go_num, by omega, by rw [unhide Hnx], by first | trivial | rfl⟩
      case measure => simp [intOf]; omega
    · have b1 : decide ((k : Int) < (l.length : Int)) = false := decide_eq_false (by omega)
      have b1n : decide (k < l.length) = false := decide_eq_false hkl
      have e4 : l.take k = l := List.take_of_length_le (by omega)
      rw [e4]
      have hlt := orL_lt l x (fun y hy => by have := unhide Hb y hy; omega) hx
      have RR : MkS (orL x l) x (Desc J i) := fun j => by
        rw [orL_bit j l x (fun y hy => (unhide Hb y hy).1), Bool.or_eq_true, List.contains_iff_mem, unhide Hm j]
      have RR := hide RR
      clear e4
      generalize orL x l = u at *
      clear hb
      go_wp2_with fail
      go_ret
      exact ⟨u, rfl, hlt, unhide RR, (unhide HII).ho⟩
end
end Go.Proofs.Qxb6500417aGreat
