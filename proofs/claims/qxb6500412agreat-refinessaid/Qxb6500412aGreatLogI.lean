/-
  OWN WORK. THE LOG: install, Open.
-/
import Derived.Test.Qxb6500412aGreatLogH
namespace Go.Proofs.Qxb6500412aGreat
open Go.RowKit
set_option linter.unusedSimpArgs false
set_option linter.unusedVariables false

def homeRecs (blk : List ByteArray) (h : ByteArray) (n : Nat) : List (Nat × ByteArray) := (List.range n).map fun i => (73 + byteAt h (1 + i), blk.getD (1 + i) emptyB)
def installRecs (blk : List ByteArray) (h : ByteArray) : List (Nat × ByteArray) := homeRecs blk h (logged h) ++ [(0, zeroB)]
@[simp] theorem homeRecs_length (blk : List ByteArray) (h : ByteArray) (n : Nat) : (homeRecs blk h n).length = n := by simp [homeRecs]
theorem homeRecs_succ (blk : List ByteArray) (h : ByteArray) (n : Nat) : homeRecs blk h (n + 1) = homeRecs blk h n ++ [(73 + byteAt h (1 + n), blk.getD (1 + n) emptyB)] := by
  simp [homeRecs, List.range_succ]

theorem replay_off (l : List ByteArray) (rs : List (Nat × ByteArray)) (j : Nat) (h : ∀ r ∈ rs, r.1 ≠ j) : (replay l rs).getD j emptyB = l.getD j emptyB := by
  unfold replay
  induction rs generalizing l with
  | nil => rfl
  | cons r rs ih =>
    simp only [List.foldl_cons]
    rw [ih _ (fun r' hr' => h r' (List.mem_cons_of_mem _ hr'))]
    have := h r List.mem_cons_self
    simp [List.getD_eq_getElem?_getD, List.getElem?_set, this]

theorem replay_sizes (l : List ByteArray) (rs : List (Nat × ByteArray)) (hl : ∀ x ∈ l, x.size = 128) (hr : ∀ r ∈ rs, r.2.size = 128) : ∀ x ∈ replay l rs, x.size = 128 := by
  unfold replay
  induction rs generalizing l with
  | nil => exact hl
  | cons r rs ih =>
    simp only [List.foldl_cons]
    refine ih _ (fun x hx => ?_) (fun r' hr' => hr r' (List.mem_cons_of_mem _ hr'))
    rcases List.mem_or_eq_of_mem_set hx with h | h
    · exact hl x h
    · rw [h]; exact hr r List.mem_cons_self

theorem getD_size {l : List ByteArray} (hl : ∀ x ∈ l, x.size = 128) {j : Nat} (h : j < l.length) : (l.getD j emptyB).size = 128 := by
  rw [List.getD_eq_getElem?_getD, List.getElem?_eq_getElem h]
  exact hl _ (List.getElem_mem h)

theorem homeRecs_off (blk : List ByteArray) (h : ByteArray) (n j : Nat) (hj : j < 73) : ∀ r ∈ homeRecs blk h n, r.1 ≠ j := by
  intro r hr
  simp [homeRecs] at hr
  obtain ⟨i, _, rfl⟩ := hr
  simp; omega
theorem homeRecs_size (blk : List ByteArray) (h : ByteArray) (n : Nat) (hn : n ≤ 72) (hl : blk.length = 153) (hs : ∀ x ∈ blk, x.size = 128) : ∀ r ∈ homeRecs blk h n, r.2.size = 128 := by
  intro r hr
  simp only [homeRecs, List.mem_map, List.mem_range] at hr
  obtain ⟨i, hi, rfl⟩ := hr
  exact getD_size hs (by omega)

set_option maxRecDepth 100000 in
set_option maxHeartbeats 1000000 in
theorem install_any (d : Nat) (blk base : List ByteArray) (recs : List (Nat × ByteArray)) (F : Nat → Prop) (h : ByteArray) (w : World) (hd : DiskAt w d blk base recs F) (hs : ∀ x ∈ blk, x.size = 128) (hh : h.size = 128) (hr : recs.length ≤ 500) :
    Calls Tryz.prog 86 #[.pointer (some ⟨d, 0, none⟩), .string h] w fun e w' => e = .returned (.int .i64 0) ∧
      DiskAt w' d (replay blk (installRecs blk h)) base (recs ++ installRecs blk h) (Ext F w w') ∧ Only F w w' := by
  have hlen := hd.len
  have hFi := hd.inn
  have hlg := logged_le h
  have hnum := fun i hi => (logged_in h i hi).2
  generalize hg : logged h = n at *
  have Hg := hide hg
  have Hn := hide hnum
  clear hg hnum
  go_enter Tryz.func86, Tryz.ntmps86
  go_wp2_with fail
  refine (logged_any h _ hh).mono ?_
  rw [unhide Hg]
  rintro e w' ⟨rfl, rfl⟩
  go_wp2_with fail
  go_loopw [6] (fun i wr => ∃ k : Nat, k ≤ n ∧ i = .int .i64 k ∧ DiskAt wr d (replay blk (homeRecs blk h k)) base (recs ++ homeRecs blk h k) (Ext F w wr) ∧ Only F w wr) (fun i _ => n - (intOf i).toNat)
  case atStart => exact ⟨0, Nat.zero_le _, rfl, by simpa [homeRecs, replay] using hd.mono (fun k hk => .inl hk) (Ext.in hFi (Nat.le_refl _)), Only.refl F w⟩
  case round =>
    obtain ⟨k, hk, rfl, hdk, ho⟩ := hrel
    by_cases hkn : k < n
    · have hb := unhide Hn k hkn
      have e0 : (replay blk (homeRecs blk h k)).getD (1 + k) emptyB = blk.getD (1 + k) emptyB := replay_off _ _ _ (homeRecs_off blk h k (1 + k) (by omega))
      have hsz : (blk.getD (1 + k) emptyB).size = 128 := getD_size hs (by omega)
      have c1 := dread_any d _ base _ _ (1 + k) wr hdk (by omega)
      rw [e0] at c1
      have e1 : ((1 + k : Nat) : Int) = 1 + (k : Int) := by omega
      rw [e1] at c1
      have c2 := dwrite_any d _ base _ _ (73 + byteAt h (1 + k)) (blk.getD (1 + k) emptyB) wr hdk (by omega) (by rw [hsz]; decide) (by simp; omega)
      have e2 : ((73 + byteAt h (1 + k) : Nat) : Int) = 73 + (byteAt h (1 + k) : Int) := by omega
      rw [e2, blockOf_id _ hsz] at c2
      have C1 := hide c1
      have C2 := hide c2
      clear c1 c2 e1 e2 e0
      have hkI : (k : Int) < (n : Int) := by omega
      go_wp2_with fail
      refine (slotAt_any _ _ (by omega) (by omega)).mono ?_
      rintro e w' ⟨rfl, rfl⟩
      go_wp2_with fail
      refine (unhide C1).mono ?_
      rintro e w' ⟨rfl, rfl⟩
      go_wp2_with fail
      refine (numberAt_any h _ _ (by omega) (by omega) hh).mono ?_
      rintro e w' ⟨rfl, rfl⟩
      rw [Int.toNat_natCast]
      go_wp2_with fail
      refine (homeAt_any _ _ (by omega) (by omega)).mono ?_
      rintro e w' ⟨rfl, rfl⟩
      go_wp2_with fail
      refine (unhide C2).mono ?_
      rintro e w2 ⟨rfl, hd2, ho2⟩
      go_wp2_with fail
      go_roundw
      case rel =>
        refine ⟨k + 1, by omega, by go_num, ?_, ho.step ho2⟩
        rw [homeRecs_succ, replay_snoc, ← List.append_assoc]
        exact hd2.mono (Ext.trans ho.size ho2.size) (Ext.in hFi (Nat.le_trans ho.size ho2.size))
      case measure => simp [intOf]; omega
    · obtain rfl : k = n := by omega
      have c2 := dwrite_any d _ base _ _ 0 zeroB wr hdk (by omega) (by rw [zeroB_size]; decide) (by simp; omega)
      rw [blockOf_id _ zeroB_size] at c2
      have C2 := hide c2
      clear c2
      go_wp2_with fail
      simp only [zero_lit]
      refine (unhide C2).mono ?_
      rintro e w2 ⟨rfl, hd2, ho2⟩
      go_wp2_with fail
      go_ret
      refine ⟨rfl, ?_, ho.step ho2⟩
      unfold installRecs
      rw [unhide Hg, replay_snoc, ← List.append_assoc]
      exact hd2.mono (Ext.trans ho.size ho2.size) (Ext.in hFi (Nat.le_trans ho.size ho2.size))

/-- The writes that a recovery makes. -/
def recRecs (blk : List ByteArray) : List (Nat × ByteArray) := if byteAt (blk.getD 0 emptyB) 0 = 0 then [] else installRecs blk (blk.getD 0 emptyB)

theorem installRecs_length (blk : List ByteArray) (h : ByteArray) : (installRecs blk h).length ≤ 73 := by
  have := logged_le h
  simp [installRecs]; omega
theorem recRecs_length (blk : List ByteArray) : (recRecs blk).length ≤ 73 := by
  unfold recRecs; split
  · simp
  · exact installRecs_length _ _
theorem installRecs_in (blk : List ByteArray) (h : ByteArray) : ∀ r ∈ installRecs blk h, r.1 < 153 := by
  intro r hr
  unfold installRecs at hr
  rcases List.mem_append.1 hr with hr | hr
  · simp only [homeRecs, List.mem_map, List.mem_range] at hr
    obtain ⟨i, hi, rfl⟩ := hr
    have := (logged_in h i hi).2
    show 73 + byteAt h (1 + i) < 153
    omega
  · simp at hr; subst hr; simp
theorem recRecs_in (blk : List ByteArray) : ∀ r ∈ recRecs blk, r.1 < 153 := by
  unfold recRecs; split
  · simp
  · exact installRecs_in _ _
theorem installRecs_size (blk : List ByteArray) (h : ByteArray) (hl : blk.length = 153) (hs : ∀ x ∈ blk, x.size = 128) : ∀ r ∈ installRecs blk h, r.2.size = 128 := by
  intro r hr
  unfold installRecs at hr
  rcases List.mem_append.1 hr with hr | hr
  · exact homeRecs_size blk h _ (logged_le h) hl hs r hr
  · simp at hr; subst hr; exact zeroB_size
theorem recRecs_size (blk : List ByteArray) (hl : blk.length = 153) (hs : ∀ x ∈ blk, x.size = 128) : ∀ r ∈ recRecs blk, r.2.size = 128 := by
  unfold recRecs; split
  · simp
  · exact installRecs_size _ _ hl hs

theorem byte0_ne (h : ByteArray) (h0 : 0 < h.size) : (((h[0]).toNat : Int) == 0) = (byteAt h 0 == 0) := by
  rw [byteAt_get h 0 h0]
  rw [Bool.eq_iff_iff]; simp

set_option maxRecDepth 100000 in
set_option maxHeartbeats 1000000 in
theorem wopen_any (d : Nat) (blk base : List ByteArray) (recs : List (Nat × ByteArray)) (F : Nat → Prop) (w : World) (hd : DiskAt w d blk base recs F) (hs : ∀ x ∈ blk, x.size = 128) (hr : recs.length ≤ 500) :
    Calls Tryz.prog 41 #[.pointer (some ⟨d, 0, none⟩)] w fun e w' => ∃ l F' G', e = .returned (.pointer (some ⟨l, 0, none⟩)) ∧
      DiskAt w' d (replay blk (recRecs blk)) base (recs ++ recRecs blk) F' ∧ LogAt w' l d false [] G' ∧ Only F w w' ∧ (∀ k, F' k → Ext F w w' k) ∧ (∀ k, G' k → w.heap.size ≤ k) ∧ ∀ k, F' k → ¬ G' k := by
  have hlen := hd.len
  have hFi := hd.inn
  have hsz : (blk.getD 0 emptyB).size = 128 := getD_size hs (by omega)
  have c1 := dread_any d blk base recs F 0 w hd (by omega)
  have h0 : 0 < (blk.getD 0 emptyB).size := by omega
  have hb0 := byte0_ne _ h0
  by_cases hz : byteAt (blk.getD 0 emptyB) 0 = 0
  · have hre : recRecs blk = [] := by unfold recRecs; rw [if_pos hz]
    rw [hre]
    have hz' : (byteAt (blk.getD 0 emptyB) 0 == 0) = true := by simpa using hz
    rw [hz'] at hb0
    generalize blk.getD 0 emptyB = h at *
    have C1 := hide c1
    have hb1 : ((h[0].toNat : Int) != 0) = false := by simpa using hb0
    clear c1 hz hz' hre
    go_enter Tryz.func41, Tryz.ntmps41
    go_wp2_with fail
    refine (unhide C1).mono ?_
    rintro e w' ⟨rfl, rfl⟩
    go_wp2_with fail
    refine (wover_any d _).mono ?_
    rintro e w1 ⟨rfl, hl1, ho1⟩
    go_wp2_with fail
    go_ret
    refine ⟨w.heap.size, F, _, rfl, by simpa [replay] using hd.keep ho1 (fun _ _ h => h), hl1, ho1.mono (fun _ _ h => h.elim), fun k hk => .inl hk, Ext.le (fun _ h => h.elim) (Nat.le_refl _), Ext.off' (fun _ _ h => h) hFi⟩
  · have hre : recRecs blk = installRecs blk (blk.getD 0 emptyB) := by unfold recRecs; rw [if_neg hz]
    rw [hre]
    have hz' : (byteAt (blk.getD 0 emptyB) 0 == 0) = false := by simpa using hz
    rw [hz'] at hb0
    have c2 := install_any d blk base recs F (blk.getD 0 emptyB) w hd hs hsz hr
    generalize blk.getD 0 emptyB = h at *
    have C1 := hide c1
    have C2 := hide c2
    have hb1 : ((h[0].toNat : Int) != 0) = true := by simp only [bne, hb0]; rfl
    clear c1 hz hz' hre c2
    go_enter Tryz.func41, Tryz.ntmps41
    go_wp2_with fail
    refine (unhide C1).mono ?_
    rintro e w' ⟨rfl, rfl⟩
    go_wp2_with fail
    refine (unhide C2).mono ?_
    rintro e w1 ⟨rfl, hd1, ho1⟩
    go_wp2_with fail
    refine (wover_any d _).mono ?_
    rintro e w2 ⟨rfl, hl2, ho2⟩
    go_wp2_with fail
    go_ret
    refine ⟨w1.heap.size, Ext F w w1, _, rfl, hd1.keep ho2 (fun _ _ h => h), hl2, ho1.trans ho2 (fun _ _ h => h.elim), ?_, ?_, Ext.off' (fun _ _ h => h) hd1.inn⟩
    · intro k hk; rcases hk with hk | hk
      · exact .inl hk
      · exact .inr ⟨hk.1, Nat.lt_of_lt_of_le hk.2 ho2.size⟩
    · exact Ext.le (fun _ h => h.elim) ho1.size

end Go.Proofs.Qxb6500412aGreat
