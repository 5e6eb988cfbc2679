/-
  OWN WORK. THE DISK, MORE: a cut image, a fresh disk.
-/
import Derived.Test.Qxb6500412aGreatDisk
namespace Go.Proofs.Qxb6500412aGreat
open Go.RowKit
set_option linter.unusedSimpArgs false
set_option linter.unusedVariables false

theorem dat_end {w wr : World} {base : List ByteArray} {rs : List (Nat × ByteArray)} (hz : wr.heap.size = w.heap.size + 2)
    (g0 : Has wr w.heap.size #[.slice (some ⟨w.heap.size + 1, 0, none⟩) 153 153, .slice none 0 0, .slice none 0 0] 125) (g1 : Has wr (w.heap.size + 1) (strs (replay base rs)) 137) (l2 : base.length = 153) :
    DiskAt ((wr.setCell ⟨w.heap.size, 1, none⟩ (.slice (some ⟨wr.heap.size, 0, none⟩) 153 153)).alloc (.cells (strs (replay base rs)) 137)) w.heap.size (replay base rs) (replay base rs) []
      (Ext (fun _ => False) w ((wr.setCell ⟨w.heap.size, 1, none⟩ (.slice (some ⟨wr.heap.size, 0, none⟩) 153 153)).alloc (.cells (strs (replay base rs)) 137))) := by
  refine ⟨⟨w.heap.size + 1, wr.heap.size, .slice none 0 0, ?_, ?_, ?_, World.ownsRow_nil _ _ _ _, by omega, .inr (by first | (simp; done) | (simp; omega)), .inr (by first | (simp; done) | (simp; omega)), .inr (by first | (simp; done) | (simp; omega)), ?_⟩, by simp [l2], by simp [l2], ?_⟩
  · have := (g0.setCell 1 (.slice (some ⟨wr.heap.size, 0, none⟩) 153 153)).alloc (.cells (strs (replay base rs)) 137)
    simpa using this
  · exact (g1.setCell_other (by simp) _).alloc _
  · have := Has.new (wr.setCell ⟨w.heap.size, 1, none⟩ (.slice (some ⟨wr.heap.size, 0, none⟩) 153 153)) (strs (replay base rs)) 137
    simpa using this
  · intro k hk; simp [Value.ownBlock] at hk
  · exact Ext.in (fun _ h => h.elim) (by simp; omega)

set_option maxRecDepth 100000 in
set_option maxHeartbeats 1000000 in
theorem dat_any (d : Nat) (blk base : List ByteArray) (recs : List (Nat × ByteArray)) (F : Nat → Prop) (kk : Int) (w : World) (hd : DiskAt w d blk base recs F) (hr : ∀ r ∈ recs, r.1 < 153) (hl : recs.length ≤ 1000) :
    Calls Tryz.prog 83 #[.pointer (some ⟨d, 0, none⟩), .int .i64 kk] w fun e w' => e = .returned (.pointer (some ⟨w.heap.size, 0, none⟩)) ∧
      DiskAt w' w.heap.size (replay base (recs.take kk.toNat)) (replay base (recs.take kk.toNat)) [] (Ext (fun _ => False) w w') ∧ Only (fun _ => False) w w' := by
  obtain ⟨⟨bb, nb, rv, h1, h2, h3, h4, h5, f1, f2, f3, f4⟩, l1, l2, hi⟩ := hd
  have c1 := h1.cell 1
  have hdd := h1.lt
  have hnn := h3.lt
  obtain ⟨a, cap, hv⟩ := ownsRow_shape h4
  go_enter Tryz.func83, Tryz.ntmps83
  go_wp2_with fail
  refine (copyBlocks_n nb 153 base _ (h3.alloc _) l2 (by omega)).mono ?_
  rintro e w' ⟨rfl, rfl⟩
  go_wp2_with fail
  have k0 : Has ((w.alloc (.cells #[.slice (some ⟨w.heap.size + 1, 0, none⟩) 153 153, .slice none 0 0, .slice none 0 0] 125)).alloc (.cells (strs base) 137)) w.heap.size #[.slice (some ⟨w.heap.size + 1, 0, none⟩) 153 153, .slice none 0 0, .slice none 0 0] 125 := (Has.new _ _ _).alloc _
  have k1 : Has ((w.alloc (.cells #[.slice (some ⟨w.heap.size + 1, 0, none⟩) 153 153, .slice none 0 0, .slice none 0 0] 125)).alloc (.cells (strs base) 137)) (w.heap.size + 1) (strs base) 137 := by simpa using Has.new (w.alloc (.cells #[.slice (some ⟨w.heap.size + 1, 0, none⟩) 153 153, .slice none 0 0, .slice none 0 0] 125)) (strs base) 137
  go_loopw [6] (fun i wr => ∃ k : Nat, k ≤ recs.length ∧ (k : Int) ≤ max 0 kk ∧ i = .int .i64 k ∧ Has wr w.heap.size #[.slice (some ⟨w.heap.size + 1, 0, none⟩) 153 153, .slice none 0 0, .slice none 0 0] 125 ∧
      Has wr (w.heap.size + 1) (strs (replay base (recs.take k))) 137 ∧ Only (fun _ => False) w wr ∧ wr.heap.size = w.heap.size + 2) (fun i _ => recs.length - (intOf i).toNat)
  case atStart => exact ⟨0, Nat.zero_le _, by omega, rfl, k0, k1, ((Only.refl _ w).alloc _).alloc _, by simp⟩
  case round =>
    clear k0 k1
    obtain ⟨k, hk, hkk, rfl, g0, g1, ho, hz⟩ := hrel
    have e1 := h1.keep ho (fun h => h)
    have q2 := e1.cell 2
    rw [hv] at q2
    simp at q2
    have p0 := g0.cell 0
    simp at p0
    by_cases hkn : k < recs.length
    · by_cases hk2 : (k : Int) < kk
      · obtain ⟨g, cur, ha, hg, hcs, htk⟩ : ∃ g cur, a = some ⟨g, 0, none⟩ ∧ Has w g cur 206 ∧ cur.size = cap * 2 ∧ cur.toList.take (recs.length * 2) = recCells recs := by
          rcases h4.2 with ⟨hv', hn⟩ | ⟨g, cap', cur, hv', _, hg, _, _, hcs, htk⟩
          · omega
          · rw [hv] at hv'; simp at hv'; exact ⟨g, cur, hv'.1, hg, by rw [hcs, hv'.2], htk⟩
        subst ha
        have hg' := hg.keep ho (fun h => h)
        have b0 : wr.cell? ⟨g, k * 2, none⟩ = some (.int .i64 (recs[k].1 : Int)) := by
          rw [hg'.cell]
          have := recCells_get0 recs k hkn
          rw [← htk, List.getElem?_take, if_pos (by omega)] at this
          rw [Nat.mul_comm]; simpa using this
        have b1 : wr.cell? ⟨g, k * 2 + 1, none⟩ = some (.string recs[k].2) := by
          rw [hg'.cell]
          have := recCells_get1 recs k hkn
          rw [← htk, List.getElem?_take, if_pos (by omega)] at this
          rw [Nat.mul_comm]; simpa using this
        have hb : recs[k].1 < 153 := hr _ (List.getElem_mem hkn)
        have lb : recs[k].1 < (replay base (recs.take k)).length := by simpa [l2] using hb
        have b2 := g1.cell recs[k].1
        rw [strs_get _ _ lb] at b2
        have b3 := g1.free recs[k].1
        have hkI : (k : Int) < (recs.length : Int) := by omega
        generalize hrk : recs[k].1 = rb at *
        generalize hrx : recs[k].2 = rx at *
        have Hrk := hide hrk
        have Hrx := hide hrx
        clear hrk hrx
        go_wp2_with fail
        go_region
        go_wp2
        go_roundw
        case rel =>
          refine ⟨k + 1, by omega, by omega, by go_num, ?_, ?_, ?_, ?_⟩
          · exact (g0.setCell_other (p := ⟨w.heap.size + 1, rb, none⟩) (by simp) _)
          · have := g1.setCell rb (.string rx)
            rw [strs_set] at this
            rw [replay_take _ _ _ hkn, unhide Hrk, unhide Hrx]
            exact this
          · exact (ho.setCell (p := ⟨w.heap.size + 1, rb, none⟩) (fun h => absurd h (by show ¬ (w.heap.size + 1 < w.heap.size); omega)) _).drew
          · simpa using hz
        case measure => simp [intOf]; omega
      · have hd2 : decide ((k : Int) < kk) = false := by simpa using hk2
        have hfin : recs.take k = recs.take kk.toNat := by congr 1; omega
        rw [hfin] at g1
        have g4 := g0.free 1
        have g5 := g0.cell 1
        have g6 := g1.lt
        clear hfin
        go_wp2_with fail
        refine (copyBlocks_n (w.heap.size + 1) 153 _ _ g1 (by simp [l2]) (by omega)).mono ?_
        rintro e w' ⟨rfl, rfl⟩
        go_wp2
        go_ret
        refine ⟨rfl, ?_, ?_⟩
        · have := dat_end hz g0 g1 l2; rw [hz] at this; exact this
        · exact (ho.setCell (fun h => absurd h (by show ¬ (w.heap.size < w.heap.size); omega)) _).alloc _
    · have hkI : ¬ (k : Int) < (recs.length : Int) := by omega
      have hd2 : decide ((k : Int) < (recs.length : Int)) = false := by simpa using hkI
      have hfin : recs.take k = recs.take kk.toNat := by rw [List.take_of_length_le (by omega), List.take_of_length_le (by omega)]
      rw [hfin] at g1
      have g4 := g0.free 1
      have g5 := g0.cell 1
      have g6 := g1.lt
      clear hfin
      go_wp2_with fail
      refine (copyBlocks_n (w.heap.size + 1) 153 _ _ g1 (by simp [l2]) (by omega)).mono ?_
      rintro e w' ⟨rfl, rfl⟩
      go_wp2
      go_ret
      refine ⟨rfl, ?_, ?_⟩
      · have := dat_end hz g0 g1 l2; rw [hz] at this; exact this
      · exact (ho.setCell (fun h => absurd h (by show ¬ (w.heap.size < w.heap.size); omega)) _).alloc _

theorem dafter_any (d : Nat) (blk base : List ByteArray) (recs : List (Nat × ByteArray)) (F : Nat → Prop) (kk : Int) (w : World) (hd : DiskAt w d blk base recs F) (hr : ∀ r ∈ recs, r.1 < 153) (hl : recs.length ≤ 1000) :
    Calls Tryz.prog 39 #[.pointer (some ⟨d, 0, none⟩), .int .i64 kk] w fun e w' => e = .returned (.pointer (some ⟨w.heap.size, 0, none⟩)) ∧
      DiskAt w' w.heap.size (replay base (recs.take kk.toNat)) (replay base (recs.take kk.toNat)) [] (Ext (fun _ => False) w w') ∧ Only (fun _ => False) w w' := by
  go_enter Tryz.func39, Tryz.ntmps39
  go_wp2_with fail
  refine (dat_any d blk base recs F kk _ hd hr hl).mono ?_
  rintro e w' ⟨rfl, h⟩
  go_wp2
  go_ret
  exact ⟨rfl, h⟩

set_option maxRecDepth 100000 in
theorem dnew_any (w : World) :
    Calls Tryz.prog 29 #[] w fun e w' => e = .returned (.pointer (some ⟨w.heap.size, 0, none⟩)) ∧
      DiskAt w' w.heap.size (zeros 153) (zeros 153) [] (Ext (fun _ => False) w w') ∧ Only (fun _ => False) w w' := by
  go_enter Tryz.func29, Tryz.ntmps29
  go_wp2_with fail
  refine (blocks_any 153 _ (by omega)).mono ?_
  rintro e w' ⟨rfl, rfl⟩
  go_wp2_with fail
  refine (blocks_any 153 _ (by omega)).mono ?_
  rintro e w' ⟨rfl, rfl⟩
  go_wp2
  go_ret
  refine ⟨rfl, ⟨⟨w.heap.size + 1, w.heap.size + 1 + 1, .slice none 0 0, ((Has.new _ _ _).alloc _).alloc _, ?_, ?_, World.ownsRow_nil _ _ _ _, by omega, .inr (by first | (simp; done) | (simp; omega)), .inr (by first | (simp; done) | (simp; omega)), .inr (by first | (simp; done) | (simp; omega)), ?_⟩, by simp, by simp, ?_⟩, ?_⟩
  · have := (Has.new (w.alloc (.cells #[.slice (some ⟨w.heap.size + 1, 0, none⟩) 153 153, .slice (some ⟨w.heap.size + 1 + 1, 0, none⟩) 153 153, .slice none 0 0] 125)) (strs (zeros 153)) 137).alloc (.cells (strs (zeros 153)) 137)
    simpa using this
  · have := (Has.new ((w.alloc (.cells #[.slice (some ⟨w.heap.size + 1, 0, none⟩) 153 153, .slice (some ⟨w.heap.size + 1 + 1, 0, none⟩) 153 153, .slice none 0 0] 125)).alloc (.cells (strs (zeros 153)) 137)) (strs (zeros 153)) 137)
    simpa using this
  · intro k hk; simp [Value.ownBlock] at hk
  · exact Ext.in (fun _ h => h.elim) (by simp; omega)
  · exact (((Only.refl _ w).alloc _).alloc _).alloc _
end Go.Proofs.Qxb6500412aGreat
