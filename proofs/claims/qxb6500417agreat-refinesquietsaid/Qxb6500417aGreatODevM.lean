/-
  OWN WORK. THE DEVICE: New, Mark.
-/
import Derived.Test.Qxb6500417aGreatODev
namespace Go.Proofs.Qxb6500417aGreat
open Go.RowKit
set_option linter.unusedSimpArgs false
set_option linter.unusedVariables false

section
variable {w : World} {d : Nat} {D B : Nat → Nat} {recs : List Rec} {F : Nat → Prop}

set_option maxRecDepth 100000 in
theorem dvnew_any (w : World) :
    Calls Tryz.prog 31 #[] w fun e w' => e = .returned (.pointer (some ⟨w.heap.size, 0, none⟩)) ∧ DevAt w' w.heap.size (fun _ => 0) (fun _ => 0) [] (Ext (fun _ => False) w w') ∧ Only (fun _ => False) w w' := by
  have hm : ∀ w, (Instr.makeSlice 90 (.int .i64 9280) (.int .i64 9280)).run Tryz.prog w = .ok (.slice (some ⟨w.heap.size, 0, none⟩) 9280 9280) (w.alloc (.cells (tabV 9280 (u8f (fun _ => 0))) 5)) := fun w => run_make_bytes w 9280 (by omega)
  go_enter Tryz.func31, Tryz.ntmps31
  go_wp2_with fail
  go_ret
  refine ⟨rfl, ⟨⟨w.heap.size + 1, w.heap.size + 1 + 1, .slice none 0 0, .slice none 0 0, ((Has.new _ _ _).alloc _).alloc _, ?_, ?_, World.ownsRow_nil _ _ _ _, World.ownsRow_nil _ _ _ _, by omega, .inr ?_, .inr ?_, .inr ?_, fun k hk => by simp [Value.ownBlock] at hk, fun k hk => by simp [Value.ownBlock] at hk⟩, ?_⟩, (((Only.refl _ w).alloc _).alloc _).alloc _⟩
  · exact Has.alloc (Has.new' _ _ _ _ (by simp)) _
  · exact Has.new' _ _ _ _ (by simp)
  · first | (simp; done) | (simp; omega)
  · first | (simp; done) | (simp; omega)
  · first | (simp; done) | (simp; omega)
  · exact Ext.in (fun _ h => h.elim) (by simp; omega)

set_option maxRecDepth 100000 in
set_option maxHeartbeats 1000000 in
theorem dvmark_any (h : DevAt w d D B recs F) :
    Calls Tryz.prog 45 #[.pointer (some ⟨d, 0, none⟩)] w fun e w' => e = .returned (.tuple #[]) ∧ DevAt w' d D D [] F ∧ Only F w w' := by
  obtain ⟨⟨b0, b1, av, dv, h1, h2, h3, h4, h5, n1, f, f0, f1, fa, fd⟩, hi⟩ := h
  obtain ⟨a4, c4, rfl⟩ := ownsRow_shape h4
  obtain ⟨a5, c5, rfl⟩ := ownsRow_shape h5
  have m1 := h1.ne h3 (by decide)
  clear h4 h5 fa fd
  generalize recs.length = nn at *
  go_enter Tryz.func45, Tryz.ntmps45
  go_wp2_with fail
  go_loopw [2] (fun v wr => ∃ k : Nat, k ≤ 9280 ∧ v = .int .i64 k ∧ Has wr b1 (tabV 9280 (u8f (fun j => if j < k then D j else B j))) 5 ∧ Only (fun x => x = b1) w wr) (fun v _ => (9280 - intOf v).toNat)
  case atStart => exact ⟨0, by omega, rfl, by simpa using h3, Only.refl _ w⟩
  case round =>
    obtain ⟨k, hk, rfl, hs, ho⟩ := hrel
    have g1 := h1.keep ho m1
    have g2 := h2.keep ho n1
    have c0 := g1.cell 0
    have c1 := g1.cell 1
    by_cases hk6 : k < 9280
    · have q0 := g2.cell k
      rw [u8_get _ _ _ hk6] at q0
      have q1 := hs.cell k
      rw [u8_get _ _ _ hk6] at q1
      have z1 := hs.free k
      have s1 := hs.setCell k (.int .u8 (D k : Int))
      rw [u8_set] at s1
      have e1 : tabV 9280 (u8f (fun j => if j = k then D k else if j < k then D j else B j)) = tabV 9280 (u8f (fun j => if j < k + 1 then D j else B j)) := by
        apply u8_congr
        intro j hj
        by_cases e : j = k
        · subst e; rw [if_pos rfl, if_pos (by omega)]
        · rw [if_neg e]
          by_cases e' : j < k
          · rw [if_pos e', if_pos (by omega)]
          · rw [if_neg e', if_neg (by omega)]
      rw [e1] at s1
      have Hs := hide s1
      clear s1 e1
      generalize (if k < k then D k else B k) = z at *
      generalize D k = y at *
      have hk' : (k : Int) < 9280 := by omega
      go_wp2_with fail
      go_region
      all_goals
        go_wp2_with fail
        go_roundw
        case rel => exact ⟨k + 1, by omega, by go_num, unhide Hs, (ho.setCell (p := ⟨b1, k, none⟩) (fun _ => rfl) _).drew⟩
        case measure => simp [intOf]; omega
    · obtain rfl : k = 9280 := by omega
      have e1 : tabV 9280 (u8f (fun j => if j < 9280 then D j else B j)) = tabV 9280 (u8f D) := u8_congr _ (fun j hj => by rw [if_pos hj])
      rw [e1] at hs
      have Hs := hide hs
      clear e1
      have c2 := g1.cell 2
      have c3 := g1.cell 3
      have z2 := g1.free 2
      have z3 := g1.free 3
      have k1 := (g1.setCell 2 (.slice none 0 0)).setCell 3 (.slice none 0 0)
      have o2 := (only1 (w := wr) (p := d) 2 (.slice none 0 0)).trans (only1 (p := d) 3 (.slice none 0 0)) (fun _ _ h => h)
      have n2 := h1.ne h2 (by decide)
      go_wp2_with fail
      go_end0
      have oall : Only F w ((wr.setCell ⟨d, 2, none⟩ (.slice none 0 0)).setCell ⟨d, 3, none⟩ (.slice none 0 0)) := (ho.mono (fun _ _ e => e ▸ f1)).trans o2 (fun _ _ e => e ▸ f)
      refine ⟨rfl, ⟨⟨b0, b1, .slice none 0 0, .slice none 0 0, by simpa using k1, g2.keep o2 (fun e => n2 e.symm), (unhide Hs).keep o2 (fun e => m1 e.symm), World.ownsRow_nil _ _ _ _, World.ownsRow_nil _ _ _ _, n1, f, f0, f1, fun k hk => by simp [Value.ownBlock] at hk, fun k hk => by simp [Value.ownBlock] at hk⟩, fun x hx => Nat.lt_of_lt_of_le (hi x hx) oall.size⟩, oall⟩
end
end Go.Proofs.Qxb6500417aGreat
