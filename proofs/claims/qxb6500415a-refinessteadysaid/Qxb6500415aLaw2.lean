/-
  OWN WORK. THE LAW's GHOST AND GROUND.
-/
import Derived.Test.Qxb6500415aLaw1
namespace Go.Proofs.Qxb6500415a
open Go.RowKit
set_option linter.unusedSimpArgs false
set_option linter.unusedVariables false

theorem mix_set {α : Type} (ys xs : List α) (k : Nat) (hk : k < ys.length) (hx : xs.length = ys.length) : (ys.take k ++ xs.drop k).set k ys[k] = ys.take (k + 1) ++ xs.drop (k + 1) := by
  rw [List.set_append_right _ _ (by simp; omega), List.take_succ_eq_append_getElem hk, List.append_assoc]
  congr 1
  have e : k - (ys.take k).length = 0 := by simp; omega
  have hd := List.drop_eq_getElem_cons (l := xs) (i := k) (by omega)
  rw [e, hd, List.set_cons_zero]
  rfl

set_option maxRecDepth 100000 in
set_option maxHeartbeats 1000000 in
theorem lay_any (b c : Nat) (xs ys : List ByteArray) (w : World) (hb : Has w b (strs xs) 60) (hc : Has w c (strs ys) 60) (hbc : b ≠ c) (hx : xs.length = 80) (hy : ys.length = 80) :
    Calls Try.prog 15 #[.slice (some ⟨b, 0, none⟩) 80 80, .slice (some ⟨c, 0, none⟩) 80 80] w fun e w' => e = .returned (.tuple #[]) ∧ Has w' b (strs ys) 60 ∧ Only (fun k => k = b) w w' := by
  go_enter Try.func15, Try.ntmps15
  go_wp2
  go_loopw [4] (fun v wr => ∃ k : Nat, k ≤ 80 ∧ v = .int .i64 k ∧ Has wr b (strs (ys.take k ++ xs.drop k)) 60 ∧ Only (fun k => k = b) w wr) (fun v _ => 80 - (intOf v).toNat)
  case atStart => exact ⟨0, by omega, rfl, by simpa using hb, Only.refl _ w⟩
  case round =>
    obtain ⟨k, hk, rfl, hbk, ho⟩ := hrel
    by_cases hk8 : k < 80
    · have p1 := (hc.keep ho (fun e => hbc e.symm)).cell k
      rw [strs_get _ _ (by omega)] at p1
      have p2 := hbk.cell k
      rw [strs_get _ _ (by simp; omega)] at p2
      have p3 := hbk.free k
      have hs := hbk.setCell k (.string (ys[k]'(by omega)))
      rw [strs_set, mix_set ys xs k (by omega) (by omega)] at hs
      generalize ys[k]'(by omega) = yk at *
      generalize ((ys.take k ++ xs.drop k)[k]'(by simp; omega)) = old at *
      go_wp2
      go_roundw
      case rel => exact ⟨k + 1, by omega, by go_num, hs, ho.setCell (fun _ => rfl) _⟩
      case measure => simp [intOf]; omega
    · obtain rfl : k = 80 := by omega
      go_wp2
      go_end0
      refine ⟨rfl, ?_, ho⟩
      rw [List.take_of_length_le (by omega), List.drop_of_length_le (by omega), List.append_nil] at hbk
      exact hbk

def nots (n : Nat) : List Bool := List.replicate n false
@[simp] theorem nots_length (n : Nat) : (nots n).length = n := by simp [nots]
theorem nots_get (n k : Nat) (h : k < (nots n).length) : (nots n)[k] = false := by simp [nots]

set_option maxRecDepth 100000 in
set_option maxHeartbeats 1000000 in
theorem shut_any (g : Nat) (com was cur : List ByteArray) (dirty : List Bool) (n : Nat) (op : Bool) (F : Nat → Prop) (w : World) (hg : GhostAt w g com was cur dirty n op F) :
    Calls Try.prog 21 #[.pointer (some ⟨g, 0, none⟩)] w fun e w' => e = .returned (.tuple #[]) ∧ GhostAt w' g com was cur (nots 80) 0 false F ∧ Only F w w' := by
  obtain ⟨⟨b0, b1, b2, b3, h1, h2, h3, h4, h5, n1, n2, n3, f0, f1, f2, f3, f4⟩, l0, l1, l2, l3, hi⟩ := hg
  have c4 := h1.cell 4
  have c5 := h1.cell 5
  have z4 := h1.free 4
  have z5 := h1.free 5
  have m0 := h1.ne h2 (by decide)
  have m1 := h1.ne h3 (by decide)
  have m2 := h1.ne h4 (by decide)
  have m3 := h1.ne h5 (by decide)
  have m4 := h2.ne h5 (by decide)
  have m5 := h3.ne h5 (by decide)
  have m6 := h4.ne h5 (by decide)
  have k1 := (h1.setCell 5 (.bool false)).setCell 4 (.int .i64 0)
  have k5 := (h5.setCell_other (p := ⟨g, 5, none⟩) (fun e => m3 e.symm) (.bool false)).setCell_other (p := ⟨g, 4, none⟩) (fun e => m3 e.symm) (.int .i64 0)
  have o1 : Only F w ((w.setCell ⟨g, 5, none⟩ (.bool false)).setCell ⟨g, 4, none⟩ (.int .i64 0)) := ((Only.refl F w).setCell (fun _ => f0) _).setCell (fun _ => f0) _
  have k2 := (h2.setCell_other (p := ⟨g, 5, none⟩) (fun e => m0 e.symm) (.bool false)).setCell_other (p := ⟨g, 4, none⟩) (fun e => m0 e.symm) (.int .i64 0)
  have k3 := (h3.setCell_other (p := ⟨g, 5, none⟩) (fun e => m1 e.symm) (.bool false)).setCell_other (p := ⟨g, 4, none⟩) (fun e => m1 e.symm) (.int .i64 0)
  have k4 := (h4.setCell_other (p := ⟨g, 5, none⟩) (fun e => m2 e.symm) (.bool false)).setCell_other (p := ⟨g, 4, none⟩) (fun e => m2 e.symm) (.int .i64 0)
  simp at k1
  go_enter Try.func21, Try.ntmps21
  go_wp2
  generalize ((w.setCell ⟨g, 5, none⟩ (.bool false)).setCell ⟨g, 4, none⟩ (.int .i64 0)) = w1 at *
  go_loopw [2] (fun v wr => ∃ k : Nat, k ≤ 80 ∧ v = .int .i64 k ∧ Has wr b3 (bools ((nots 80).take k ++ dirty.drop k)) 4 ∧ Only (fun k => k = b3) w1 wr) (fun v _ => 80 - (intOf v).toNat)
  case atStart => exact ⟨0, by omega, rfl, by simpa using k5, Only.refl _ w1⟩
  case round =>
    obtain ⟨k, hk, rfl, hbk, ho⟩ := hrel
    have r1 := k1.keep ho m3
    have q3 := r1.cell 3
    by_cases hk8 : k < 80
    · have p2 := hbk.cell k
      rw [bools_get _ _ (by simp; omega)] at p2
      have p3 := hbk.free k
      have hs := hbk.setCell k (.bool ((nots 80)[k]'(by rw [nots_length]; exact hk8)))
      rw [bools_set, mix_set (nots 80) dirty k (by simp; omega) (by simp; omega)] at hs
      have hf : (nots 80)[k]'(by rw [nots_length]; exact hk8) = false := nots_get 80 k _
      rw [hf] at hs
      generalize (((nots 80).take k ++ dirty.drop k)[k]'(by simp; omega)) = old at *
      clear hf
      go_wp2
      go_roundw
      case rel => exact ⟨k + 1, by omega, by go_num, hs, ho.setCell (fun _ => rfl) _⟩
      case measure => simp [intOf]; omega
    · obtain rfl : k = 80 := by omega
      go_wp2
      go_end0
      rw [List.take_of_length_le (by simp), List.drop_of_length_le (by omega), List.append_nil] at hbk
      refine ⟨rfl, ⟨⟨b0, b1, b2, b3, r1, k2.keep ho m4, k3.keep ho m5, k4.keep ho m6, hbk, n1, n2, n3, f0, f1, f2, f3, f4⟩, l0, l1, l2, by simp, fun j hj => ?_⟩, o1.trans ho (fun i _ e => by subst e; exact f4)⟩
      have := hi j hj
      have := o1.size
      have := ho.size
      omega

theorem Try.infoBool : (Try.prog.info? 4).map (fun i => (i.zero, i.size, i.bytes)) = some (some (.bool false), 1, 1) := by kernel_rfl
theorem run_make_bools (w : World) (n : Nat) (hn : n ≤ 1000000) :
    (Instr.makeSlice 41 (.int .i64 n) (.int .i64 n)).run Try.prog w = .ok (.slice (some ⟨w.heap.size, 0, none⟩) n n) (w.alloc (.cells (bools (nots n)) 4)) := by
  obtain ⟨i, hi, hz, hs, hb⟩ := info_parts Try.infoBool
  have := run_make (P := Try.prog) w 41 4 i _ Try.underlying41 hi hz .i64 .i64 (n : Int) (n : Int) (by omega) (by omega) (by rw [hb]; omega) (by omega)
  rw [this]
  simp [hs, Value.cells, madeCells_one, bools, nots]

set_option maxRecDepth 100000 in
set_option maxHeartbeats 1000000 in
theorem newGhost_any (w : World) :
    Calls Try.prog 12 #[] w fun e w' => e = .returned (.pointer (some ⟨w.heap.size, 0, none⟩)) ∧ GhostAt w' w.heap.size (zeros 80) (zeros 80) (zeros 80) (nots 80) 0 false (Ext (fun _ => False) w w') ∧ Only (fun _ => False) w w' := by
  have hm2 : ∀ w, (Instr.makeSlice 41 (.int .i64 80) (.int .i64 80)).run Try.prog w = .ok (.slice (some ⟨w.heap.size, 0, none⟩) 80 80) (w.alloc (.cells (bools (nots 80)) 4)) := fun w => run_make_bools w 80 (by omega)
  go_enter Try.func12, Try.ntmps12
  go_wp2_with fail
  refine (blocks_any 80 _ (by omega)).mono ?_
  rintro e w' ⟨rfl, rfl⟩
  go_wp2_with fail
  refine (blocks_any 80 _ (by omega)).mono ?_
  rintro e w' ⟨rfl, rfl⟩
  go_wp2_with fail
  refine (blocks_any 80 _ (by omega)).mono ?_
  rintro e w' ⟨rfl, rfl⟩
  go_wp2
  go_ret
  refine ⟨rfl, ⟨⟨w.heap.size + 1, w.heap.size + 1 + 1, w.heap.size + 1 + 1 + 1, w.heap.size + 1 + 1 + 1 + 1, ((((Has.new _ _ _).alloc _).alloc _).alloc _).alloc _, ?_, ?_, ?_, ?_, by omega, by omega, by omega, .inr ?_, .inr ?_, .inr ?_, .inr ?_, .inr ?_⟩, by simp, by simp, by simp, by simp, ?_⟩, ((((((Only.refl _ w).alloc _).alloc _).alloc _).alloc _).alloc _)⟩
  · refine Has.alloc (Has.alloc (Has.alloc ?_ _) _) _
    exact Has.new' _ _ _ _ (by simp)
  · refine Has.alloc (Has.alloc ?_ _) _
    exact Has.new' _ _ _ _ (by simp)
  · refine Has.alloc ?_ _
    exact Has.new' _ _ _ _ (by simp)
  · exact Has.new' _ _ _ _ (by simp)
  · first | (simp; done) | (simp; omega)
  · first | (simp; done) | (simp; omega)
  · first | (simp; done) | (simp; omega)
  · first | (simp; done) | (simp; omega)
  · first | (simp; done) | (simp; omega)
  · exact Ext.in (fun _ h => h.elim) (by simp; omega)

end Go.Proofs.Qxb6500415a
