/-
  OWN WORK. TABLE: a table's head and its columns in the catalog.
-/
import Derived.Test.Qxb6500412aGreatECat
namespace Go.Proofs.Qxb6500412aGreat
open Go.RowKit Go.PlainAid
set_option linter.unusedSimpArgs false
set_option linter.unusedVariables false

def hdA (h : Hd) : Value := .agg #[.int .i64 (h.n : Int), .int .i64 (h.pk : Int), .int .i64 (ixI h.ix), .int .i64 (h.rows : Int), .int .i64 (ixI h.idx)]
set_option maxRecDepth 100000 in
theorem eheadText_any (h : Hd) (k : HdOk h) (w : World) : Calls Tryz.prog 236 #[hdA h] w fun e w' => e = .returned (.string (hdT h)) ∧ Only (fun _ => False) w w' := by
  obtain ⟨n, pk, ix, rows, idx⟩ := h
  have KL := hide k.lt
  have k1 := k.n3
  have k2 := k.pk
  have k3 := k.r8
  have hix : ∃ x : Nat, x < 256 ∧ ixI ix + 1 = (x : Int) ∧ ixN ix = x ∧ -1 ≤ ixI ix ∧ ixI ix ≤ 100 := by
    cases e : ix with
    | none => exact ⟨0, by omega, by simp [ixI], rfl, by simp [ixI], by simp [ixI]⟩
    | some c =>
      have := (k.ix c e).1
      simp at k1 this
      exact ⟨c + 1, by omega, by simp [ixI], rfl, by simp [ixI], by simp [ixI]; omega⟩
  obtain ⟨x, hx1, hx2, hx3, hx4, hx5⟩ := hix
  simp only at k1 k2 k3
  have o0 : Only (fun _ => False) w ((w.alloc (.cells #[.int .i64 (n : Int), .int .i64 (pk : Int), .int .i64 (ixI ix), .int .i64 (rows : Int), .int .i64 (ixI idx)] 275)).alloc (.cells (tabV 5 (u8f (fun _ => 0))) 5)) := ((Only.refl _ w).alloc _).alloc _
  have hmk : ∀ w, (Instr.makeSlice 282 (.int .i64 5) (.int .i64 5)).run Tryz.prog w = .ok (.slice (some ⟨w.heap.size, 0, none⟩) 5 5) (w.alloc (.cells (tabV 5 (u8f (fun _ => 0))) 5)) := fun w => by
    have := run_make_bytes w 5 (by omega)
    simpa using this
  have N0 := Has.new w #[.int .i64 (n : Int), .int .i64 (pk : Int), .int .i64 (ixI ix), .int .i64 (rows : Int), .int .i64 (ixI idx)] 275
  have N1 := N0.keep ((Only.refl (fun _ => False) _).alloc (.cells (tabV 5 (u8f (fun _ => 0))) 5)) (fun e => e)
  have B0 := Has.new (w.alloc (.cells #[.int .i64 (n : Int), .int .i64 (pk : Int), .int .i64 (ixI ix), .int .i64 (rows : Int), .int .i64 (ixI idx)] 275)) (tabV 5 (u8f (fun _ => 0))) 5
  simp only [World.size_alloc] at B0
  go_enter Tryz.func236, Tryz.ntmps236
  unfold hdA
  go_upto_region 2 with fail
  clear hmk N0
  generalize (w.alloc (.cells #[.int .i64 (n : Int), .int .i64 (pk : Int), .int .i64 (ixI ix), .int .i64 (rows : Int), .int .i64 (ixI idx)] 275)).alloc (.cells (tabV 5 (u8f (fun _ => 0))) 5) = w1 at *
  have hne : w.heap.size + 1 ≠ w.heap.size := by omega
  have w0 : IntKind.u8.wrap (n : Int) = (n : Int) := IntWalk.u8_in _ (by omega)
  have wpk : IntKind.u8.wrap (pk : Int) = (pk : Int) := IntWalk.u8_in _ (by omega)
  have wx : IntKind.u8.wrap (x : Int) = (x : Int) := IntWalk.u8_in _ (by omega)
  have wr : IntKind.u8.wrap (rows : Int) = (rows : Int) := IntWalk.u8_in _ (by omega)
  have c0 := N1.cell 0
  have b0 := B0.cell 0
  rw [u8_get _ _ _ (by omega)] at b0
  have f0 := B0.free 0
  simp at c0
  have B1 := B0.setU 0 n
  have N2 := N1.keep (only1 (p := w.heap.size + 1) 0 (.int .u8 ((n : Nat) : Int))) (fun e => by simp at e)
  have p1 := o0.fresh (only1 (p := w.heap.size + 1) 0 (.int .u8 ((n : Nat) : Int))) (by simp)
  have HQ0 := hide (And.intro B1 (And.intro N2 p1))
  clear B0 N1 o0 B1 N2 p1
  go_upto_region 3 with fail
  obtain ⟨B1, N2, p1⟩ := unhide HQ0
  clear HQ0 c0 b0 f0
  have hw0 : w1.setCell ⟨w.heap.size + 1, 0, none⟩ (.int .u8 (n : Int)) = w1.setCell ⟨w.heap.size + 1, 0, none⟩ (.int .u8 ((n : Nat) : Int)) := rfl
  rw [hw0]
  clear hw0
  generalize w1.setCell ⟨w.heap.size + 1, 0, none⟩ (.int .u8 ((n : Nat) : Int)) = w2 at *
  have c1 := N2.cell 1
  have b1 := B1.cell 1
  rw [u8_get _ _ _ (by omega)] at b1
  have f1 := B1.free 1
  simp at c1
  have B2 := B1.setU 1 pk
  have N3 := N2.keep (only1 (p := w.heap.size + 1) 1 (.int .u8 ((pk : Nat) : Int))) (fun e => by simp at e)
  have p2 := p1.fresh (only1 (p := w.heap.size + 1) 1 (.int .u8 ((pk : Nat) : Int))) (by simp)
  have HQ1 := hide (And.intro B2 (And.intro N3 p2))
  clear B1 N2 p1 B2 N3 p2
  go_upto_region 4 with fail
  obtain ⟨B2, N3, p2⟩ := unhide HQ1
  clear HQ1 c1 b1 f1
  have hw1 : w2.setCell ⟨w.heap.size + 1, 1, none⟩ (.int .u8 (pk : Int)) = w2.setCell ⟨w.heap.size + 1, 1, none⟩ (.int .u8 ((pk : Nat) : Int)) := rfl
  rw [hw1]
  clear hw1
  generalize w2.setCell ⟨w.heap.size + 1, 1, none⟩ (.int .u8 ((pk : Nat) : Int)) = w3 at *
  have c2 := N3.cell 2
  have b2 := B2.cell 2
  rw [u8_get _ _ _ (by omega)] at b2
  have f2 := B2.free 2
  simp at c2
  have B3 := B2.setU 2 x
  have N4 := N3.keep (only1 (p := w.heap.size + 1) 2 (.int .u8 ((x : Nat) : Int))) (fun e => by simp at e)
  have p3 := p2.fresh (only1 (p := w.heap.size + 1) 2 (.int .u8 ((x : Nat) : Int))) (by simp)
  have HQ2 := hide (And.intro B3 (And.intro N4 p3))
  clear B2 N3 p2 B3 N4 p3
  go_upto_region 5 with fail
  obtain ⟨B3, N4, p3⟩ := unhide HQ2
  clear HQ2 c2 b2 f2
  have hw2 : w3.setCell ⟨w.heap.size + 1, 2, none⟩ (.int .u8 (x : Int)) = w3.setCell ⟨w.heap.size + 1, 2, none⟩ (.int .u8 ((x : Nat) : Int)) := rfl
  rw [hw2]
  clear hw2
  generalize w3.setCell ⟨w.heap.size + 1, 2, none⟩ (.int .u8 ((x : Nat) : Int)) = w4 at *
  have c3 := N4.cell 3
  have b3 := B3.cell 3
  rw [u8_get _ _ _ (by omega)] at b3
  have f3 := B3.free 3
  simp at c3
  have B4 := B3.setU 3 rows
  have N5 := N4.keep (only1 (p := w.heap.size + 1) 3 (.int .u8 ((rows : Nat) : Int))) (fun e => by simp at e)
  have p4 := p3.fresh (only1 (p := w.heap.size + 1) 3 (.int .u8 ((rows : Nat) : Int))) (by simp)
  have HQ3 := hide (And.intro B4 (And.intro N5 p4))
  clear B3 N4 p3 B4 N5 p4
  go_upto_region 6 with fail
  obtain ⟨B4, N5, p4⟩ := unhide HQ3
  clear HQ3 c3 b3 f3
  have hw3 : w4.setCell ⟨w.heap.size + 1, 3, none⟩ (.int .u8 (rows : Int)) = w4.setCell ⟨w.heap.size + 1, 3, none⟩ (.int .u8 ((rows : Nat) : Int)) := rfl
  rw [hw3]
  clear hw3
  generalize w4.setCell ⟨w.heap.size + 1, 3, none⟩ (.int .u8 ((rows : Nat) : Int)) = w5 at *
  have c4 := N5.cell 4
  have b4 := B4.cell 4
  rw [u8_get _ _ _ (by omega)] at b4
  have f4 := B4.free 4
  simp at c4
  have B5 := B4.setU 4 255
  have N6 := N5.keep (only1 (p := w.heap.size + 1) 4 (.int .u8 ((255 : Nat) : Int))) (fun e => by simp at e)
  have p5 := p4.fresh (only1 (p := w.heap.size + 1) 4 (.int .u8 ((255 : Nat) : Int))) (by simp)
  have HQ4 := hide (And.intro B5 (And.intro N6 p5))
  clear B4 N5 p4 B5 N6 p5
  go_upto_region 7 with fail
  obtain ⟨B5, N6, p5⟩ := unhide HQ4
  clear HQ4 c4 b4 f4
  have hw4 : w5.setCell ⟨w.heap.size + 1, 4, none⟩ (.int .u8 255) = w5.setCell ⟨w.heap.size + 1, 4, none⟩ (.int .u8 ((255 : Nat) : Int)) := rfl
  rw [hw4]
  clear hw4
  generalize w5.setCell ⟨w.heap.size + 1, 4, none⟩ (.int .u8 ((255 : Nat) : Int)) = w6 at *
  have c4 := N6.cell 4
  simp at c4
  cases hidx : idx with
  | none =>
    subst hidx
    have z4 : decide ((-1 : Int) ≥ 0) = false := by decide
    have HV := hide (fun j (hj : j < 5) => show (fun j => if j = 4 then 255 else if j = 3 then rows else if j = 2 then x else if j = 1 then pk else if j = 0 then n else 0) j = hdF ⟨n, pk, ix, rows, none⟩ j from by
      unfold hdF
      rcases (show j = 0 ∨ j = 1 ∨ j = 2 ∨ j = 3 ∨ j = 4 by omega) with rfl | rfl | rfl | rfl | rfl <;> simp [hx3, idN])
    have hcv := run_conv_mkB (cap := 5) (B5.congrU (unhide HV)) (fun j hj => unhide KL j)
    have HE := hide (show hdT ⟨n, pk, ix, rows, none⟩ = mkB 5 (hdF ⟨n, pk, ix, rows, none⟩) from rfl)
    rw [show ixI none = -1 from rfl] at c4
    have HO := hide p5
    clear B5 N6 p5
    go_wp2_with fail
    go_ret
    exact ⟨by rw [unhide HE]; rfl, unhide HO⟩
  | some c =>
    subst hidx
    have kc := (k.idx c rfl).2.1
    have z4 : decide ((c : Int) ≥ 0) = true := by simp
    have z4' : decide ((0 : Int) ≤ (c : Int)) = true := by simp
    have wc : IntKind.u8.wrap (c : Int) = (c : Int) := IntWalk.u8_in _ (by omega)
    have B6 := B5.setU 4 c
    have HV := hide (fun j (hj : j < 5) => show (fun j => if j = 4 then c else if j = 4 then 255 else if j = 3 then rows else if j = 2 then x else if j = 1 then pk else if j = 0 then n else 0) j = hdF ⟨n, pk, ix, rows, some c⟩ j from by
      unfold hdF
      rcases (show j = 0 ∨ j = 1 ∨ j = 2 ∨ j = 3 ∨ j = 4 by omega) with rfl | rfl | rfl | rfl | rfl <;> simp [hx3, idN])
    have hcv := run_conv_mkB (cap := 5) (B6.congrU (unhide HV)) (fun j hj => unhide KL j)
    have HO := hide (p5.fresh (only1 (p := w.heap.size + 1) 4 (.int .u8 (c : Int))) (by simp))
    have g4 := B5.cell 4
    rw [u8_get _ _ _ (by omega)] at g4
    have g4f := B5.free 4
    have HE := hide (show hdT ⟨n, pk, ix, rows, some c⟩ = mkB 5 (hdF ⟨n, pk, ix, rows, some c⟩) from rfl)
    rw [show ixI (some c) = (c : Int) from rfl] at c4
    clear B5 B6 N6 p5
    go_wp2_with fail
    go_ret
    exact ⟨by rw [unhide HE]; rfl, unhide HO⟩
end Go.Proofs.Qxb6500412aGreat
