/-
  OWN WORK. TABLE: a head read back; columns.
-/
import Derived.Test.Qxb6500412aGreatERs
import Derived.BigRegion
namespace Go.Proofs.Qxb6500412aGreat
open Go.RowKit Go.PlainAid
set_option linter.unusedSimpArgs false
set_option linter.unusedVariables false

theorem egoodTree_any (n : Nat) (h1 : 1 ≤ n) (h8 : n < 8) (w : World) : Calls Tryz.prog 335 #[.int .i64 (n : Int)] w fun e w' => e = .returned (.bool true) ∧ w = w' := by
  have a1 : decide ((n : Int) > 0) = true := decide_eq_true (by omega)
  have a1' : decide ((0 : Int) < (n : Int)) = true := decide_eq_true (by omega)
  have a2 : decide ((n : Int) < 8) = true := decide_eq_true (by omega)
  go_enter Tryz.func335, Tryz.ntmps335
  go_wp2_with fail
  go_ret
  exact ⟨rfl, rfl⟩
theorem HdOk.sum {h : Hd} (k : HdOk h) : (-1 ≤ ixI h.ix ∧ ixI h.ix < (h.n : Int) ∧ ixI h.ix ≠ (h.pk : Int)) ∧ ((ixN h.ix : Nat) : Int) - 1 = ixI h.ix ∧ (decide (ixI h.ix < 0) = decide (ixI h.idx < 0)) := by
  have k1 := k.n3
  have k2 := k.pk
  refine ⟨?_, ?_, ?_⟩
  · cases e : h.ix with
    | none => simp [ixI]; omega
    | some c => have := k.ix c e; simp [ixI]; omega
  · cases e : h.ix with
    | none => simp [ixI, ixN]
    | some c => simp [ixI, ixN]
  · cases e : h.ix with
    | none => rw [k.both.mp e]
    | some c =>
      cases e2 : h.idx with
      | none => rw [k.both.mpr e2] at e; cases e
      | some d => rw [decide_eq_false (by simp [ixI]), decide_eq_false (by simp [ixI])]
set_option maxRecDepth 100000 in
set_option maxHeartbeats 4000000 in
theorem eheadOf_any (h : Hd) (k : HdOk h) (w : World) : Calls Tryz.prog 284 #[.string (hdT h)] w fun e w' => e = .returned (.tuple #[hdA h, .bool true]) ∧ Only (fun _ => False) w w' := by
  have hsz : (hdT h).size = 5 := mkB_size _ _
  have hat : ∀ j, j < 5 → byteAt (hdT h) j = hdF h j := fun j hj => mkB_at hj (k.lt j)
  have KS := k.sum
  have CG := hide (fun w => egoodTree_any h.rows k.r1 k.r8 w)
  have CX := hide (fun c (e : h.idx = some c) w => egoodTree_any c (k.idx c e).1 (k.idx c e).2.1 w)
  have KX := hide (fun c (e : h.idx = some c) => (k.idx c e))
  have k1 := k.n1
  have k3 := k.n3
  have kp := k.pk
  have kr := k.r8
  clear k
  obtain ⟨n, pk, ix, rows, idx⟩ := h
  simp only at *
  generalize hdT ⟨n, pk, ix, rows, idx⟩ = c at *
  have q0 : (c[0].toNat : Int) = (n : Int) := by rw [byteAt_idx c 0 (by omega), hat 0 (by omega)]; rfl
  have q1 : (c[1].toNat : Int) = (pk : Int) := by rw [byteAt_idx c 1 (by omega), hat 1 (by omega)]; rfl
  have q2 : (c[2].toNat : Int) = ((ixN ix : Nat) : Int) := by rw [byteAt_idx c 2 (by omega), hat 2 (by omega)]; rfl
  have q3 : (c[3].toNat : Int) = (rows : Int) := by rw [byteAt_idx c 3 (by omega), hat 3 (by omega)]; rfl
  have q4 : (c[4].toNat : Int) = ((idN idx : Nat) : Int) := by rw [byteAt_idx c 4 (by omega), hat 4 (by omega)]; rfl
  obtain ⟨⟨x1, x2, x3⟩, x4, x5⟩ := KS
  obtain ⟨X, hXi⟩ : ∃ X, ixI ix = X := ⟨_, rfl⟩
  rw [hXi] at x1 x2 x3 x4 x5
  have HXi := hide hXi
  clear hXi
  have csI : (c.size : Int) = 5 := by omega
  have o0 : Only (fun _ => False) w (w.alloc (.cells #[.int .i64 0, .int .i64 0, .int .i64 0, .int .i64 0, .int .i64 0] 275)) := (Only.refl _ w).alloc _
  have N0 := Has.new w #[.int .i64 0, .int .i64 0, .int .i64 0, .int .i64 0, .int .i64 0] 275
  have i0 : (0 : Int) < (c.size : Int) := by omega
  have i1 : (1 : Int) < (c.size : Int) := by omega
  have i2 : (2 : Int) < (c.size : Int) := by omega
  have i3 : (3 : Int) < (c.size : Int) := by omega
  have i4 : (4 : Int) < (c.size : Int) := by omega
  have x1n : (ixN ix : Int) ≤ 100 := by omega
  have hI5 : idN idx ≤ 255 := by
    cases e : idx with
    | none => simp [idN]
    | some c => have := (unhide KX c e).2.1; simp [idN]; omega
  obtain ⟨I, hI⟩ : ∃ I : Nat, idN idx = I := ⟨_, rfl⟩
  rw [hI] at q4 hI5
  have II : (I : Int) ≤ 255 := by omega
  clear hat
  go_enter Tryz.func284, Tryz.ntmps284
  go_upto_region 3 with fail
  generalize w.alloc (.cells #[.int .i64 0, .int .i64 0, .int .i64 0, .int .i64 0, .int .i64 0] 275) = w1 at *
  go_region
  all_goals
    have W2 := Has.new w1 #[.int .i64 (n : Int), .int .i64 (pk : Int), .int .i64 X, .int .i64 (rows : Int), .int .i64 (I : Int)] 275
    have o2 : Only (fun _ => False) w (w1.alloc (.cells #[.int .i64 (n : Int), .int .i64 (pk : Int), .int .i64 X, .int .i64 (rows : Int), .int .i64 (I : Int)] 275)).drew := (o0.alloc _).drew
    have W0 : Has (w1.alloc (.cells #[.int .i64 (n : Int), .int .i64 (pk : Int), .int .i64 X, .int .i64 (rows : Int), .int .i64 (I : Int)] 275)).drew w.heap.size _ 275 := (N0.alloc _).drew
    have W2 := W2.drew
    have hw : w1.heap.size ≠ w.heap.size := by have := N0.lt; omega
    generalize hg : w1.heap.size = g at *
    generalize (w1.alloc (.cells #[.int .i64 (n : Int), .int .i64 (pk : Int), .int .i64 X, .int .i64 (rows : Int), .int .i64 (I : Int)] 275)).drew = w2 at *
    have gw : w.heap.size ≤ g := by have := o0.size; omega
    clear hg o0 N0 hsz q0 q1 q2 q3 q4 csI i0 i1 i2 i3 i4 x4
    have u0 := W2.cell 0
    have u1 := W2.cell 1
    have u2 := W2.cell 2
    have u3 := W2.cell 3
    have u4 := W2.cell 4
    have fr4 := W2.free 4
    simp at u0 u1 u2 u3 u4
    have t0 : decide ((n : Int) < 1) = false := decide_eq_false (by omega)
    have t1 : decide ((n : Int) > 3) = false := decide_eq_false (by omega)
    have t1' : decide (3 < (n : Int)) = false := decide_eq_false (by omega)
    have t2 : decide ((pk : Int) ≥ (n : Int)) = false := decide_eq_false (by omega)
    have t2' : decide ((n : Int) ≤ (pk : Int)) = false := decide_eq_false (by omega)
    have t2n : decide (n ≤ pk) = false := decide_eq_false (by omega)
    have t0n : decide (3 < n) = false := decide_eq_false (by omega)
    have t3 : decide (X ≥ (n : Int)) = false := decide_eq_false (by omega)
    have t3' : decide ((n : Int) ≤ X) = false := decide_eq_false (by omega)
    have t4 : (X == (pk : Int)) = false := by simpa using x3
    have z0 := W0.cell 0
    have z1 := W0.cell 1
    have z2 := W0.cell 2
    have z3 := W0.cell 3
    have z4 := W0.cell 4
    have f0 := W0.free 0
    have f1 := W0.free 1
    have f2 := W0.free 2
    have f3 := W0.free 3
    have f4 := W0.free 4
    simp at z0 z1 z2 z3 z4
    have CG2 := hide (unhide CG w2)
    cases idx with
    | none =>
      as_aux_lemma =>
      obtain rfl : I = 255 := hI.symm
      clear hI KX CX
      have xm : X < 0 := of_decide_eq_true (x5.trans (by simp [ixI]))
      have b5 : decide (X < 0) = true := decide_eq_true xm
      have W3 := W2.setCell 4 (.int .i64 (-1))
      have oo : Only (fun k => k = g) w2 (w2.setCell ⟨g, 4, none⟩ (.int .i64 (-1))) := only1 _ _
      have V0 := W0.keep oo (fun e => hw e.symm)
      have o3 := o2.fresh oo gw
      have HQ := hide (And.intro W3 (And.intro V0 o3))
      clear W3 V0 o3 oo o2 W2 W0 z0 z1 z2 z3 z4 f0 f1 f2 f3 f4 CG2 x5
      go_upto_region 6 with fail
      obtain ⟨W3, V0, o3⟩ := unhide HQ
      clear HQ u0 u1 u2 u3 u4 fr4
      generalize w2.setCell ⟨g, 4, none⟩ (.int .i64 (-1)) = w3 at *
      have u0 := W3.cell 0
      have u1 := W3.cell 1
      have u2 := W3.cell 2
      have u3 := W3.cell 3
      have u4 := W3.cell 4
      simp at u0 u1 u2 u3 u4
      have z0 := V0.cell 0
      have z1 := V0.cell 1
      have z2 := V0.cell 2
      have z3 := V0.cell 3
      have z4 := V0.cell 4
      have f0 := V0.free 0
      have f1 := V0.free 1
      have f2 := V0.free 2
      have f3 := V0.free 3
      have f4 := V0.free 4
      simp at z0 z1 z2 z3 z4
      have CG3 := hide (unhide CG w3)
      as_aux_lemma =>
      have HV := hide (And.intro V0 o3)
      clear W3 V0 o3 x1 x2 x3 k1 k3 kp kr hI5 II x1n gw
      go_wp2_with fail
      refine (unhide CG3).mono ?_
      rintro e w4 ⟨rfl, rfl⟩
      as_aux_lemma =>
      go_wp2_with fail
      obtain ⟨V0, o3⟩ := unhide HV
      have V1 := ((((V0.setCell 0 (.int .i64 (n : Int))).setCell 1 (.int .i64 (pk : Int))).setCell 2 (.int .i64 X)).setCell 3 (.int .i64 (rows : Int))).setCell 4 (.int .i64 (-1))
      have HO : Only (fun _ => False) w (((((w3.setCell ⟨w.heap.size, 0, none⟩ (.int .i64 (n : Int))).setCell ⟨w.heap.size, 1, none⟩ (.int .i64 (pk : Int))).setCell ⟨w.heap.size, 2, none⟩ (.int .i64 X)).setCell ⟨w.heap.size, 3, none⟩ (.int .i64 (rows : Int))).setCell ⟨w.heap.size, 4, none⟩ (.int .i64 (-1))) :=
        o3.fresh (((((only1 (p := w.heap.size) _ _).trans (only1 (p := w.heap.size) _ _) (fun _ _ h => h)).trans (only1 (p := w.heap.size) _ _) (fun _ _ h => h)).trans (only1 (p := w.heap.size) _ _) (fun _ _ h => h)).trans (only1 (p := w.heap.size) _ _) (fun _ _ h => h)) (Nat.le_refl _)
      generalize ((((w3.setCell ⟨w.heap.size, 0, none⟩ (.int .i64 (n : Int))).setCell ⟨w.heap.size, 1, none⟩ (.int .i64 (pk : Int))).setCell ⟨w.heap.size, 2, none⟩ (.int .i64 X)).setCell ⟨w.heap.size, 3, none⟩ (.int .i64 (rows : Int))).setCell ⟨w.heap.size, 4, none⟩ (.int .i64 (-1)) = w5 at *
      have hXi := unhide HXi
      refine bodyPost_ret (res2_hd Tryz.results284 _ rfl V1 rfl) rfl ⟨?_, HO⟩
      unfold hdA
      simp only [hXi]
      rfl
    | some c =>
      as_aux_lemma =>
      obtain rfl : I = c := hI.symm
      obtain ⟨c1, c8, cr⟩ := unhide KX I rfl
      have CX3 := hide (unhide CX I rfl w2)
      clear hI KX CX
      have xm : ¬ X < 0 := of_decide_eq_false (x5.trans (decide_eq_false (by simp [ixI])))
      have b5 : decide (X < 0) = false := decide_eq_false xm
      have b6 : ((I : Int) == 255) = false := by simp; omega
      have b7 : decide ((I : Int) < 0) = false := decide_eq_false (by omega)
      have b8 : decide ((I : Int) ≥ 0) = true := decide_eq_true (by omega)
      have b8' : decide (0 ≤ (I : Int)) = true := decide_eq_true (by omega)
      have b9 : ((I : Int) == (rows : Int)) = false := by simp; omega
      have b9n : (I == rows) = false := by simpa using cr
      have b6n : (I == 255) = false := by simp; omega
      have HV := hide (And.intro W0 o2)
      clear W0 o2 W2 x1 x2 x3 k1 k3 kp kr hI5 II x1n gw xm x5 c1 c8 cr
      go_wp2_with fail
      refine (unhide CG2).mono ?_
      rintro e w4 ⟨rfl, rfl⟩
      as_aux_lemma =>
      go_wp2_with fail
      refine (unhide CX3).mono ?_
      rintro e w4 ⟨rfl, rfl⟩
      as_aux_lemma =>
      go_wp2_with fail
      obtain ⟨V0, o3⟩ := unhide HV
      have V1 := ((((V0.setCell 0 (.int .i64 (n : Int))).setCell 1 (.int .i64 (pk : Int))).setCell 2 (.int .i64 X)).setCell 3 (.int .i64 (rows : Int))).setCell 4 (.int .i64 (I : Int))
      have HO : Only (fun _ => False) w (((((w2.setCell ⟨w.heap.size, 0, none⟩ (.int .i64 (n : Int))).setCell ⟨w.heap.size, 1, none⟩ (.int .i64 (pk : Int))).setCell ⟨w.heap.size, 2, none⟩ (.int .i64 X)).setCell ⟨w.heap.size, 3, none⟩ (.int .i64 (rows : Int))).setCell ⟨w.heap.size, 4, none⟩ (.int .i64 (I : Int))) :=
        o3.fresh (((((only1 (p := w.heap.size) _ _).trans (only1 (p := w.heap.size) _ _) (fun _ _ h => h)).trans (only1 (p := w.heap.size) _ _) (fun _ _ h => h)).trans (only1 (p := w.heap.size) _ _) (fun _ _ h => h)).trans (only1 (p := w.heap.size) _ _) (fun _ _ h => h)) (Nat.le_refl _)
      generalize ((((w2.setCell ⟨w.heap.size, 0, none⟩ (.int .i64 (n : Int))).setCell ⟨w.heap.size, 1, none⟩ (.int .i64 (pk : Int))).setCell ⟨w.heap.size, 2, none⟩ (.int .i64 X)).setCell ⟨w.heap.size, 3, none⟩ (.int .i64 (rows : Int))).setCell ⟨w.heap.size, 4, none⟩ (.int .i64 (I : Int)) = w5 at *
      have hXi := unhide HXi
      refine bodyPost_ret (res2_hd Tryz.results284 _ rfl V1 rfl) rfl ⟨?_, HO⟩
      unfold hdA
      simp only [hXi]
      rfl
end Go.Proofs.Qxb6500412aGreat
