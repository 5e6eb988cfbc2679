/-
  OWN WORK. TXN: within, ahead, below, has (written by tools/gen_x4.py).
-/
import Derived.Test.Qxb6500412aGreatX3
namespace Go.Proofs.Qxb6500412aGreat
open Go.RowKit Go.PlainAid
set_option linter.unusedSimpArgs false
set_option linter.unusedVariables false

theorem cell_keepX {B : Nat → Prop} {w w' : World} {p : Addr} {v : Value} (h : w.cell? p = some v) (ho : Only B w w') (hb : ¬ B p.block) : w'.cell? p = some v := by
  have hl := World.block_lt_of_cell? w p h
  unfold World.cell? at h ⊢
  rw [ho.block _ hl hb]
  exact h
set_option maxRecDepth 100000 in
set_option maxHeartbeats 8000000 in
theorem xwithin_any (v : Vl) (lh hh : Bool) (lv hv : Vl) (w : World) : Calls Tryz.prog 259 #[vlA v, bdA lh lv, bdA hh hv] w fun e w' => e = .returned (.bool (inB (bndOf lh lv) (bndOf hh hv) v)) ∧ Only (fun _ => False) w w' := by
  have o0 : Only (fun _ => False) w (((w.alloc (.cells #[.bool v.str, .int .i64 v.i, .string v.s] 152)).alloc (.cells #[.bool lh, .bool lv.str, .int .i64 lv.i, .string lv.s] 244)).alloc (.cells #[.bool hh, .bool hv.str, .int .i64 hv.i, .string hv.s] 244)) := (((Only.refl _ w).alloc _).alloc _).alloc _
  have A : Has (((w.alloc (.cells #[.bool v.str, .int .i64 v.i, .string v.s] 152)).alloc (.cells #[.bool lh, .bool lv.str, .int .i64 lv.i, .string lv.s] 244)).alloc (.cells #[.bool hh, .bool hv.str, .int .i64 hv.i, .string hv.s] 244)) w.heap.size #[.bool v.str, .int .i64 v.i, .string v.s] 152 := ((Has.new w _ _).alloc _).alloc _
  have B : Has (((w.alloc (.cells #[.bool v.str, .int .i64 v.i, .string v.s] 152)).alloc (.cells #[.bool lh, .bool lv.str, .int .i64 lv.i, .string lv.s] 244)).alloc (.cells #[.bool hh, .bool hv.str, .int .i64 hv.i, .string hv.s] 244)) (w.heap.size + 1) #[.bool lh, .bool lv.str, .int .i64 lv.i, .string lv.s] 244 := (Has.new' _ _ _ _ (by simp)).alloc _
  have C : Has (((w.alloc (.cells #[.bool v.str, .int .i64 v.i, .string v.s] 152)).alloc (.cells #[.bool lh, .bool lv.str, .int .i64 lv.i, .string lv.s] 244)).alloc (.cells #[.bool hh, .bool hv.str, .int .i64 hv.i, .string hv.s] 244)) (w.heap.size + 1 + 1) #[.bool hh, .bool hv.str, .int .i64 hv.i, .string hv.s] 244 := Has.new' _ _ _ _ (by simp)
  have HC := hide (fun (a b : Vl) (w : World) => ecmp_any a b w)
  obtain ⟨R, hR⟩ : ∃ R, inB (bndOf lh lv) (bndOf hh hv) v = R := ⟨_, rfl⟩
  rw [hR]
  have HR := hide hR
  clear hR
  unfold vlA bdA
  go_enter Tryz.func259, Tryz.ntmps259
  go_upto_region 1 with fail
  generalize ((w.alloc (.cells #[.bool v.str, .int .i64 v.i, .string v.s] 152)).alloc (.cells #[.bool lh, .bool lv.str, .int .i64 lv.i, .string lv.s] 244)).alloc (.cells #[.bool hh, .bool hv.str, .int .i64 hv.i, .string hv.s] 244) = w1 at *
  have HW : ∀ w2, Only (fun _ => False) w1 w2 → Has w2 w.heap.size #[.bool v.str, .int .i64 v.i, .string v.s] 152 ∧ Has w2 (w.heap.size + 1) #[.bool lh, .bool lv.str, .int .i64 lv.i, .string lv.s] 244 ∧ Has w2 (w.heap.size + 1 + 1) #[.bool hh, .bool hv.str, .int .i64 hv.i, .string hv.s] 244 := fun w2 o => ⟨A.keep o (fun e => e), B.keep o (fun e => e), C.keep o (fun e => e)⟩
  have HW := hide HW
  have HO := hide o0
  clear o0 A B C
  obtain ⟨A, B, C⟩ := unhide HW w1 (Only.refl _ _)
  have a0 := A.cell 0
  have a1 := A.cell 1
  have a2 := A.cell 2
  have b0 := B.cell 0
  have b1 := B.cell 1
  have b2 := B.cell 2
  have b3 := B.cell 3
  have c0 := C.cell 0
  have c1 := C.cell 1
  have c2 := C.cell 2
  have c3 := C.cell 3
  simp at a0 a1 a2 b0 b1 b2 b3 c0 c1 c2 c3
  clear A B C
  have second : ∀ (w2 : World) (K : True), True := fun _ _ => trivial
  clear second
  cases lh with
  | false =>
    cases hh with
    | false =>
      have HD := hide (show true = R from by rw [← unhide HR]; rfl)
      go_wp2_with fail
      go_ret
      exact ⟨by rw [← unhide HD]; rfl, unhide HO⟩
    | true =>
      have CC := unhide HC v hv w1
      unfold vlA at CC
      have CC := hide CC
      obtain ⟨z, hz⟩ : ∃ z, vcmp v hv = z := ⟨_, rfl⟩
      have HZ := hide hz
      rw [hz] at CC
      clear hz
      go_wp2_with fail
      refine (unhide CC).mono ?_
      rintro e w2 ⟨rfl, o2⟩
      have HO2 := hide ((unhide HO).trans o2 (fun _ _ e => e))
      clear o2
      by_cases h0 : z > 0
      · have d : decide (z > 0) = true := decide_eq_true h0
        have d' : decide (0 < z) = true := decide_eq_true h0
        have HD := hide (show false = R from by rw [← unhide HR]; unfold inB bndOf belowB aboveB; simp only [if_true, Bool.false_eq_true, if_false]; rw [unhide HZ, d]; rfl)
        clear h0
        go_wp2_with fail
        go_ret
        exact ⟨by rw [← unhide HD]; rfl, unhide HO2⟩
      · have d : decide (z > 0) = false := decide_eq_false h0
        have d' : decide (0 < z) = false := decide_eq_false h0
        have HD := hide (show true = R from by rw [← unhide HR]; unfold inB bndOf belowB aboveB; simp only [if_true, Bool.false_eq_true, if_false]; rw [unhide HZ, d]; rfl)
        clear h0
        go_wp2_with fail
        go_ret
        exact ⟨by rw [← unhide HD]; rfl, unhide HO2⟩
  | true =>
    have CC := unhide HC v lv w1
    unfold vlA at CC
    have CC := hide CC
    obtain ⟨y, hy⟩ : ∃ y, vcmp v lv = y := ⟨_, rfl⟩
    have HY := hide hy
    rw [hy] at CC
    clear hy
    go_wp2_with fail
    refine (unhide CC).mono ?_
    rintro e w2 ⟨rfl, o2⟩
    obtain ⟨A, B, C⟩ := unhide HW w2 o2
    have HO2 := hide ((unhide HO).trans o2 (fun _ _ e => e))
    clear o2 a0 a1 a2 b0 b1 b2 b3 c0 c1 c2 c3
    have a0 := A.cell 0
    have a1 := A.cell 1
    have a2 := A.cell 2
    have c0 := C.cell 0
    have c1 := C.cell 1
    have c2 := C.cell 2
    have c3 := C.cell 3
    simp at a0 a1 a2 c0 c1 c2 c3
    clear A B C
    by_cases h0 : y < 0
    · have d : decide (y < 0) = true := decide_eq_true h0
      have HD := hide (show false = R from by rw [← unhide HR]; unfold inB bndOf belowB; simp only [if_true]; rw [unhide HY, d]; rfl)
      clear h0
      go_wp2_with fail
      go_ret
      exact ⟨by rw [← unhide HD]; rfl, unhide HO2⟩
    · have d : decide (y < 0) = false := decide_eq_false h0
      clear h0
      cases hh with
      | false =>
        have HD := hide (show true = R from by rw [← unhide HR]; unfold inB bndOf belowB aboveB; simp only [if_true, Bool.false_eq_true, if_false]; rw [unhide HY, d]; rfl)
        go_wp2_with fail
        go_ret
        exact ⟨by rw [← unhide HD]; rfl, unhide HO2⟩
      | true =>
        have CC := unhide HC v hv w2
        unfold vlA at CC
        have CC := hide CC
        obtain ⟨z, hz⟩ : ∃ z, vcmp v hv = z := ⟨_, rfl⟩
        have HZ := hide hz
        rw [hz] at CC
        clear hz
        go_wp2_with fail
        refine (unhide CC).mono ?_
        rintro e w3 ⟨rfl, o3⟩
        have HO3 := hide ((unhide HO2).trans o3 (fun _ _ e => e))
        clear o3
        by_cases h0 : z > 0
        · have dd : decide (z > 0) = true := decide_eq_true h0
          have dd' : decide (0 < z) = true := decide_eq_true h0
          have HD := hide (show false = R from by rw [← unhide HR]; unfold inB bndOf belowB aboveB; simp only [if_true]; rw [unhide HY, unhide HZ, d, dd]; rfl)
          clear h0
          go_wp2_with fail
          go_ret
          exact ⟨by rw [← unhide HD]; rfl, unhide HO3⟩
        · have dd : decide (z > 0) = false := decide_eq_false h0
          have dd' : decide (0 < z) = false := decide_eq_false h0
          have HD := hide (show true = R from by rw [← unhide HR]; unfold inB bndOf belowB aboveB; simp only [if_true]; rw [unhide HY, unhide HZ, d, dd]; rfl)
          clear h0
          go_wp2_with fail
          go_ret
          exact ⟨by rw [← unhide HD]; rfl, unhide HO3⟩
/-- Row a stands ahead of row b by (column c, key pk). -/
def ahdP (a b : List Vl) (c pk : Int) : Bool := if vcmp (atV a c) (atV b c) ≠ 0 then decide (vcmp (atV a c) (atV b c) < 0) else decide (vcmp (atV a pk) (atV b pk) < 0)
section
variable {w : World}
set_option maxRecDepth 100000 in
set_option maxHeartbeats 4000000 in
theorem xahead_any {va vb : Value} {a b : List Vl} (HA : OwnV w va a) (HB : OwnV w vb b) (c pk : Int) : Calls Tryz.prog 261 #[va, vb, .int .i64 c, .int .i64 pk] w fun e w' => e = .returned (.bool (ahdP a b c pk)) ∧ Only (fun _ => False) w w' := by
  have C1 := xat_any HA c
  have KA := hide HA
  have KB := hide HB
  obtain ⟨R, hR⟩ : ∃ B : Bool, ahdP a b c pk = B := ⟨_, rfl⟩
  rw [hR]
  unfold ahdP at hR
  obtain ⟨x, hx⟩ : ∃ x, atV a c = x := ⟨_, rfl⟩
  obtain ⟨y, hy⟩ : ∃ y, atV b c = y := ⟨_, rfl⟩
  obtain ⟨x2, hx2⟩ : ∃ x, atV a pk = x := ⟨_, rfl⟩
  obtain ⟨y2, hy2⟩ : ∃ y, atV b pk = y := ⟨_, rfl⟩
  rw [hx, hy, hx2, hy2] at hR
  rw [hx] at C1
  unfold vlA at C1
  have C1 := hide C1
  have HR := hide hR
  have Hx := hide (And.intro hx (And.intro hy (And.intro hx2 hy2)))
  clear HA HB hx hy hx2 hy2 hR
  go_enter Tryz.func261, Tryz.ntmps261
  go_wp2_with fail
  refine (unhide C1).mono ?_
  rintro e w1 ⟨rfl, o1⟩
  have o2 : Only (fun _ => False) w1 (w1.alloc (.cells #[.bool x.str, .int .i64 x.i, .string x.s] 152)) := (Only.refl _ w1).alloc _
  have N2 := Has.new w1 #[.bool x.str, .int .i64 x.i, .string x.s] 152
  have oA := o1.trans o2 (fun _ _ h => h)
  have C2 := xat_any ((unhide KB).keep oA (fun _ _ h => h)) c
  rw [(unhide Hx).2.1] at C2
  unfold vlA at C2
  have C2 := hide C2
  have HO := hide oA
  have HN := hide N2
  have hw1 : w.heap.size ≤ w1.heap.size := o1.size
  clear C1 o1 o2 oA N2
  go_upto_region 2 with fail
  generalize w1.alloc (.cells #[.bool x.str, .int .i64 x.i, .string x.s] 152) = W2 at *
  generalize hb1 : w1.heap.size = b1 at *
  clear hb1
  go_wp2_with fail
  refine (unhide C2).mono ?_
  rintro e w3 ⟨rfl, o3⟩
  have o4 : Only (fun _ => False) w3 (w3.alloc (.cells #[.bool y.str, .int .i64 y.i, .string y.s] 152)) := (Only.refl _ w3).alloc _
  have N4 := Has.new w3 #[.bool y.str, .int .i64 y.i, .string y.s] 152
  have N5 := (unhide HN).keep (o3.trans o4 (fun _ _ h => h)) (fun h => h)
  have hlt := ((unhide HN).keep o3 (fun h => h)).lt
  have oB := (unhide HO).trans (o3.trans o4 (fun _ _ h => h)) (fun _ _ h => h)
  have HO2 := hide oB
  have HN4 := hide N4
  have HN5 := hide N5
  have C3 := ecmp_any x y (w3.alloc (.cells #[.bool y.str, .int .i64 y.i, .string y.s] 152))
  obtain ⟨z, hz⟩ : ∃ z, vcmp x y = z := ⟨_, rfl⟩
  rw [hz] at C3
  unfold vlA at C3
  have C3 := hide C3
  have HZ := hide hz
  clear C2 o3 o4 N4 N5 oB HO HN hz
  go_upto_region 3 with fail
  generalize w3.alloc (.cells #[.bool y.str, .int .i64 y.i, .string y.s] 152) = W4 at *
  generalize hb2 : w3.heap.size = b2 at *
  clear hb2
  have p0 : W4.cell? ⟨b1, 0, none⟩ = some (.bool x.str) := (unhide HN5).cell 0
  have p1 : W4.cell? ⟨b1, 1, none⟩ = some (.int .i64 x.i) := (unhide HN5).cell 1
  have p2 : W4.cell? ⟨b1, 2, none⟩ = some (.string x.s) := (unhide HN5).cell 2
  have r0 : W4.cell? ⟨b2, 0, none⟩ = some (.bool y.str) := (unhide HN4).cell 0
  have r1 : W4.cell? ⟨b2, 1, none⟩ = some (.int .i64 y.i) := (unhide HN4).cell 1
  have r2 : W4.cell? ⟨b2, 2, none⟩ = some (.string y.s) := (unhide HN4).cell 2
  go_wp2_with fail
  refine (unhide C3).mono ?_
  rintro e w5 ⟨rfl, o5⟩
  have HO5 := hide ((unhide HO2).trans o5 (fun _ _ h => h))
  have HM5 := hide ((unhide HN5).keep o5 (fun h => h))
  have HM4 := hide ((unhide HN4).keep o5 (fun h => h))
  clear C3 o5 p0 p1 p2 r0 r1 r2 HN5 HN4 HO2
  by_cases h0 : z = 0
  · subst h0
    have hR2 : decide (vcmp x2 y2 < 0) = R := by
      have := unhide HR
      rw [unhide HZ, if_neg (by simp)] at this
      exact this
    have HR2 := hide hR2
    have C4 := xat_any ((unhide KA).keep (unhide HO5) (fun _ _ h => h)) pk
    rw [(unhide Hx).2.2.1] at C4
    unfold vlA at C4
    have C4 := hide C4
    clear hR2 HR HZ
    go_wp2_with fail
    refine (unhide C4).mono ?_
    rintro e w6 ⟨rfl, o6⟩
    have M5 := (unhide HM5).keep o6 (fun h => h)
    have M4 := (unhide HM4).keep o6 (fun h => h)
    have O6 := (unhide HO5).trans o6 (fun _ _ h => h)
    have q0 : w6.cell? ⟨b1, 0, none⟩ = some (.bool x.str) := M5.cell 0
    have q1 : w6.cell? ⟨b1, 1, none⟩ = some (.int .i64 x.i) := M5.cell 1
    have q2 : w6.cell? ⟨b1, 2, none⟩ = some (.string x.s) := M5.cell 2
    have z0 := M5.free 0
    have z1 := M5.free 1
    have z2 := M5.free 2
    have ql := M5.lt
    have oS : Only (fun y => y = b1) w6 (((w6.setCell ⟨b1, 0, none⟩ (.bool x2.str)).setCell ⟨b1, 1, none⟩ (.int .i64 x2.i)).setCell ⟨b1, 2, none⟩ (.string x2.s)) := ((only1 _ _).trans (only1 _ _) (fun _ _ h => h)).trans (only1 _ _) (fun _ _ h => h)
    have M6 : Has (((w6.setCell ⟨b1, 0, none⟩ (.bool x2.str)).setCell ⟨b1, 1, none⟩ (.int .i64 x2.i)).setCell ⟨b1, 2, none⟩ (.string x2.s)) b1 #[.bool x2.str, .int .i64 x2.i, .string x2.s] 152 := ((M5.setCell 0 (.bool x2.str)).setCell 1 (.int .i64 x2.i)).setCell 2 (.string x2.s)
    have M7 := M4.keep oS (fun e => by have e' : b2 = b1 := e; omega)
    have O7 : Only (fun _ => False) w (((w6.setCell ⟨b1, 0, none⟩ (.bool x2.str)).setCell ⟨b1, 1, none⟩ (.int .i64 x2.i)).setCell ⟨b1, 2, none⟩ (.string x2.s)) := O6.trans oS (fun y hy e => by have e' : y = b1 := e; omega)
    have C5 := xat_any ((unhide KB).keep O7 (fun _ _ h => h)) pk
    rw [(unhide Hx).2.2.2] at C5
    unfold vlA at C5
    have C5 := hide C5
    have HO7 := hide O7
    have HM6 := hide M6
    have HM7 := hide M7
    clear C4 o6 M5 M4 O6 oS M6 M7 O7 HM5 HM4 HO5
    go_upto_region 7 with fail
    generalize ((w6.setCell ⟨b1, 0, none⟩ (.bool x2.str)).setCell ⟨b1, 1, none⟩ (.int .i64 x2.i)).setCell ⟨b1, 2, none⟩ (.string x2.s) = W7 at *
    clear q0 q1 q2 z0 z1 z2 ql
    go_wp2_with fail
    refine (unhide C5).mono ?_
    rintro e w8 ⟨rfl, o8⟩
    have M5 := (unhide HM6).keep o8 (fun h => h)
    have M4 := (unhide HM7).keep o8 (fun h => h)
    have O8 := (unhide HO7).trans o8 (fun _ _ h => h)
    have q0 : w8.cell? ⟨b2, 0, none⟩ = some (.bool y.str) := M4.cell 0
    have q1 : w8.cell? ⟨b2, 1, none⟩ = some (.int .i64 y.i) := M4.cell 1
    have q2 : w8.cell? ⟨b2, 2, none⟩ = some (.string y.s) := M4.cell 2
    have z0 := M4.free 0
    have z1 := M4.free 1
    have z2 := M4.free 2
    have ql := M4.lt
    have oS : Only (fun y => y = b2) w8 (((w8.setCell ⟨b2, 0, none⟩ (.bool y2.str)).setCell ⟨b2, 1, none⟩ (.int .i64 y2.i)).setCell ⟨b2, 2, none⟩ (.string y2.s)) := ((only1 _ _).trans (only1 _ _) (fun _ _ h => h)).trans (only1 _ _) (fun _ _ h => h)
    have M6 : Has (((w8.setCell ⟨b2, 0, none⟩ (.bool y2.str)).setCell ⟨b2, 1, none⟩ (.int .i64 y2.i)).setCell ⟨b2, 2, none⟩ (.string y2.s)) b2 #[.bool y2.str, .int .i64 y2.i, .string y2.s] 152 := ((M4.setCell 0 (.bool y2.str)).setCell 1 (.int .i64 y2.i)).setCell 2 (.string y2.s)
    have M7 := M5.keep oS (fun e => by have e' : b1 = b2 := e; omega)
    have O9 : Only (fun _ => False) w (((w8.setCell ⟨b2, 0, none⟩ (.bool y2.str)).setCell ⟨b2, 1, none⟩ (.int .i64 y2.i)).setCell ⟨b2, 2, none⟩ (.string y2.s)) := O8.trans oS (fun y hy e => by have e' : y = b2 := e; omega)
    have C6 := ecmp_any x2 y2 (((w8.setCell ⟨b2, 0, none⟩ (.bool y2.str)).setCell ⟨b2, 1, none⟩ (.int .i64 y2.i)).setCell ⟨b2, 2, none⟩ (.string y2.s))
    obtain ⟨z, hz⟩ : ∃ z, vcmp x2 y2 = z := ⟨_, rfl⟩
    have hR2 := unhide HR2
    rw [hz] at C6 hR2
    unfold vlA at C6
    have C6 := hide C6
    have HO9 := hide O9
    have HM6 := hide M6
    have HM7 := hide M7
    clear C5 o8 M5 M4 O8 oS M6 M7 O9 HO7 HR2 hz
    go_upto_region 8 with fail
    generalize ((w8.setCell ⟨b2, 0, none⟩ (.bool y2.str)).setCell ⟨b2, 1, none⟩ (.int .i64 y2.i)).setCell ⟨b2, 2, none⟩ (.string y2.s) = W9 at *
    clear q0 q1 q2 z0 z1 z2 ql
    have p0 : W9.cell? ⟨b1, 0, none⟩ = some (.bool x2.str) := (unhide HM7).cell 0
    have p1 : W9.cell? ⟨b1, 1, none⟩ = some (.int .i64 x2.i) := (unhide HM7).cell 1
    have p2 : W9.cell? ⟨b1, 2, none⟩ = some (.string x2.s) := (unhide HM7).cell 2
    have r0 : W9.cell? ⟨b2, 0, none⟩ = some (.bool y2.str) := (unhide HM6).cell 0
    have r1 : W9.cell? ⟨b2, 1, none⟩ = some (.int .i64 y2.i) := (unhide HM6).cell 1
    have r2 : W9.cell? ⟨b2, 2, none⟩ = some (.string y2.s) := (unhide HM6).cell 2
    go_wp2_with fail
    refine (unhide C6).mono ?_
    rintro e wz ⟨rfl, oz⟩
    have HOz := hide ((unhide HO9).trans oz (fun _ _ h => h))
    clear C6 oz p0 p1 p2 r0 r1 r2
    go_wp2_with fail
    go_ret
    exact ⟨by first | rfl | rw [← hR2], unhide HOz⟩
  · have e0 : (z != 0) = true := by simpa using h0
    have hR2 : decide (z < 0) = R := by
      have := unhide HR
      rw [unhide HZ, if_pos h0] at this
      exact this
    clear h0 HR HZ
    go_wp2_with fail
    go_ret
    exact ⟨by first | rfl | rw [← hR2], unhide HO5⟩
end
/-- The store holds a row of the table under the key. -/
def blwP (D : Db) (tab : ByteArray) (key : Vl) : Bool := decide ((lkpD D tab key).2 = 0)
section
variable {q : Gnd} {w : World} {g x : Nat} {X : Xs} {op : Bool} {S : Vu} {T : List (Tb × Hd)}
set_option maxRecDepth 100000 in
set_option maxHeartbeats 4000000 in
theorem xbelow_any (H : XR q w g x X op S) (L : Lay S T) (tab : ByteArray) (key : Vl) (hkw : key.wf) : Calls Tryz.prog 226 #[.pointer (some ⟨g, 0, none⟩), .string tab, vlA key] w fun e w' => e = .returned (.bool (blwP (dbOf T) tab key)) ∧ XR q w' g x X op S ∧ Only q.S w w' := by
  have o0 : Only (fun _ => False) w (w.alloc (.cells #[.bool key.str, .int .i64 key.i, .string key.s] 152)) := (Only.refl _ w).alloc _
  have N0 := Has.new w #[.bool key.str, .int .i64 key.i, .string key.s] 152
  have H0 := H.quiet o0
  have HNK := hide (H.st.new (k := w.heap.size) (Nat.le_refl _))
  have HNG := hide (show ¬ q.S g from fun h => (H.off g (.inl rfl)).1 (Gnd.S_A h))
  have CL := elookup_any (H0.st.quiet ((Only.refl (fun _ => False) _).drew)) L tab key hkw
  unfold blwP
  obtain ⟨z, hz⟩ : ∃ z, (lkpD (dbOf T) tab key).2 = z := ⟨_, rfl⟩
  rw [hz] at CL ⊢
  obtain ⟨b, hb⟩ : ∃ b : Bool, decide (z = 0) = b := ⟨_, rfl⟩
  rw [hb]
  have hb2 : (z == 0) = b := by rw [← hb]; by_cases e : z = 0 <;> simp [e]
  clear hb
  unfold vlA at CL ⊢
  have CL := hide CL
  have HX := hide H0
  have HO := hide o0
  have c0 := H0.xm.has.c0
  have gl := H0.xm.has.lt
  have HN := hide N0
  clear H H0 o0 N0 hz
  go_enter Tryz.func226, Tryz.ntmps226
  go_upto_region 1 with fail
  generalize w.alloc (.cells #[.bool key.str, .int .i64 key.i, .string key.s] 152) = w0 at *
  generalize hkb : w.heap.size = kb at *
  have k0 : w0.cell? ⟨kb, 0, none⟩ = some (.bool key.str) := (unhide HN).cell 0
  have k1 : w0.cell? ⟨kb, 1, none⟩ = some (.int .i64 key.i) := (unhide HN).cell 1
  have k2 : w0.cell? ⟨kb, 2, none⟩ = some (.string key.s) := (unhide HN).cell 2
  refine wp_region_held_drew (S := (fun w' => w'.cell? ⟨g, 0, none⟩ = some (.pointer (some ⟨x, 0, none⟩)) ∧ w'.cell? ⟨kb, 0, none⟩ = some (.bool key.str) ∧ w'.cell? ⟨kb, 1, none⟩ = some (.int .i64 key.i) ∧ w'.cell? ⟨kb, 2, none⟩ = some (.string key.s))) (by kernel_rfl) ⟨c0, k0, k1, k2⟩ (fun hH0 => ?_)
  refine takeH 0 10 (v := ?va1) rfl rfl (by kernel_rfl) (by kernel_rfl) (by kernel_rfl) (fun _ _ _ h => h) (Or.inl ⟨by rfl, ?ha1⟩) hH0 ?ra1
  case ha1 => (intro w hSw; clear hSw; go_simp; (try with_reducible rfl))
  case ra1 =>
  try simp only [Act.put, List.setIfInBounds_toArray, List.set_cons_zero, List.set_cons_succ]
  refine takeH 1 11 (v := ?va2) rfl rfl (by kernel_rfl) (by kernel_rfl) (by kernel_rfl) (fun _ _ _ h => h) (Or.inl ⟨by rfl, ?ha2⟩) hH0 ?ra2
  case ha2 => (intro w hSw; clear hSw; go_simp; (try with_reducible rfl))
  case ra2 =>
  try simp only [Act.put, List.setIfInBounds_toArray, List.set_cons_zero, List.set_cons_succ]
  refine takeH 2 12 (v := ?va3) rfl rfl (by kernel_rfl) (by kernel_rfl) (by kernel_rfl) (fun _ _ _ h => h) (Or.inl ⟨by rfl, ?ha3⟩) hH0 ?ra3
  case ha3 => (intro w hSw; clear hSw; go_simp; (try with_reducible rfl))
  case ra3 =>
  try simp only [Act.put, List.setIfInBounds_toArray, List.set_cons_zero, List.set_cons_succ]
  refine takeH 3 13 (v := ?va4) rfl rfl (by kernel_rfl) (by kernel_rfl) (by kernel_rfl) (fun _ _ _ h => h) (Or.inl ⟨by rfl, ?ha4⟩) hH0 ?ra4
  case ha4 => (intro w hSw; obtain ⟨s0, s1, s2, s3⟩ := hSw; go_simp; (try with_reducible rfl))
  case ra4 =>
  try simp only [Act.put, List.setIfInBounds_toArray, List.set_cons_zero, List.set_cons_succ]
  refine takeH 4 14 (v := ?va5) rfl rfl (by kernel_rfl) (by kernel_rfl) (by kernel_rfl) (fun _ _ _ h => h) (Or.inl ⟨by rfl, ?ha5⟩) hH0 ?ra5
  case ha5 => (intro w hSw; clear hSw; go_simp; (try with_reducible rfl))
  case ra5 =>
  try simp only [Act.put, List.setIfInBounds_toArray, List.set_cons_zero, List.set_cons_succ]
  refine takeH 5 15 (v := ?va6) rfl rfl (by kernel_rfl) (by kernel_rfl) (by kernel_rfl) (fun _ _ _ h => h) (Or.inl ⟨by rfl, ?ha6⟩) hH0 ?ra6
  case ha6 => (intro w hSw; obtain ⟨s0, s1, s2, s3⟩ := hSw; go_simp; (try with_reducible rfl))
  case ra6 =>
  try simp only [Act.put, List.setIfInBounds_toArray, List.set_cons_zero, List.set_cons_succ]
  refine callH 6 (by kernel_rfl) rfl 16 rfl rfl 297 Tryz.func297 (by kernel_rfl) (by kernel_rfl) #[.tmp 13, .tmp 14, .tmp 15] #[67, 9, 152] rfl #[.pointer (some ⟨x, 0, none⟩), .string tab, .agg #[.bool key.str, .int .i64 key.i, .string key.s]] (by simp [Act.eval]) (R := fun v w' => ∃ u, v = .tuple #[u, .int .i64 z] ∧ ST q w' x op S ∧ Only q.S w0.drew w') ((unhide CL).mono (by rintro en w' ⟨u, rfl, _, _, hs, o⟩; exact ⟨_, rfl, u, rfl, hs, o⟩)) ?ka
  case ka =>
  rintro _ w6 ⟨u, rfl, hs, oq⟩
  have S6 : w6.cell? ⟨g, 0, none⟩ = some (.pointer (some ⟨x, 0, none⟩)) ∧ w6.cell? ⟨kb, 0, none⟩ = some (.bool key.str) ∧ w6.cell? ⟨kb, 1, none⟩ = some (.int .i64 key.i) ∧ w6.cell? ⟨kb, 2, none⟩ = some (.string key.s) := ⟨cell_keepX (hH0.1) oq (unhide HNG), cell_keepX (hH0.2.1) oq (unhide HNK), cell_keepX (hH0.2.2.1) oq (unhide HNK), cell_keepX (hH0.2.2.2) oq (unhide HNK)⟩
  refine ⟨S6, ?_⟩
  try simp only [Act.put, List.setIfInBounds_toArray, List.set_cons_zero, List.set_cons_succ]
  refine takeH 7 9 (v := ?va7) rfl rfl (by kernel_rfl) (by kernel_rfl) (by kernel_rfl) (fun _ _ _ h => h) (Or.inl ⟨by rfl, ?ha7⟩) S6 ?ra7
  case ha7 => (intro w hSw; clear hSw; go_simp; (try with_reducible rfl))
  case ra7 =>
  try simp only [Act.put, List.setIfInBounds_toArray, List.set_cons_zero, List.set_cons_succ]
  refine takeH 8 17 (v := ?va8) rfl rfl (by kernel_rfl) (by kernel_rfl) (by kernel_rfl) (fun _ _ _ h => h) (Or.inl ⟨by rfl, ?ha8⟩) S6 ?ra8
  case ha8 => (intro w hSw; clear hSw; go_simp; (try with_reducible rfl))
  case ra8 =>
  try simp only [Act.put, List.setIfInBounds_toArray, List.set_cons_zero, List.set_cons_succ]
  refine takeH 9 18 (v := ?va9) rfl rfl (by kernel_rfl) (by kernel_rfl) (by kernel_rfl) (fun _ _ _ h => h) (Or.inl ⟨by rfl, ?ha9⟩) S6 ?ra9
  case ha9 => (intro w hSw; clear hSw; go_simp; (try with_reducible rfl))
  case ra9 =>
  try simp only [Act.put, List.setIfInBounds_toArray, List.set_cons_zero, List.set_cons_succ]
  refine takeH 10 7 (v := ?va10) rfl rfl (by kernel_rfl) (by kernel_rfl) (by kernel_rfl) (fun _ _ _ h => h) (Or.inl ⟨by rfl, ?ha10⟩) S6 ?ra10
  case ha10 => (intro w hSw; clear hSw; go_simp; (try with_reducible rfl))
  case ra10 =>
  try simp only [Act.put, List.setIfInBounds_toArray, List.set_cons_zero, List.set_cons_succ]
  refine takeH 11 8 (v := ?va11) rfl rfl (by kernel_rfl) (by kernel_rfl) (by kernel_rfl) (fun _ _ _ h => h) (Or.inl ⟨by rfl, ?ha11⟩) S6 ?ra11
  case ha11 => (intro w hSw; clear hSw; go_simp; (try with_reducible rfl))
  case ra11 =>
  try simp only [Act.put, List.setIfInBounds_toArray, List.set_cons_zero, List.set_cons_succ]
  refine wpAnyH_done (by kernel_rfl) ?_ _
  have HF := hide (And.intro hs ((((Only.refl (fun _ => False) w0).drew).mono (fun _ _ e => e.elim)).trans oq (fun _ _ e => e) : Only q.S w0 w6))
  clear hH0 S6 oq
  have FF := hide (And.intro ((unhide HX).turn (unhide HF).1 (unhide HF).2) ((((unhide HO).mono (T := q.S) (fun _ _ h => h.elim)).trans (unhide HF).2 (fun _ _ h => h))))
  clear hs
  go_wp2_with fail
  go_ret
  exact ⟨by first | rfl | rw [hb2], unhide FF⟩
end
end Go.Proofs.Qxb6500412aGreat
