/-
  OWN WORK. THE TABLE LAW's MODEL: Scan (written by tools/gen_mm15.py).
-/
import Derived.Test.Qxb6500412aGreatMM15
import Derived.BigQuiet
import Derived.Deep.DeepCutAuto
namespace Go.Proofs.Qxb6500412aGreat
open Go.RowKit Go.PlainAid
set_option linter.unusedSimpArgs false
set_option linter.unusedVariables false

section
variable {w : World} {dk o : Nat} {v : Value} {l : List GE} {D : Db} {t : Tb} {nm : ByteArray}
set_option maxRecDepth 100000 in
set_option maxHeartbeats 8000000 in
theorem mscan_01 (M : MDb w dk o v l D) (hf : findD D nm = some t) (c : Nat) (lv hv : Vl) (hlw : lv.wf) (hhw : hv.wf) (cl : Cl) (hcl : t.cols[c]? = some cl) (hcx : c = t.pk ∨ t.ix = some c) : Calls Tryz.prog 331 #[.pointer (some ⟨dk, o, none⟩), .string nm, .int .i64 c, bdA false lv, bdA true hv] w (FrS w (scnD D nm (c : Int) (bndOf false lv) (bndOf true hv)).1 (scnD D nm (c : Int) (bndOf false lv) (bndOf true hv)).2) := by
  obtain ⟨RR, zz, hS⟩ : ∃ RR zz, scnD D nm (c : Int) (bndOf false lv) (bndOf true hv) = (RR, zz) := ⟨_, _, rfl⟩
  rw [hS]
  have HS := hide (show (∀ z : Int, z ≠ 0 → scnE t (c : Int) (bndOf false lv) (bndOf true hv) = z → RR = [] ∧ zz = z) ∧ (scnE t (c : Int) (bndOf false lv) (bndOf true hv) = 0 → RR = scnL t c (bndOf false lv) (bndOf true hv) ∧ zz = 0) from by
    unfold scnD at hS
    rw [hf] at hS
    refine ⟨fun z hz e => ?_, fun e => ?_⟩
    · simp only [e, if_neg hz] at hS
      cases hS
      exact ⟨rfl, rfl⟩
    · simp only [e, if_true, Int.toNat_natCast] at hS
      cases hS
      exact ⟨rfl, rfl⟩)
  have HF := hide hf
  have hcn := (List.getElem?_eq_some_iff.mp hcl).1
  have HCL := hide (And.intro hcl (And.intro hcx (And.intro hlw hhw)))
  clear hf hS hcl hcx hlw hhw
  have o0 : Only (fun _ => False) w ((w.alloc (.cells #[.bool false, .bool lv.str, .int .i64 lv.i, .string lv.s] 244)).alloc (.cells #[.bool true, .bool hv.str, .int .i64 hv.i, .string hv.s] 244)) := ((Only.refl _ w).alloc _).alloc _
  have KL : Has ((w.alloc (.cells #[.bool false, .bool lv.str, .int .i64 lv.i, .string lv.s] 244)).alloc (.cells #[.bool true, .bool hv.str, .int .i64 hv.i, .string hv.s] 244)) w.heap.size #[.bool false, .bool lv.str, .int .i64 lv.i, .string lv.s] 244 := (Has.new w _ _).alloc _
  have KH : Has ((w.alloc (.cells #[.bool false, .bool lv.str, .int .i64 lv.i, .string lv.s] 244)).alloc (.cells #[.bool true, .bool hv.str, .int .i64 hv.i, .string hv.s] 244)) (w.heap.size + 1) #[.bool true, .bool hv.str, .int .i64 hv.i, .string hv.s] 244 := Has.new' _ _ _ _ (by simp)
  have M0 := M.quiet o0
  have CF := hide (mfind_any M0.c0 M0.ml nm)
  have c0 := M0.c0
  have HM := hide (And.intro M0 (And.intro KL (And.intro KH o0)))
  clear M M0 KL KH o0
  unfold bdA
  go_enter Tryz.func331, Tryz.ntmps331
  go_upto_region 1 with fail
  generalize (w.alloc (.cells #[.bool false, .bool lv.str, .int .i64 lv.i, .string lv.s] 244)).alloc (.cells #[.bool true, .bool hv.str, .int .i64 hv.i, .string hv.s] 244) = w0 at *
  have hsz := (unhide HM).2.2.1.lt
  have hs0 := (unhide HM).2.2.2.size
  generalize hkb : w.heap.size = kb at *
  go_wp2_with fail
  refine (unhide CF).mono ?_
  rintro x w2 ⟨r, rfl, hr, rfl⟩
  clear CF
  have r0 : ¬ r < 0 := fun h => by
    have := hr.mno (unhide HM).1.tt (unhide HM).1.ok h
    rw [unhide HF] at this
    cases this
  have dr : decide (r < 0) = false := decide_eq_false r0
  obtain ⟨i, e, rfl, hi, hn, hfe, hm⟩ := hr.myes (unhide HM).1.tt (unhide HM).1.ok (by omega)
  have het : e.t = t := by rw [unhide HF] at hfe; exact (Option.some.inj hfe).symm
  obtain ⟨b, cap, hvx, P, E⟩ := (unhide HM).1.ml.pt hi
  have il : (i : Int) < (l.length : Int) := by have := (List.getElem?_eq_some_iff.mp hi).1; omega
  have h3 := (unhide HM).1.ml.len
  rw [hvx] at c0
  have p1 := P.c1
  have p2 := P.c2
  have p3 := P.c3
  have tok := (unhide HM).1.ok.tb e.t hm
  obtain ⟨ca, cc, hcc⟩ := E.col.shape
  rw [hcc] at p1
  rw [het] at p1 p2 p3 tok
  obtain ⟨ln, hln⟩ : ∃ ln, l.length = ln := ⟨_, rfl⟩
  rw [hln] at il h3 c0
  have HE := hide (And.intro P (And.intro E (And.intro het (And.intro tok hcc))))
  clear hr r0 hi hn hfe hm hvx P E tok hcc hln het
  have KL := (unhide HM).2.1
  have KH := (unhide HM).2.2.1
  have l0 := KL.cell 0
  have m0 := KH.cell 0
  have l1 := KL.cell 1
  have m1 := KH.cell 1
  have l2 := KL.cell 2
  have m2 := KH.cell 2
  have l3 := KL.cell 3
  have m3 := KH.cell 3
  simp at l0 l1 l2 l3 m0 m1 m2 m3
  clear KL KH
  have d1 : decide ((c : Int) < 0) = false := decide_eq_false (by omega)
  have d2 : decide ((c : Int) ≥ (t.cols.length : Int)) = false := decide_eq_false (by omega)
  have d2' : decide ((t.cols.length : Int) ≤ (c : Int)) = false := decide_eq_false (by omega)
  have d2n : decide (t.cols.length ≤ c) = false := decide_eq_false (by omega)
  have d0p : (c : Int) < (t.cols.length : Int) := by omega
  obtain ⟨gc, cc2, hce, q0, q1⟩ := getc_at (unhide HE).2.1.col (show e.t.cols[c]? = some cl by rw [(unhide HE).2.2.1]; exact (unhide HCL).1)
  rw [(unhide HE).2.2.2.2] at hce
  simp only [Value.slice.injEq] at hce
  obtain ⟨rfl, _, rfl⟩ := hce
  obtain ⟨tn, htn⟩ : ∃ tn, t.cols.length = tn := ⟨_, rfl⟩
  rw [htn] at p1 d2 d2' d2n d0p
  clear htn
  have HX7 := hide (show ((c : Int) != (t.pk : Int)) = false ∨ (((c : Int) != (t.pk : Int)) = true ∧ ((c : Int) != ixI t.ix) = false) from by
    rcases (unhide HCL).2.1 with h | h
    · exact .inl (by rw [h]; simp)
    · by_cases e : c = t.pk
      · exact .inl (by rw [e]; simp)
      · exact .inr ⟨by simp; omega, by rw [h]; simp [ixI]⟩)
  obtain ⟨pk, hpk⟩ : ∃ pk, t.pk = pk := ⟨_, rfl⟩
  rw [hpk] at p2 HX7
  obtain ⟨ix, hix⟩ : ∃ ix, ixI t.ix = ix := ⟨_, rfl⟩
  rw [hix] at p3 HX7
  clear hpk hix
  go_upto_region 7 with fail
  go_cut [56] (fun zv wx => zv = .bool false ∧ w0 = wx)
  case first =>
    rcases unhide HX7 with d3 | ⟨d3, d4⟩
    · clear HX7
      go_wp2_with fail
      go_meet
      exact ⟨rfl, rfl⟩
    · clear HX7
      go_wp2_with fail
      go_meet
      exact ⟨rfl, rfl⟩
  case rest =>
  obtain ⟨rfl, rfl⟩ := hcut
  clear HX7 p2 p3
  by_cases th : hv.str = cl.2
  rotate_left
  · have eh : (hv.str != cl.2) = true := by simpa using th
    have eh' : (!(hv.str == cl.2)) = true := by simpa using th
    obtain ⟨x1, x2⟩ := (unhide HS).1 15 (by decide) (by unfold scnE bndOf; rw [if_neg (by have := hcn; omega), if_neg (by rintro ⟨e1, e2⟩; rcases (unhide HCL).2.1 with h | h; (exact e1 (by rw [h])); (rw [h] at e2; exact e2 rfl)), Int.toNat_natCast, (unhide HCL).1]; simp only [Option.getD_some]; simp [bndT, bndS, th])
    subst x1 x2
    clear th
    go_upto_region 9 with fail
    go_quiet (fail)
    go_wp2_with fail
    go_ret2
    exact FrS.none ((unhide HM).2.2.2.trans (onlyQ _ _) (fun _ _ e => e))
  have eh : (hv.str != cl.2) = false := by rw [th]; simp
  have eh' : (!(hv.str == cl.2)) = false := by rw [th]; simp
  have HTh := hide th
  clear th
  go_upto_region 9 with fail
  go_cut [92] (fun zv wx => zv = .bool false ∧ Only (fun _ => False) w0 wx)
  case first =>
    go_quiet (fail)
    go_wp2_with fail
    go_meet
    exact ⟨rfl, onlyQ _ _⟩
  case rest =>
  obtain ⟨rfl, o3⟩ := hcut
  generalize wc = w3 at *
  clear l0 l1 l2 l3 m0 m1 m2 m3 q0 q1 p1 c0 eh eh'
  have HW3 := hide (And.intro ((unhide HM).2.2.2.trans o3 (fun _ _ e => e)) (And.intro ((unhide HM).2.1.keep o3 (fun e => e)) (And.intro ((unhide HM).2.2.1.keep o3 (fun e => e)) (And.intro ((unhide HE).1.keep o3 (fun e => e)) ((unhide HE).2.1.keep o3 (fun _ _ e => e) (fun _ _ e => e))))))
  clear o3
  have KL := (unhide HW3).2.1
  have KH := (unhide HW3).2.2.1
  have l0 := KL.cell 0
  have m0 := KH.cell 0
  have l1 := KL.cell 1
  have m1 := KH.cell 1
  have l2 := KL.cell 2
  have m2 := KH.cell 2
  have l3 := KL.cell 3
  have m3 := KH.cell 3
  simp at l0 l1 l2 l3 m0 m1 m2 m3
  clear KL KH
  by_cases sh : hv.s.size ≤ 7
  rotate_left
  · have rh : decide ((hv.s.size : Int) > 7) = true := decide_eq_true (by omega)
    have rh' : decide (7 < (hv.s.size : Int)) = true := decide_eq_true (by omega)
    have rhn : decide (7 < hv.s.size) = true := decide_eq_true (by omega)
    obtain ⟨x1, x2⟩ := (unhide HS).1 16 (by decide) (by unfold scnE bndOf; rw [if_neg (by have := hcn; omega), if_neg (by rintro ⟨e1, e2⟩; rcases (unhide HCL).2.1 with h | h; (exact e1 (by rw [h])); (rw [h] at e2; exact e2 rfl)), Int.toNat_natCast, (unhide HCL).1]; simp only [Option.getD_some]; simp [bndT, bndS, unhide HTh, sh])
    subst x1 x2
    clear sh
    go_wp2_with fail
    go_ret2
    exact FrS.none (unhide HW3).1
  have rh : decide ((hv.s.size : Int) > 7) = false := decide_eq_false (by omega)
  have rh' : decide (7 < (hv.s.size : Int)) = false := decide_eq_false (by omega)
  have rhn : decide (7 < hv.s.size) = false := decide_eq_false (by omega)
  have HSh := hide sh
  clear sh
  obtain ⟨x1, x2⟩ := (unhide HS).2 (by unfold scnE bndOf; rw [if_neg (by have := hcn; omega), if_neg (by rintro ⟨e1, e2⟩; rcases (unhide HCL).2.1 with h | h; (exact e1 (by rw [h])); (rw [h] at e2; exact e2 rfl)), Int.toNat_natCast, (unhide HCL).1]; simp only [Option.getD_some]; simp [bndT, bndS, unhide HTh, unhide HSh])
  subst x1 x2
  have h8 := (unhide HE).2.2.2.1.len
  obtain ⟨n, hN⟩ : ∃ n, t.rows.length = n := ⟨_, rfl⟩
  rw [hN] at h8
  have HN := hide hN
  clear hN
  obtain ⟨ra, rc, hrv⟩ := (unhide HE).2.1.rshape
  rw [(unhide HE).2.2.1, unhide HN] at hrv
  have HRV := hide hrv
  clear hrv
  obtain ⟨i0, hi0, hz0, hz1, hz2⟩ := info_parts Tryz.infoEVals
  go_upto_region 15 with fail
  clear l0 l1 l2 l3 m0 m1 m2 m3 rh rh' rhn
  go_loopw [14, 15, 16, 17] (fun ov jv xv yv wr => ∃ j m : Nat, jv = .int .i64 j ∧ j ≤ n ∧ ScI w3 t c (bndOf false lv) (bndOf true hv) j ov m wr) (fun _ jv _ _ _ => n - (intOf jv).toNat)
  case atStart => exact ⟨0, 0, rfl, Nat.zero_le _, ScI.start _ _ _ _ _ _ (Only.refl _ _)⟩
  case round =>
    obtain ⟨j, m, rfl, hj, I⟩ := hrel
    have m8 := I.le (by rw [unhide HN]; exact h8)
    obtain ⟨cs0, hown0, _⟩ := I.own (Only.refl _ _)
    obtain ⟨oa, oc, hos⟩ := ownsRow_shape hown0
    subst hos
    clear hown0
    have HI := hide (And.intro I I.ho)
    clear I
    have P4 := (unhide HW3).2.2.2.1.keep (unhide HI).2 (fun e => e)
    have p4 := P4.c4
    rw [unhide HRV] at p4
    clear P4
    by_cases hj2 : j < n
    · have a1 : decide ((j : Int) < (n : Int)) = true := decide_eq_true (by omega)
      have a1p : (j : Int) < (n : Int) := by omega
      obtain ⟨r, hr⟩ := getE (l := t.rows) (i := j) (by rw [unhide HN]; exact hj2)
      obtain ⟨g, u, cap5, he, _, cu, OU⟩ := ((unhide HW3).2.2.2.2.keep (unhide HI).2 (fun _ _ e => e) (fun _ _ e => e)).at_ (show e.t.rows[j]? = some r by rw [(unhide HE).2.2.1]; exact hr)
      rw [unhide HRV, (unhide HE).2.2.1, unhide HN] at he
      simp only [Value.slice.injEq] at he
      obtain ⟨rfl, _, rfl⟩ := he
      have hrl : r.length = t.cols.length := ((unhide HE).2.2.2.1.row r (List.mem_of_getElem? hr)).len
      obtain ⟨y, hy⟩ := getE (l := r) (i := c) (by omega)
      have hky : kyR c r = y := by unfold kyR; rw [hy]; rfl
      obtain ⟨g1, k1, hue, e0, e1, e2⟩ := getv_at OU hy
      have xl : (c : Int) < (r.length : Int) := by omega
      have hr100 : r.length ≤ 1000 := by have := (unhide HE).2.2.2.1.cols.1.2.1; omega
      have HRW := hide (And.intro hr (And.intro hky (And.intro OU (And.intro hue hr100))))
      rw [hue] at cu
      clear hr hy hky OU hue hr100
      obtain ⟨rn, hrn⟩ : ∃ rn, r.length = rn := ⟨_, rfl⟩
      rw [hrn] at cu xl
      have HRN := hide hrn
      clear hrn hrl
      have oB : Only (fun _ => False) wr (wr.alloc (.cells #[.bool y.str, .int .i64 y.i, .string y.s] 152)) := (Only.refl _ _).alloc _
      have Bx : Has (wr.alloc (.cells #[.bool y.str, .int .i64 y.i, .string y.s] 152)) wr.heap.size #[.bool y.str, .int .i64 y.i, .string y.s] 152 := Has.new _ _ _
      have HB := hide (And.intro oB Bx)
      clear oB Bx
      go_upto_region 18 with fail
      generalize wr.alloc (.cells #[.bool y.str, .int .i64 y.i, .string y.s] 152) = w5 at *
      have hbl := (unhide HB).2.lt
      generalize hbx : wr.heap.size = bx at *
      have HI5 := hide (And.intro ((unhide HI).1.quiet (unhide HB).1) ((unhide HI).2.trans (unhide HB).1 (fun _ _ e => e)))
      have HB5 := hide (unhide HB).2
      have HRW := hide (And.intro (unhide HRW).1 (And.intro (unhide HRW).2.1 (And.intro ((unhide HRW).2.2.1.keep (unhide HB).1 (fun _ _ e => e)) (unhide HRW).2.2.2)))
      have HC5 := hide (And.intro (cell_keep p4 (unhide HB).1 (fun e => e)) (cell_keep cu (unhide HB).1 (fun e => e)))
      clear e0 e1 e2 cu p4 hbx HB HI
      have KL := (unhide HW3).2.1.keep (unhide HI5).2 (fun e => e)
      have KH := (unhide HW3).2.2.1.keep (unhide HI5).2 (fun e => e)
      have l0 := KL.cell 0
      have m0 := KH.cell 0
      have l1 := KL.cell 1
      have m1 := KH.cell 1
      have l2 := KL.cell 2
      have m2 := KH.cell 2
      have l3 := KL.cell 3
      have m3 := KH.cell 3
      simp at l0 l1 l2 l3 m0 m1 m2 m3
      clear KL KH
      have b0 := (unhide HB5).cell 0
      have b1 := (unhide HB5).cell 1
      have b2 := (unhide HB5).cell 2
      simp at b0 b1 b2
      have CC := ecmp_any y hv w5
      obtain ⟨z2, hz2⟩ : ∃ z2, vcmp y hv = z2 := ⟨_, rfl⟩
      rw [hz2] at CC
      unfold vlA at CC
      have CC := hide CC
      have HZh := hide hz2
      clear hz2
      go_wp2_with fail
      refine (unhide CC).mono ?_
      rintro e' w7 ⟨rfl, o6⟩
      have HI5 := hide (And.intro ((unhide HI5).1.quiet o6) ((unhide HI5).2.trans o6 (fun _ _ e => e)))
      have HB5 := hide ((unhide HB5).keep o6 (fun e => e))
      have HRW := hide (And.intro (unhide HRW).1 (And.intro (unhide HRW).2.1 (And.intro ((unhide HRW).2.2.1.keep o6 (fun _ _ e => e)) (unhide HRW).2.2.2)))
      have HC5 := hide (And.intro (cell_keep (unhide HC5).1 o6 (fun e => e)) (cell_keep (unhide HC5).2 o6 (fun e => e)))
      clear CC o6 l0 l1 l2 l3 m0 m1 m2 m3 b0 b1 b2
      have KL := (unhide HW3).2.1.keep (unhide HI5).2 (fun e => e)
      have KH := (unhide HW3).2.2.1.keep (unhide HI5).2 (fun e => e)
      have l0 := KL.cell 0
      have m0 := KH.cell 0
      have l1 := KL.cell 1
      have m1 := KH.cell 1
      have l2 := KL.cell 2
      have m2 := KH.cell 2
      have l3 := KL.cell 3
      have m3 := KH.cell 3
      simp at l0 l1 l2 l3 m0 m1 m2 m3
      clear KL KH
      have b0 := (unhide HB5).cell 0
      have b1 := (unhide HB5).cell 1
      have b2 := (unhide HB5).cell 2
      simp at b0 b1 b2
      by_cases b2c : z2 ≤ 0
      rotate_left
      · have f2 : decide (z2 ≤ 0) = false := decide_eq_false b2c
        have HQ := hide (show ScI w3 t c (bndOf false lv) (bndOf true hv) (j + 1) (.slice oa m oc) m w7 from (unhide HI5).1.skip (unhide HRW).1 (by rw [(unhide HRW).2.1]; unfold inB aboveB; rw [show bndOf true hv = some hv from rfl]; simp only []; rw [unhide HZh, decide_eq_true (show z2 > 0 by omega)]; simp))
        clear b2c l0 l1 l2 l3 m0 m1 m2 m3 b0 b1 b2
        go_wp2_with fail
        go_roundw
        case rel => exact ⟨j + 1, m, by go_num, by omega, unhide HQ⟩
        case measure => simp [intOf]; omega
      have f2 : decide (z2 ≤ 0) = true := decide_eq_true b2c
      have HZ2 := hide b2c
      clear b2c
      have HIN := hide (show inB (bndOf false lv) (bndOf true hv) (kyR c r) = true from by rw [(unhide HRW).2.1]; unfold inB belowB aboveB; rw [show bndOf false lv = none from rfl, show bndOf true hv = some hv from rfl]; simp only []; rw [unhide HZh, decide_eq_false (show ¬ z2 > 0 by have := unhide HZ2; omega)]; rfl)
      obtain ⟨p4, cu⟩ := unhide HC5
      have CC := mcloneRow_any (w := w7) (unhide HRW).2.2.1 (unhide HRW).2.2.2.2
      rw [(unhide HRW).2.2.2.1, unhide HRN] at CC
      have CC := hide CC
      go_wp2_with fail
      refine (unhide CC).mono ?_
      rintro x' w8 ⟨z, rfl, O8, hz, o8⟩
      obtain ⟨cs, own1, hK⟩ := (unhide HI5).1.own o8
      have hN8 : Newer w7 (.slice (some ⟨z, 0, none⟩) rn rn) := fun k hk => by
        simp [Value.ownBlock] at hk
        omega
      have HK := hide (fun (v' : Value) (w9 : World) (ob : Obj) h1 h2 h3 => hK (v' := v') (w9 := w9) (o := ob) (unhide HRW).1 (unhide HIN) O8 hN8 h1 h2 h3)
      clear CC p4 cu o8 hK O8 hN8 hz l0 l1 l2 l3 m0 m1 m2 m3 b0 b1 b2
      go_wp2_with (at_builtin; refine wpList_append2 _ rfl _ _ 50 rfl 95 i0 _ 1 24 Tryz.underlying50 hi0 hz0 hz1 hz2 rfl (by decide) _ _ _ rfl (own1.alloc _) ⟨w8.heap.size, 0, none⟩ 1 1 [.slice (some ⟨z, 0, none⟩) rn rn] rfl rfl ?c1 ?c2 ?c3 ?c4 ?_)
      case c1 => exact news_ok _ [.slice (some ⟨z, 0, none⟩) rn rn] 95 _ rfl
      case c2 => intro u hu; simp at hu; subst hu; rfl
      case c3 => unfold maxLen; omega
      case c4 => omega
      intro v' w9 hown hgrow hwhere
      have HQ := hide (unhide HK v' w9 _ hown hgrow hwhere)
      clear hown hgrow hwhere own1 HK
      go_wp2_with fail
      go_roundw
      case rel => exact ⟨j + 1, m + 1, by go_num, by omega, unhide HQ⟩
      case measure => simp [intOf]; omega
    · obtain rfl : j = n := by omega
      have a1 : decide ((j : Int) < (j : Int)) = false := by simp
      have IF := (unhide HI).1
      rw [← unhide HN] at IF
      have CS := hide (IF.sort (unhide HE).2.2.2.1 hcn)
      clear IF HI
      go_wp2_with fail
      refine (unhide CS).mono ?_
      rintro e' w9 ⟨rfl, HP⟩
      have HP := hide (HP.low (unhide HW3).1)
      clear CS p4
      go_wp2_with fail
      go_ret2
      exact unhide HP
end
end Go.Proofs.Qxb6500412aGreat
