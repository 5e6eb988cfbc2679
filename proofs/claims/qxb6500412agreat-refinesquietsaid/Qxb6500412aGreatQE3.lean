/-
  OWN WORK. QUERY's MODEL: check (written by tools/gen_qe2.py).
-/
import Derived.Test.Qxb6500412aGreatQE2
namespace Go.Proofs.Qxb6500412aGreat
open Go.RowKit Go.PlainAid
set_option linter.unusedSimpArgs false
set_option linter.unusedVariables false

section
variable {w w' : World} {ca : Option Addr} {cn cc : Nat} {cols : List Cl} {tn : ByteArray} {pk ix : Int} {lo : Nat} {S : Sq} {m : Ms}
set_option maxRecDepth 100000 in
set_option maxHeartbeats 16000000 in
theorem smcheck_upd (hC : OwnC w (.slice ca cn cc) cols) (hcl : cols.length ≤ 100) (hL : SML lo w S) (hO : SmOf S m) (hk : m.kind = 9) (h4 : m.names.length ≤ 1000) (h5 : m.vals.length ≤ 1000) (h7 : m.wh.length ≤ 1000) (hnv : m.vals.length = m.names.length) : Calls Tryz.prog 276 #[schU tn (.slice ca cn cc) pk ix, .agg (tabV 12 S.cell)] w fun e w' => e = .returned (.int .i64 (mchk cols pk m)) ∧ Only (fun _ => False) w w' := by
  unfold schU
  obtain ⟨a2, n2, c2, a4, n4, c4, a5, n5, c5, a7, n7, c7, hcs⟩ := hO.cells_ hL
  have x4 := hL.own 4 (by unfold smj; omega)
  have q4 : S.cell 4 = .slice a4 n4 c4 := by
    have := congrArg (·[4]?) hcs
    simpa [tabV_get] using this
  rw [q4, hO.x4.1, hO.x4.2] at x4
  have x5 := hL.own 5 (by unfold smj; omega)
  have q5 : S.cell 5 = .slice a5 n5 c5 := by
    have := congrArg (·[5]?) hcs
    simpa [tabV_get] using this
  rw [q5, hO.x5.1, hO.x5.2] at x5
  have x7 := hL.own 7 (by unfold smj; omega)
  have q7 : S.cell 7 = .slice a7 n7 c7 := by
    have := congrArg (·[7]?) hcs
    simpa [tabV_get] using this
  rw [q7, hO.x7.1, hO.x7.2] at x7
  rw [hcs]
  have x4 : w.ownsRow 0 9 1 (.slice a4 n4 c4) m.names.length (m.names.map Value.string) := x4
  have x5 : OwnV w (.slice a5 n5 c5) m.vals := x5
  have x7 : OwnSm w (.slice a7 n7 c7) m.wh := x7
  have e4 : n4 = m.names.length := by obtain ⟨_, _, e⟩ := ownsRow_shape x4; cases e; rfl
  have e5 : n5 = m.vals.length := by obtain ⟨_, _, e⟩ := x5.shape; cases e; rfl
  have e7 : n7 = m.wh.length := by obtain ⟨_, _, e⟩ := x7.shape; cases e; rfl
  subst e4 e5 e7
  rw [hk]
  have o0 : Only (fun _ => False) w (w.alloc (.cells #[.string tn, .slice ca cn cc, .int .i64 pk, .int .i64 ix] 79)) := (Only.refl _ w).alloc _
  have N0 := Has.new w #[.string tn, .slice ca cn cc, .int .i64 pk, .int .i64 ix] 79
  have o1 : Only (fun _ => False) (w.alloc (.cells #[.string tn, .slice ca cn cc, .int .i64 pk, .int .i64 ix] 79)) ((w.alloc (.cells #[.string tn, .slice ca cn cc, .int .i64 pk, .int .i64 ix] 79)).alloc (.cells #[.int .i64 9, .string m.table, .slice a2 n2 c2, .int .i64 m.pk, .slice a4 m.names.length c4, .slice a5 m.vals.length c5, .bool m.star, .slice a7 m.wh.length c7, .string m.order, .bool m.desc, .bool m.hasL, .int .i64 m.lim] 253)) := (Only.refl _ _).alloc _
  have N1 := Has.new (w.alloc (.cells #[.string tn, .slice ca cn cc, .int .i64 pk, .int .i64 ix] 79)) #[.int .i64 9, .string m.table, .slice a2 n2 c2, .int .i64 m.pk, .slice a4 m.names.length c4, .slice a5 m.vals.length c5, .bool m.star, .slice a7 m.wh.length c7, .string m.order, .bool m.desc, .bool m.hasL, .int .i64 m.lim] 253
  have sz : (w.alloc (.cells #[.string tn, .slice ca cn cc, .int .i64 pk, .int .i64 ix] 79)).heap.size = w.heap.size + 1 := by simp
  rw [sz] at N1
  have oA := o0.trans o1 (fun _ _ e => e)
  have HA := hide (show CkmI w w.heap.size #[.string tn, .slice ca cn cc, .int .i64 pk, .int .i64 ix] #[.int .i64 9, .string m.table, .slice a2 n2 c2, .int .i64 m.pk, .slice a4 m.names.length c4, .slice a5 m.vals.length c5, .bool m.star, .slice a7 m.wh.length c7, .string m.order, .bool m.desc, .bool m.hasL, .int .i64 m.lim] (.slice ca cn cc) cols (.slice a4 m.names.length c4) (.slice a5 m.vals.length c5) (.slice a7 m.wh.length c7) m ((w.alloc (.cells #[.string tn, .slice ca cn cc, .int .i64 pk, .int .i64 ix] 79)).alloc (.cells #[.int .i64 9, .string m.table, .slice a2 n2 c2, .int .i64 m.pk, .slice a4 m.names.length c4, .slice a5 m.vals.length c5, .bool m.star, .slice a7 m.wh.length c7, .string m.order, .bool m.desc, .bool m.hasL, .int .i64 m.lim] 253)) from ⟨N0.keep o1 (fun e => e), N1, hC.keep oA (fun _ _ e => e), ownsRow_keep x4 oA (fun _ _ e => e), x5.keep oA (fun _ _ e => e), x7.quiet oA, oA⟩)
  have HKd := hide hk
  have HNV := hide hnv
  clear hnv
  obtain ⟨RZ, hRZ⟩ : ∃ z, mchk cols pk m = z := ⟨_, rfl⟩
  rw [hRZ]
  have HRZ := hide hRZ
  clear o0 N0 o1 N1 sz oA hC hL hO x4 x5 x7 q4 q5 q7 hcs hk hRZ
  go_enter Tryz.func276, Tryz.ntmps276
  go_upto_region 1 with fail
  generalize (w.alloc (.cells #[.string tn, .slice ca cn cc, .int .i64 pk, .int .i64 ix] 79)).alloc (.cells #[.int .i64 9, .string m.table, .slice a2 n2 c2, .int .i64 m.pk, .slice a4 m.names.length c4, .slice a5 m.vals.length c5, .bool m.star, .slice a7 m.wh.length c7, .string m.order, .bool m.desc, .bool m.hasL, .int .i64 m.lim] 253) = w1 at *
  generalize hH : w.heap.size = H at *
  clear hH
  have HA1 := hide (unhide HA)
  clear HA
  go_upto_region 2 with fail
  try clear t7 tl a1 a1p
  try clear c0 cl0
  go_loopg [5] (m.names.length + 1) (fun gk jv wr => ∃ i : Nat, gk + i = m.names.length + 1 ∧ jv = .int .i64 i ∧ i ≤ m.names.length ∧ (∀ y ∈ (m.names).take i, (noC cols) y = false) ∧ CkmI w H #[.string tn, .slice ca cn cc, .int .i64 pk, .int .i64 ix] #[.int .i64 9, .string m.table, .slice a2 n2 c2, .int .i64 m.pk, .slice a4 m.names.length c4, .slice a5 m.vals.length c5, .bool m.star, .slice a7 m.wh.length c7, .string m.order, .bool m.desc, .bool m.hasL, .int .i64 m.lim] (.slice ca cn cc) cols (.slice a4 m.names.length c4) (.slice a5 m.vals.length c5) (.slice a7 m.wh.length c7) m wr)
  case atStart => exact ⟨0, rfl, rfl, Nat.zero_le _, fun y hy => by simp at hy, unhide HA1⟩
  case round =>
    obtain ⟨i, hgk, rfl, hi, hall, hI⟩ := hrel
    clear HA1
    have HAL := hide hall
    clear hall
    have t7 : wr.cell? ⟨H + 1, 4, none⟩ = some (.slice a4 m.names.length c4) := hI.sv.cell 4
    have tl := hI.sv.lt
    by_cases hs : i < m.names.length
    · have a1 : decide ((i : Int) < (m.names.length : Int)) = true := decide_eq_true (by omega)
      have a1p : (i : Int) < (m.names.length : Int) := by omega
      obtain ⟨x, hx⟩ := getE hs
      obtain ⟨gw, ha, d0⟩ := strs_at hI.o4 hx
      subst ha
      have HX := hide hx
      have s0 : wr.cell? ⟨H, 0, none⟩ = some (.string tn) := hI.sc.cell 0
      have s1 : wr.cell? ⟨H, 1, none⟩ = some (.slice ca cn cc) := hI.sc.cell 1
      have s2 : wr.cell? ⟨H, 2, none⟩ = some (.int .i64 pk) := hI.sc.cell 2
      have s3 : wr.cell? ⟨H, 3, none⟩ = some (.int .i64 ix) := hI.sc.cell 3
      have sl := hI.sc.lt
      have oD : Only (fun _ => False) wr wr.drew := (Only.refl _ wr).drew
      have C1 := smcolOf_any (tn := tn) (pk := pk) (ix := ix) (hI.oc.keep oD (fun _ _ e => e)) hcl x
      unfold schU at C1
      obtain ⟨cx, hcx⟩ : ∃ z, qcol cols x = z := ⟨_, rfl⟩
      rw [hcx] at C1
      have hqr := qcol_rng cols x
      rw [hcx] at hqr
      have C1 := hide C1
      obtain ⟨pb, hpb⟩ : ∃ b, decide (cx < 0) = b := ⟨_, rfl⟩
      have HP := hide (show (noC cols) x = pb by show decide (qcol cols x < 0) = pb; rw [hcx]; exact hpb)
      have HI := hide hI
      clear hI hx oD hcx
      go_upto_region 4 with fail
      refine wp_region_held_drew (S := (fun w' => w'.cell? ⟨H, 0, none⟩ = some (.string tn) ∧ w'.cell? ⟨H, 1, none⟩ = some (.slice ca cn cc) ∧ w'.cell? ⟨H, 2, none⟩ = some (.int .i64 pk) ∧ w'.cell? ⟨H, 3, none⟩ = some (.int .i64 ix) ∧ w'.cell? ⟨H + 1, 4, none⟩ = some (.slice (some ⟨gw, 0, none⟩) m.names.length c4) ∧ w'.cell? ⟨gw, i, none⟩ = some (.string x))) (by kernel_rfl) ⟨s0, s1, s2, s3, t7, d0⟩ (fun hH0 => ?_)
      refine takeH 0 18 (v := ?vq11) rfl rfl (by kernel_rfl) (by kernel_rfl) (by kernel_rfl) (fun _ _ _ h => h) (Or.inl ⟨by rfl, ?hq11⟩) hH0 ?rq11
      case hq11 => (intro w hSw; obtain ⟨s0, s1, s2, s3, s4, s5⟩ := hSw; go_simp; (try with_reducible rfl))
      case rq11 =>
      try simp only [Act.put, List.setIfInBounds_toArray, List.set_cons_zero, List.set_cons_succ]
      refine takeH 1 19 (v := ?vq12) rfl rfl (by kernel_rfl) (by kernel_rfl) (by kernel_rfl) (fun _ _ _ h => h) (Or.inl ⟨by rfl, ?hq12⟩) hH0 ?rq12
      case hq12 => (intro w hSw; clear hSw; go_simp; (try with_reducible rfl))
      case rq12 =>
      try simp only [Act.put, List.setIfInBounds_toArray, List.set_cons_zero, List.set_cons_succ]
      refine takeH 2 20 (v := ?vq13) rfl rfl (by kernel_rfl) (by kernel_rfl) (by kernel_rfl) (fun _ _ _ h => h) (Or.inl ⟨by rfl, ?hq13⟩) hH0 ?rq13
      case hq13 => (intro w hSw; obtain ⟨s0, s1, s2, s3, s4, s5⟩ := hSw; go_simp; (try with_reducible rfl))
      case rq13 =>
      try simp only [Act.put, List.setIfInBounds_toArray, List.set_cons_zero, List.set_cons_succ]
      refine takeH 3 21 (v := ?vq14) rfl rfl (by kernel_rfl) (by kernel_rfl) (by kernel_rfl) (fun _ _ _ h => h) (Or.inl ⟨by rfl, ?hq14⟩) hH0 ?rq14
      case hq14 => (intro w hSw; clear hSw; go_simp; (try with_reducible rfl))
      case rq14 =>
      try simp only [Act.put, List.setIfInBounds_toArray, List.set_cons_zero, List.set_cons_succ]
      refine takeH 4 22 (v := ?vq15) rfl rfl (by kernel_rfl) (by kernel_rfl) (by kernel_rfl) (fun _ _ _ h => h) (Or.inl ⟨by rfl, ?hq15⟩) hH0 ?rq15
      case hq15 => (intro w hSw; clear hSw; go_simp; (try with_reducible rfl))
      case rq15 =>
      try simp only [Act.put, List.setIfInBounds_toArray, List.set_cons_zero, List.set_cons_succ]
      refine takeH 5 23 (v := ?vq16) rfl rfl (by kernel_rfl) (by kernel_rfl) (by kernel_rfl) (fun _ _ _ h => h) (Or.inl ⟨by rfl, ?hq16⟩) hH0 ?rq16
      case hq16 => (intro w hSw; obtain ⟨s0, s1, s2, s3, s4, s5⟩ := hSw; go_simp; (try with_reducible rfl))
      case rq16 =>
      try simp only [Act.put, List.setIfInBounds_toArray, List.set_cons_zero, List.set_cons_succ]
      refine callH 6 (by kernel_rfl) rfl 24 rfl rfl 273 Tryz.func273 (by kernel_rfl) (by kernel_rfl) #[.tmp 18, .tmp 23] #[79, 9] rfl #[.agg #[.string tn, .slice ca cn cc, .int .i64 pk, .int .i64 ix], .string x] (by simp [Act.eval]) (R := fun v w' => v = .int .i64 cx ∧ Only (fun _ => False) wr.drew w') ((unhide C1).mono (by rintro en w' ⟨rfl, o⟩; exact ⟨_, rfl, rfl, o⟩)) ?kq1
      case kq1 =>
      rintro _ w6 ⟨rfl, o6⟩
      have S6 : w6.cell? ⟨H, 0, none⟩ = some (.string tn) ∧ w6.cell? ⟨H, 1, none⟩ = some (.slice ca cn cc) ∧ w6.cell? ⟨H, 2, none⟩ = some (.int .i64 pk) ∧ w6.cell? ⟨H, 3, none⟩ = some (.int .i64 ix) ∧ w6.cell? ⟨H + 1, 4, none⟩ = some (.slice (some ⟨gw, 0, none⟩) m.names.length c4) ∧ w6.cell? ⟨gw, i, none⟩ = some (.string x) := ⟨o6.cellS hH0.1, o6.cellS hH0.2.1, o6.cellS hH0.2.2.1, o6.cellS hH0.2.2.2.1, o6.cellS hH0.2.2.2.2.1, o6.cellS hH0.2.2.2.2.2⟩
      refine ⟨S6, ?_⟩
      try simp only [Act.put, List.setIfInBounds_toArray, List.set_cons_zero, List.set_cons_succ]
      refine takeH 7 25 (v := ?vq17) rfl rfl (by kernel_rfl) (by kernel_rfl) (by kernel_rfl) (fun _ _ _ h => h) (Or.inl ⟨by rfl, ?hq17⟩) S6 ?rq17
      case hq17 => (intro w hSw; clear hSw; go_simp; (try with_reducible rfl))
      case rq17 =>
      try simp only [Act.put, List.setIfInBounds_toArray, List.set_cons_zero, List.set_cons_succ]
      refine wpAnyH_done (by kernel_rfl) ?_ _
      have oD : Only (fun _ => False) wr w6 := (Only.refl _ wr).drew.trans o6 (fun _ _ e => e)
      have HF := hide oD
      clear hH0 S6 o6 oD
      try rw [hpb]
      have HI2 := hide ((unhide HI).quiet (unhide HF))
      clear HF C1 HI d0 s0 s1 s2 s3 sl t7 tl hpb
      generalize w6 = w3 at *
      cases pb with
      | true =>
        have RR := hide (show 14 = RZ by have e := hit_t (p := (noC cols)) (unhide HX) (unhide HP); rw [← unhide HRZ]; unfold mchk; rw [e]; simp [unhide HKd])
        go_wp2_with fail
        go_ret
        exact ⟨by rw [unhide RR]; rfl, (unhide HI2).on⟩
      | false =>
        have HN := hide (take_f (p := (noC cols)) (unhide HX) (unhide HAL) (unhide HP))
        go_wp2_with fail
        go_roundg (gk - 1)
        case measure => omega
        case rel => exact ⟨i + 1, by omega, by go_num, by omega, unhide HN, unhide HI2⟩
    · have a1 : decide ((i : Int) < (m.names.length : Int)) = false := decide_eq_false (by omega)
      have a1p : ¬ (i : Int) < (m.names.length : Int) := by omega
      have HF1 := hide (all_f (p := (noC cols)) (i := i) (by omega) (unhide HAL))
      have HA1 := hide hI
      clear hI hgk HAL hi hs
      go_upto_region 7 with fail
      try clear t7 tl a1 a1p
      try clear c0 cl0
      go_loopg [6] (m.wh.length + 1) (fun gk jv wr => ∃ i : Nat, gk + i = m.wh.length + 1 ∧ jv = .int .i64 i ∧ i ≤ m.wh.length ∧ (∀ y ∈ (m.wh).take i, (fun (c : Cm) => noC cols c.col) y = false) ∧ CkmI w H #[.string tn, .slice ca cn cc, .int .i64 pk, .int .i64 ix] #[.int .i64 9, .string m.table, .slice a2 n2 c2, .int .i64 m.pk, .slice a4 m.names.length c4, .slice a5 m.vals.length c5, .bool m.star, .slice a7 m.wh.length c7, .string m.order, .bool m.desc, .bool m.hasL, .int .i64 m.lim] (.slice ca cn cc) cols (.slice a4 m.names.length c4) (.slice a5 m.vals.length c5) (.slice a7 m.wh.length c7) m wr)
      case atStart => exact ⟨0, rfl, rfl, Nat.zero_le _, fun y hy => by simp at hy, unhide HA1⟩
      case round =>
        obtain ⟨i, hgk, rfl, hi, hall, hI⟩ := hrel
        clear HA1
        have HAL := hide hall
        clear hall
        have t7 : wr.cell? ⟨H + 1, 7, none⟩ = some (.slice a7 m.wh.length c7) := hI.sv.cell 7
        have tl := hI.sv.lt
        by_cases hs : i < m.wh.length
        · have a1 : decide ((i : Int) < (m.wh.length : Int)) = true := decide_eq_true (by omega)
          have a1p : (i : Int) < (m.wh.length : Int) := by omega
          obtain ⟨x, hx⟩ := getE hs
          obtain ⟨gw, ha, d0, d1, d2, d3, d4⟩ := hI.o7.at_ hx
          subst ha
          have HX := hide hx
          have s0 : wr.cell? ⟨H, 0, none⟩ = some (.string tn) := hI.sc.cell 0
          have s1 : wr.cell? ⟨H, 1, none⟩ = some (.slice ca cn cc) := hI.sc.cell 1
          have s2 : wr.cell? ⟨H, 2, none⟩ = some (.int .i64 pk) := hI.sc.cell 2
          have s3 : wr.cell? ⟨H, 3, none⟩ = some (.int .i64 ix) := hI.sc.cell 3
          have sl := hI.sc.lt
          have oD : Only (fun _ => False) wr wr.drew := (Only.refl _ wr).drew
          have C1 := smcolOf_any (tn := tn) (pk := pk) (ix := ix) (hI.oc.keep oD (fun _ _ e => e)) hcl x.col
          unfold schU at C1
          obtain ⟨cx, hcx⟩ : ∃ z, qcol cols x.col = z := ⟨_, rfl⟩
          rw [hcx] at C1
          have hqr := qcol_rng cols x.col
          rw [hcx] at hqr
          have C1 := hide C1
          obtain ⟨pb, hpb⟩ : ∃ b, decide (cx < 0) = b := ⟨_, rfl⟩
          have HP := hide (show (fun (c : Cm) => noC cols c.col) x = pb by show decide (qcol cols x.col < 0) = pb; rw [hcx]; exact hpb)
          have HI := hide hI
          clear hI hx oD hcx
          go_upto_region 9 with fail
          refine wp_region_held_drew (S := (fun w' => w'.cell? ⟨H, 0, none⟩ = some (.string tn) ∧ w'.cell? ⟨H, 1, none⟩ = some (.slice ca cn cc) ∧ w'.cell? ⟨H, 2, none⟩ = some (.int .i64 pk) ∧ w'.cell? ⟨H, 3, none⟩ = some (.int .i64 ix) ∧ w'.cell? ⟨H + 1, 7, none⟩ = some (.slice (some ⟨gw, 0, none⟩) m.wh.length c7) ∧ w'.cell? ⟨gw, i * 5, none⟩ = some (.string x.col))) (by kernel_rfl) ⟨s0, s1, s2, s3, t7, d0⟩ (fun hH0 => ?_)
          refine takeH 0 33 (v := ?vq21) rfl rfl (by kernel_rfl) (by kernel_rfl) (by kernel_rfl) (fun _ _ _ h => h) (Or.inl ⟨by rfl, ?hq21⟩) hH0 ?rq21
          case hq21 => (intro w hSw; obtain ⟨s0, s1, s2, s3, s4, s5⟩ := hSw; go_simp; (try with_reducible rfl))
          case rq21 =>
          try simp only [Act.put, List.setIfInBounds_toArray, List.set_cons_zero, List.set_cons_succ]
          refine takeH 1 34 (v := ?vq22) rfl rfl (by kernel_rfl) (by kernel_rfl) (by kernel_rfl) (fun _ _ _ h => h) (Or.inl ⟨by rfl, ?hq22⟩) hH0 ?rq22
          case hq22 => (intro w hSw; clear hSw; go_simp; (try with_reducible rfl))
          case rq22 =>
          try simp only [Act.put, List.setIfInBounds_toArray, List.set_cons_zero, List.set_cons_succ]
          refine takeH 2 35 (v := ?vq23) rfl rfl (by kernel_rfl) (by kernel_rfl) (by kernel_rfl) (fun _ _ _ h => h) (Or.inl ⟨by rfl, ?hq23⟩) hH0 ?rq23
          case hq23 => (intro w hSw; obtain ⟨s0, s1, s2, s3, s4, s5⟩ := hSw; go_simp; (try with_reducible rfl))
          case rq23 =>
          try simp only [Act.put, List.setIfInBounds_toArray, List.set_cons_zero, List.set_cons_succ]
          refine takeH 3 36 (v := ?vq24) rfl rfl (by kernel_rfl) (by kernel_rfl) (by kernel_rfl) (fun _ _ _ h => h) (Or.inl ⟨by rfl, ?hq24⟩) hH0 ?rq24
          case hq24 => (intro w hSw; clear hSw; go_simp; (try with_reducible rfl))
          case rq24 =>
          try simp only [Act.put, List.setIfInBounds_toArray, List.set_cons_zero, List.set_cons_succ]
          refine takeH 4 37 (v := ?vq25) rfl rfl (by kernel_rfl) (by kernel_rfl) (by kernel_rfl) (fun _ _ _ h => h) (Or.inl ⟨by rfl, ?hq25⟩) hH0 ?rq25
          case hq25 => (intro w hSw; clear hSw; go_simp; (try with_reducible rfl))
          case rq25 =>
          try simp only [Act.put, List.setIfInBounds_toArray, List.set_cons_zero, List.set_cons_succ]
          refine takeH 5 38 (v := ?vq26) rfl rfl (by kernel_rfl) (by kernel_rfl) (by kernel_rfl) (fun _ _ _ h => h) (Or.inl ⟨by rfl, ?hq26⟩) hH0 ?rq26
          case hq26 => (intro w hSw; clear hSw; go_simp; (try with_reducible rfl))
          case rq26 =>
          try simp only [Act.put, List.setIfInBounds_toArray, List.set_cons_zero, List.set_cons_succ]
          refine takeH 6 39 (v := ?vq27) rfl rfl (by kernel_rfl) (by kernel_rfl) (by kernel_rfl) (fun _ _ _ h => h) (Or.inl ⟨by rfl, ?hq27⟩) hH0 ?rq27
          case hq27 => (intro w hSw; obtain ⟨s0, s1, s2, s3, s4, s5⟩ := hSw; go_simp; (try with_reducible rfl))
          case rq27 =>
          try simp only [Act.put, List.setIfInBounds_toArray, List.set_cons_zero, List.set_cons_succ]
          refine callH 7 (by kernel_rfl) rfl 40 rfl rfl 273 Tryz.func273 (by kernel_rfl) (by kernel_rfl) #[.tmp 33, .tmp 39] #[79, 9] rfl #[.agg #[.string tn, .slice ca cn cc, .int .i64 pk, .int .i64 ix], .string x.col] (by simp [Act.eval]) (R := fun v w' => v = .int .i64 cx ∧ Only (fun _ => False) wr.drew w') ((unhide C1).mono (by rintro en w' ⟨rfl, o⟩; exact ⟨_, rfl, rfl, o⟩)) ?kq2
          case kq2 =>
          rintro _ w6 ⟨rfl, o6⟩
          have S6 : w6.cell? ⟨H, 0, none⟩ = some (.string tn) ∧ w6.cell? ⟨H, 1, none⟩ = some (.slice ca cn cc) ∧ w6.cell? ⟨H, 2, none⟩ = some (.int .i64 pk) ∧ w6.cell? ⟨H, 3, none⟩ = some (.int .i64 ix) ∧ w6.cell? ⟨H + 1, 7, none⟩ = some (.slice (some ⟨gw, 0, none⟩) m.wh.length c7) ∧ w6.cell? ⟨gw, i * 5, none⟩ = some (.string x.col) := ⟨o6.cellS hH0.1, o6.cellS hH0.2.1, o6.cellS hH0.2.2.1, o6.cellS hH0.2.2.2.1, o6.cellS hH0.2.2.2.2.1, o6.cellS hH0.2.2.2.2.2⟩
          refine ⟨S6, ?_⟩
          try simp only [Act.put, List.setIfInBounds_toArray, List.set_cons_zero, List.set_cons_succ]
          refine takeH 8 41 (v := ?vq28) rfl rfl (by kernel_rfl) (by kernel_rfl) (by kernel_rfl) (fun _ _ _ h => h) (Or.inl ⟨by rfl, ?hq28⟩) S6 ?rq28
          case hq28 => (intro w hSw; clear hSw; go_simp; (try with_reducible rfl))
          case rq28 =>
          try simp only [Act.put, List.setIfInBounds_toArray, List.set_cons_zero, List.set_cons_succ]
          refine wpAnyH_done (by kernel_rfl) ?_ _
          have oD : Only (fun _ => False) wr w6 := (Only.refl _ wr).drew.trans o6 (fun _ _ e => e)
          have HF := hide oD
          clear hH0 S6 o6 oD
          try rw [hpb]
          have HI2 := hide ((unhide HI).quiet (unhide HF))
          clear HF C1 HI d0 s0 s1 s2 s3 sl t7 tl hpb d1 d2 d3 d4
          generalize w6 = w3 at *
          cases pb with
          | true =>
            have RR := hide (show 14 = RZ by have e := hit_t (p := (fun (c : Cm) => noC cols c.col)) (unhide HX) (unhide HP); rw [← unhide HRZ]; unfold mchk; rw [unhide HF1, e]; simp [unhide HKd])
            go_wp2_with fail
            go_ret
            exact ⟨by rw [unhide RR]; rfl, (unhide HI2).on⟩
          | false =>
            have HN := hide (take_f (p := (fun (c : Cm) => noC cols c.col)) (unhide HX) (unhide HAL) (unhide HP))
            go_wp2_with fail
            go_roundg (gk - 1)
            case measure => omega
            case rel => exact ⟨i + 1, by omega, by go_num, by omega, unhide HN, unhide HI2⟩
        · have a1 : decide ((i : Int) < (m.wh.length : Int)) = false := decide_eq_false (by omega)
          have a1p : ¬ (i : Int) < (m.wh.length : Int) := by omega
          have HF2 := hide (all_f (p := (fun (c : Cm) => noC cols c.col)) (i := i) (by omega) (unhide HAL))
          have HA1 := hide hI
          clear hI hgk HAL hi hs
          go_upto_region 11 with fail
          clear t7 tl a1 a1p
          go_cut [51] from 42 to 50 (fun v wx => v = .bool (ordN cols m.order) ∧ Only (fun _ => False) wr wx)
          case first =>
            have s0 : wr.cell? ⟨H, 0, none⟩ = some (.string tn) := (unhide HA1).sc.cell 0
            have s1 : wr.cell? ⟨H, 1, none⟩ = some (.slice ca cn cc) := (unhide HA1).sc.cell 1
            have s2 : wr.cell? ⟨H, 2, none⟩ = some (.int .i64 pk) := (unhide HA1).sc.cell 2
            have s3 : wr.cell? ⟨H, 3, none⟩ = some (.int .i64 ix) := (unhide HA1).sc.cell 3
            have sl := (unhide HA1).sc.lt
            have t9 : wr.cell? ⟨H + 1, 8, none⟩ = some (.string m.order) := (unhide HA1).sv.cell 8
            have tl := (unhide HA1).sv.lt
            by_cases ho : m.order = ⟨#[]⟩
            · have HB := hide (show ordN cols m.order = false by unfold ordN; simp [ho])
              rw [ho] at t9
              clear ho
              go_wp2_with fail
              go_meet
              exact ⟨by rw [unhide HB], Only.refl _ _⟩
            · have C1 := smcolOf_any (tn := tn) (pk := pk) (ix := ix) (unhide HA1).oc hcl m.order
              unfold schU at C1
              have C1 := hide C1
              have HB := hide (show ordN cols m.order = decide (qcol cols m.order < 0) by unfold ordN noC; simp [ho])
              have q0 : (m.order.toList == []) = false := by
                have h2 := seq_f (a := m.order) (b := ⟨#[]⟩) ho
                rwa [show (⟨#[]⟩ : ByteArray).toList = [] from by simp] at h2
              clear ho
              go_wp2_with fail
              refine (unhide C1).mono ?_
              rintro e w2 ⟨rfl, o2⟩
              have HO2 := hide o2
              clear C1 o2
              go_wp2_with fail
              go_meet
              exact ⟨by rw [unhide HB], unhide HO2⟩
          case rest =>
          obtain ⟨rfl, hoW⟩ := hcut
          have HA2 := hide ((unhide HA1).quiet hoW)
          clear hoW HA1
          have HA1 := hide (unhide HA2)
          clear HA2
          generalize wc = w2 at *
          obtain ⟨ob, hob⟩ : ∃ b, ordN cols m.order = b := ⟨_, rfl⟩
          rw [hob]
          have HOB := hide hob
          clear hob
          have c0 : w2.cell? ⟨H + 1, 0, none⟩ = some (.int .i64 9) := (unhide HA1).sv.cell 0
          have cl0 := (unhide HA1).sv.lt
          cases ob with
          | true =>
            have RR := hide (show 14 = RZ by rw [← unhide HRZ]; unfold mchk; rw [unhide HF1, unhide HF2, unhide HOB]; simp [unhide HKd])
            go_wp2_with fail
            go_ret
            exact ⟨by rw [unhide RR]; rfl, (unhide HA1).on⟩
          | false =>
          go_upto_region 15 with fail
          try clear t7 tl a1 a1p
          try clear c0 cl0
          go_loopg [7] (m.names.length + 1) (fun gk jv wr => ∃ i : Nat, gk + i = m.names.length + 1 ∧ jv = .int .i64 i ∧ i ≤ m.names.length ∧ (∀ y ∈ (m.names).take i, (fun (x : ByteArray) => decide (qcol cols x = pk)) y = false) ∧ CkmI w H #[.string tn, .slice ca cn cc, .int .i64 pk, .int .i64 ix] #[.int .i64 9, .string m.table, .slice a2 n2 c2, .int .i64 m.pk, .slice a4 m.names.length c4, .slice a5 m.vals.length c5, .bool m.star, .slice a7 m.wh.length c7, .string m.order, .bool m.desc, .bool m.hasL, .int .i64 m.lim] (.slice ca cn cc) cols (.slice a4 m.names.length c4) (.slice a5 m.vals.length c5) (.slice a7 m.wh.length c7) m wr)
          case atStart => exact ⟨0, rfl, rfl, Nat.zero_le _, fun y hy => by simp at hy, unhide HA1⟩
          case round =>
            obtain ⟨i, hgk, rfl, hi, hall, hI⟩ := hrel
            clear HA1
            have HAL := hide hall
            clear hall
            have t7 : wr.cell? ⟨H + 1, 4, none⟩ = some (.slice a4 m.names.length c4) := hI.sv.cell 4
            have tl := hI.sv.lt
            by_cases hs : i < m.names.length
            · have a1 : decide ((i : Int) < (m.names.length : Int)) = true := decide_eq_true (by omega)
              have a1p : (i : Int) < (m.names.length : Int) := by omega
              obtain ⟨x, hx⟩ := getE hs
              obtain ⟨gw, ha, d0⟩ := strs_at hI.o4 hx
              subst ha
              have HX := hide hx
              have s0 : wr.cell? ⟨H, 0, none⟩ = some (.string tn) := hI.sc.cell 0
              have s1 : wr.cell? ⟨H, 1, none⟩ = some (.slice ca cn cc) := hI.sc.cell 1
              have s2 : wr.cell? ⟨H, 2, none⟩ = some (.int .i64 pk) := hI.sc.cell 2
              have s3 : wr.cell? ⟨H, 3, none⟩ = some (.int .i64 ix) := hI.sc.cell 3
              have sl := hI.sc.lt
              have oD : Only (fun _ => False) wr wr.drew := (Only.refl _ wr).drew
              have C1 := smcolOf_any (tn := tn) (pk := pk) (ix := ix) (hI.oc.keep oD (fun _ _ e => e)) hcl x
              unfold schU at C1
              obtain ⟨cx, hcx⟩ : ∃ z, qcol cols x = z := ⟨_, rfl⟩
              rw [hcx] at C1
              have hqr := qcol_rng cols x
              rw [hcx] at hqr
              have C1 := hide C1
              obtain ⟨pb, hpb⟩ : ∃ b, (cx == pk) = b := ⟨_, rfl⟩
              have HP := hide (show (fun (x : ByteArray) => decide (qcol cols x = pk)) x = pb by show decide (qcol cols x = pk) = pb; rw [hcx, ← hpb]; simp [BEq.beq])
              have HI := hide hI
              clear hI hx oD hcx
              go_upto_region 17 with fail
              refine wp_region_held_drew (S := (fun w' => w'.cell? ⟨H, 0, none⟩ = some (.string tn) ∧ w'.cell? ⟨H, 1, none⟩ = some (.slice ca cn cc) ∧ w'.cell? ⟨H, 2, none⟩ = some (.int .i64 pk) ∧ w'.cell? ⟨H, 3, none⟩ = some (.int .i64 ix) ∧ w'.cell? ⟨H + 1, 4, none⟩ = some (.slice (some ⟨gw, 0, none⟩) m.names.length c4) ∧ w'.cell? ⟨gw, i, none⟩ = some (.string x))) (by kernel_rfl) ⟨s0, s1, s2, s3, t7, d0⟩ (fun hH0 => ?_)
              refine takeH 0 62 (v := ?vq31) rfl rfl (by kernel_rfl) (by kernel_rfl) (by kernel_rfl) (fun _ _ _ h => h) (Or.inl ⟨by rfl, ?hq31⟩) hH0 ?rq31
              case hq31 => (intro w hSw; obtain ⟨s0, s1, s2, s3, s4, s5⟩ := hSw; go_simp; (try with_reducible rfl))
              case rq31 =>
              try simp only [Act.put, List.setIfInBounds_toArray, List.set_cons_zero, List.set_cons_succ]
              refine takeH 1 63 (v := ?vq32) rfl rfl (by kernel_rfl) (by kernel_rfl) (by kernel_rfl) (fun _ _ _ h => h) (Or.inl ⟨by rfl, ?hq32⟩) hH0 ?rq32
              case hq32 => (intro w hSw; clear hSw; go_simp; (try with_reducible rfl))
              case rq32 =>
              try simp only [Act.put, List.setIfInBounds_toArray, List.set_cons_zero, List.set_cons_succ]
              refine takeH 2 64 (v := ?vq33) rfl rfl (by kernel_rfl) (by kernel_rfl) (by kernel_rfl) (fun _ _ _ h => h) (Or.inl ⟨by rfl, ?hq33⟩) hH0 ?rq33
              case hq33 => (intro w hSw; obtain ⟨s0, s1, s2, s3, s4, s5⟩ := hSw; go_simp; (try with_reducible rfl))
              case rq33 =>
              try simp only [Act.put, List.setIfInBounds_toArray, List.set_cons_zero, List.set_cons_succ]
              refine takeH 3 65 (v := ?vq34) rfl rfl (by kernel_rfl) (by kernel_rfl) (by kernel_rfl) (fun _ _ _ h => h) (Or.inl ⟨by rfl, ?hq34⟩) hH0 ?rq34
              case hq34 => (intro w hSw; clear hSw; go_simp; (try with_reducible rfl))
              case rq34 =>
              try simp only [Act.put, List.setIfInBounds_toArray, List.set_cons_zero, List.set_cons_succ]
              refine takeH 4 66 (v := ?vq35) rfl rfl (by kernel_rfl) (by kernel_rfl) (by kernel_rfl) (fun _ _ _ h => h) (Or.inl ⟨by rfl, ?hq35⟩) hH0 ?rq35
              case hq35 => (intro w hSw; clear hSw; go_simp; (try with_reducible rfl))
              case rq35 =>
              try simp only [Act.put, List.setIfInBounds_toArray, List.set_cons_zero, List.set_cons_succ]
              refine takeH 5 67 (v := ?vq36) rfl rfl (by kernel_rfl) (by kernel_rfl) (by kernel_rfl) (fun _ _ _ h => h) (Or.inl ⟨by rfl, ?hq36⟩) hH0 ?rq36
              case hq36 => (intro w hSw; obtain ⟨s0, s1, s2, s3, s4, s5⟩ := hSw; go_simp; (try with_reducible rfl))
              case rq36 =>
              try simp only [Act.put, List.setIfInBounds_toArray, List.set_cons_zero, List.set_cons_succ]
              refine takeH 7 69 (v := ?vq37) rfl rfl (by kernel_rfl) (by kernel_rfl) (by kernel_rfl) (fun _ _ _ h => h) (Or.inl ⟨by rfl, ?hq37⟩) hH0 ?rq37
              case hq37 => (intro w hSw; clear hSw; go_simp; (try with_reducible rfl))
              case rq37 =>
              try simp only [Act.put, List.setIfInBounds_toArray, List.set_cons_zero, List.set_cons_succ]
              refine takeH 8 70 (v := ?vq38) rfl rfl (by kernel_rfl) (by kernel_rfl) (by kernel_rfl) (fun _ _ _ h => h) (Or.inl ⟨by rfl, ?hq38⟩) hH0 ?rq38
              case hq38 => (intro w hSw; obtain ⟨s0, s1, s2, s3, s4, s5⟩ := hSw; go_simp; (try with_reducible rfl))
              case rq38 =>
              try simp only [Act.put, List.setIfInBounds_toArray, List.set_cons_zero, List.set_cons_succ]
              refine callH 6 (by kernel_rfl) rfl 68 rfl rfl 273 Tryz.func273 (by kernel_rfl) (by kernel_rfl) #[.tmp 62, .tmp 67] #[79, 9] rfl #[.agg #[.string tn, .slice ca cn cc, .int .i64 pk, .int .i64 ix], .string x] (by simp [Act.eval]) (R := fun v w' => v = .int .i64 cx ∧ Only (fun _ => False) wr.drew w') ((unhide C1).mono (by rintro en w' ⟨rfl, o⟩; exact ⟨_, rfl, rfl, o⟩)) ?kq3
              case kq3 =>
              rintro _ w6 ⟨rfl, o6⟩
              have S6 : w6.cell? ⟨H, 0, none⟩ = some (.string tn) ∧ w6.cell? ⟨H, 1, none⟩ = some (.slice ca cn cc) ∧ w6.cell? ⟨H, 2, none⟩ = some (.int .i64 pk) ∧ w6.cell? ⟨H, 3, none⟩ = some (.int .i64 ix) ∧ w6.cell? ⟨H + 1, 4, none⟩ = some (.slice (some ⟨gw, 0, none⟩) m.names.length c4) ∧ w6.cell? ⟨gw, i, none⟩ = some (.string x) := ⟨o6.cellS hH0.1, o6.cellS hH0.2.1, o6.cellS hH0.2.2.1, o6.cellS hH0.2.2.2.1, o6.cellS hH0.2.2.2.2.1, o6.cellS hH0.2.2.2.2.2⟩
              refine ⟨S6, ?_⟩
              try simp only [Act.put, List.setIfInBounds_toArray, List.set_cons_zero, List.set_cons_succ]
              refine takeH 9 71 (v := ?vq39) rfl rfl (by kernel_rfl) (by kernel_rfl) (by kernel_rfl) (fun _ _ _ h => h) (Or.inl ⟨by rfl, ?hq39⟩) S6 ?rq39
              case hq39 => (intro w hSw; clear hSw; go_simp; (try with_reducible rfl))
              case rq39 =>
              try simp only [Act.put, List.setIfInBounds_toArray, List.set_cons_zero, List.set_cons_succ]
              refine wpAnyH_done (by kernel_rfl) ?_ _
              have oD : Only (fun _ => False) wr w6 := (Only.refl _ wr).drew.trans o6 (fun _ _ e => e)
              have HF := hide oD
              clear hH0 S6 o6 oD
              try rw [hpb]
              have HI2 := hide ((unhide HI).quiet (unhide HF))
              clear HF C1 HI d0 s0 s1 s2 s3 sl t7 tl hpb
              generalize w6 = w3 at *
              cases pb with
              | true =>
                have RR := hide (show 18 = RZ by have e := hit_t (p := (fun (x : ByteArray) => decide (qcol cols x = pk))) (unhide HX) (unhide HP); rw [← unhide HRZ]; unfold mchk; rw [unhide HF1, unhide HF2, unhide HOB, e]; simp [unhide HKd])
                go_wp2_with fail
                go_ret
                exact ⟨by rw [unhide RR]; rfl, (unhide HI2).on⟩
              | false =>
                have HN := hide (take_f (p := (fun (x : ByteArray) => decide (qcol cols x = pk))) (unhide HX) (unhide HAL) (unhide HP))
                go_wp2_with fail
                go_roundg (gk - 1)
                case measure => omega
                case rel => exact ⟨i + 1, by omega, by go_num, by omega, unhide HN, unhide HI2⟩
            · have a1 : decide ((i : Int) < (m.names.length : Int)) = false := decide_eq_false (by omega)
              have a1p : ¬ (i : Int) < (m.names.length : Int) := by omega
              have HF3 := hide (all_f (p := (fun (x : ByteArray) => decide (qcol cols x = pk))) (i := i) (by omega) (unhide HAL))
              have HA1 := hide hI
              clear hI hgk HAL hi hs
              go_upto_region 20 with fail
              try clear t7 tl a1 a1p
              try clear c0 cl0
              go_loopg [8] (m.names.length + 1) (fun gk jv wr => ∃ i : Nat, gk + i = m.names.length + 1 ∧ jv = .int .i64 i ∧ i ≤ m.names.length ∧ (∀ y ∈ (m.names.zip m.vals).take i, (fun (p : ByteArray × Vl) => p.2.str != colS cols (qcol cols p.1)) y = false) ∧ CkmI w H #[.string tn, .slice ca cn cc, .int .i64 pk, .int .i64 ix] #[.int .i64 9, .string m.table, .slice a2 n2 c2, .int .i64 m.pk, .slice a4 m.names.length c4, .slice a5 m.vals.length c5, .bool m.star, .slice a7 m.wh.length c7, .string m.order, .bool m.desc, .bool m.hasL, .int .i64 m.lim] (.slice ca cn cc) cols (.slice a4 m.names.length c4) (.slice a5 m.vals.length c5) (.slice a7 m.wh.length c7) m wr)
              case atStart => exact ⟨0, rfl, rfl, Nat.zero_le _, fun y hy => by simp at hy, unhide HA1⟩
              case round =>
                obtain ⟨i, hgk, rfl, hi, hall, hI⟩ := hrel
                clear HA1
                have HAL := hide hall
                clear hall
                have t7 : wr.cell? ⟨H + 1, 4, none⟩ = some (.slice a4 m.names.length c4) := hI.sv.cell 4
                have tl := hI.sv.lt
                by_cases hs : i < m.names.length
                · have a1 : decide ((i : Int) < (m.names.length : Int)) = true := decide_eq_true (by omega)
                  have a1p : (i : Int) < (m.names.length : Int) := by omega
                  obtain ⟨x, hx⟩ := getE hs
                  obtain ⟨gw, ha, d0⟩ := strs_at hI.o4 hx
                  subst ha
                  have HX := hide hx
                  have s0 : wr.cell? ⟨H, 0, none⟩ = some (.string tn) := hI.sc.cell 0
                  have s1 : wr.cell? ⟨H, 1, none⟩ = some (.slice ca cn cc) := hI.sc.cell 1
                  have s2 : wr.cell? ⟨H, 2, none⟩ = some (.int .i64 pk) := hI.sc.cell 2
                  have s3 : wr.cell? ⟨H, 3, none⟩ = some (.int .i64 ix) := hI.sc.cell 3
                  have sl := hI.sc.lt
                  have oD : Only (fun _ => False) wr wr.drew := (Only.refl _ wr).drew
                  have C1 := smcolOf_any (tn := tn) (pk := pk) (ix := ix) (hI.oc.keep oD (fun _ _ e => e)) hcl x
                  unfold schU at C1
                  obtain ⟨cx, hcx⟩ : ∃ z, qcol cols x = z := ⟨_, rfl⟩
                  rw [hcx] at C1
                  have hqr := qcol_rng cols x
                  rw [hcx] at hqr
                  have C1 := hide C1
                  have hn0 : 0 ≤ cx := by
                    have h := any_f (unhide HF1) (List.mem_of_getElem? hx)
                    have h2 : decide (qcol cols x < 0) = false := h
                    have h3 := of_decide_eq_false h2
                    rw [hcx] at h3
                    omega
                  obtain ⟨mc, hm⟩ : ∃ m : Nat, cx = (m : Int) := ⟨cx.toNat, by omega⟩
                  subst hm
                  have hml : mc < cols.length := by omega
                  obtain ⟨cl, hcl2⟩ := getE hml
                  obtain ⟨gc, ha2, e0, e1⟩ := hI.oc.at_ hcl2
                  subst ha2
                  have hcnn : cn = cols.length := by obtain ⟨_, _, e⟩ := hI.oc.shape; cases e; rfl
                  subst hcnn
                  have mlp : (mc : Int) < (cols.length : Int) := by omega
                  have hiv : i < m.vals.length := by have := unhide HNV; omega
                  obtain ⟨y, hy⟩ := getE hiv
                  obtain ⟨gv, ha3, z0, z1, z2⟩ := hI.o5.at_ hy
                  have t5 : wr.cell? ⟨H + 1, 5, none⟩ = some (.slice a5 m.vals.length c5) := hI.sv.cell 5
                  subst ha3
                  have ivp : (i : Int) < (m.vals.length : Int) := by omega
                  have hz : (m.names.zip m.vals)[i]? = some (x, y) := by rw [List.getElem?_zip_eq_some]; exact ⟨hx, hy⟩
                  obtain ⟨pb, hpb⟩ : ∃ b, (!(y.str == cl.2)) = b := ⟨_, rfl⟩
                  have HP := hide (show (fun (p : ByteArray × Vl) => p.2.str != colS cols (qcol cols p.1)) (x, y) = pb by show (y.str != colS cols (qcol cols x)) = pb; rw [hcx, colS_get hcl2]; exact hpb)
                  have HX := hide hz
                  have HI := hide hI
                  clear hI hx hy hz oD hcx hcl2 hml hn0 hiv e0 z1 z2
                  go_upto_region 22 with fail
                  refine wp_region_held_drew (S := (fun w' => w'.cell? ⟨H, 0, none⟩ = some (.string tn) ∧ w'.cell? ⟨H, 1, none⟩ = some (.slice (some ⟨gc, 0, none⟩) cols.length cc) ∧ w'.cell? ⟨H, 2, none⟩ = some (.int .i64 pk) ∧ w'.cell? ⟨H, 3, none⟩ = some (.int .i64 ix) ∧ w'.cell? ⟨H + 1, 4, none⟩ = some (.slice (some ⟨gw, 0, none⟩) m.names.length c4) ∧ w'.cell? ⟨gw, i, none⟩ = some (.string x) ∧ w'.cell? ⟨H + 1, 5, none⟩ = some (.slice (some ⟨gv, 0, none⟩) m.vals.length c5) ∧ w'.cell? ⟨gv, i * 3, none⟩ = some (.bool y.str) ∧ w'.cell? ⟨gc, mc * 2 + 1, none⟩ = some (.bool cl.2))) (by kernel_rfl) ⟨s0, s1, s2, s3, t7, d0, t5, z0, e1⟩ (fun hH0 => ?_)
                  refine takeH 0 79 (v := ?vq41) rfl rfl (by kernel_rfl) (by kernel_rfl) (by kernel_rfl) (fun _ _ _ h => h) (Or.inl ⟨by rfl, ?hq41⟩) hH0 ?rq41
                  case hq41 => (intro w hSw; clear hSw; go_simp; (try with_reducible rfl))
                  case rq41 =>
                  try simp only [Act.put, List.setIfInBounds_toArray, List.set_cons_zero, List.set_cons_succ]
                  refine takeH 1 80 (v := ?vq42) rfl rfl (by kernel_rfl) (by kernel_rfl) (by kernel_rfl) (fun _ _ _ h => h) (Or.inl ⟨by rfl, ?hq42⟩) hH0 ?rq42
                  case hq42 => (intro w hSw; obtain ⟨s0, s1, s2, s3, s4, s5, s6, s7, s8⟩ := hSw; go_simp; (try with_reducible rfl))
                  case rq42 =>
                  try simp only [Act.put, List.setIfInBounds_toArray, List.set_cons_zero, List.set_cons_succ]
                  refine takeH 2 81 (v := ?vq43) rfl rfl (by kernel_rfl) (by kernel_rfl) (by kernel_rfl) (fun _ _ _ h => h) (Or.inl ⟨by rfl, ?hq43⟩) hH0 ?rq43
                  case hq43 => (intro w hSw; clear hSw; go_simp; (try with_reducible rfl))
                  case rq43 =>
                  try simp only [Act.put, List.setIfInBounds_toArray, List.set_cons_zero, List.set_cons_succ]
                  refine takeH 3 82 (v := ?vq44) rfl rfl (by kernel_rfl) (by kernel_rfl) (by kernel_rfl) (fun _ _ _ h => h) (Or.inl ⟨by rfl, ?hq44⟩) hH0 ?rq44
                  case hq44 => (intro w hSw; clear hSw; go_simp; (try with_reducible rfl))
                  case rq44 =>
                  try simp only [Act.put, List.setIfInBounds_toArray, List.set_cons_zero, List.set_cons_succ]
                  refine takeH 4 83 (v := ?vq45) rfl rfl (by kernel_rfl) (by kernel_rfl) (by kernel_rfl) (fun _ _ _ h => h) (Or.inl ⟨by rfl, ?hq45⟩) hH0 ?rq45
                  case hq45 => (intro w hSw; clear hSw; go_simp; (try with_reducible rfl))
                  case rq45 =>
                  try simp only [Act.put, List.setIfInBounds_toArray, List.set_cons_zero, List.set_cons_succ]
                  refine takeH 5 84 (v := ?vq46) rfl rfl (by kernel_rfl) (by kernel_rfl) (by kernel_rfl) (fun _ _ _ h => h) (Or.inl ⟨by rfl, ?hq46⟩) hH0 ?rq46
                  case hq46 => (intro w hSw; obtain ⟨s0, s1, s2, s3, s4, s5, s6, s7, s8⟩ := hSw; go_simp; (try with_reducible rfl))
                  case rq46 =>
                  try simp only [Act.put, List.setIfInBounds_toArray, List.set_cons_zero, List.set_cons_succ]
                  refine takeH 6 85 (v := ?vq47) rfl rfl (by kernel_rfl) (by kernel_rfl) (by kernel_rfl) (fun _ _ _ h => h) (Or.inl ⟨by rfl, ?hq47⟩) hH0 ?rq47
                  case hq47 => (intro w hSw; clear hSw; go_simp; (try with_reducible rfl))
                  case rq47 =>
                  try simp only [Act.put, List.setIfInBounds_toArray, List.set_cons_zero, List.set_cons_succ]
                  refine takeH 7 86 (v := ?vq48) rfl rfl (by kernel_rfl) (by kernel_rfl) (by kernel_rfl) (fun _ _ _ h => h) (Or.inl ⟨by rfl, ?hq48⟩) hH0 ?rq48
                  case hq48 => (intro w hSw; obtain ⟨s0, s1, s2, s3, s4, s5, s6, s7, s8⟩ := hSw; go_simp; (try with_reducible rfl))
                  case rq48 =>
                  try simp only [Act.put, List.setIfInBounds_toArray, List.set_cons_zero, List.set_cons_succ]
                  refine takeH 8 87 (v := ?vq49) rfl rfl (by kernel_rfl) (by kernel_rfl) (by kernel_rfl) (fun _ _ _ h => h) (Or.inl ⟨by rfl, ?hq49⟩) hH0 ?rq49
                  case hq49 => (intro w hSw; obtain ⟨s0, s1, s2, s3, s4, s5, s6, s7, s8⟩ := hSw; go_simp; (try with_reducible rfl))
                  case rq49 =>
                  try simp only [Act.put, List.setIfInBounds_toArray, List.set_cons_zero, List.set_cons_succ]
                  refine takeH 9 88 (v := ?vq410) rfl rfl (by kernel_rfl) (by kernel_rfl) (by kernel_rfl) (fun _ _ _ h => h) (Or.inl ⟨by rfl, ?hq410⟩) hH0 ?rq410
                  case hq410 => (intro w hSw; clear hSw; go_simp; (try with_reducible rfl))
                  case rq410 =>
                  try simp only [Act.put, List.setIfInBounds_toArray, List.set_cons_zero, List.set_cons_succ]
                  refine takeH 10 89 (v := ?vq411) rfl rfl (by kernel_rfl) (by kernel_rfl) (by kernel_rfl) (fun _ _ _ h => h) (Or.inl ⟨by rfl, ?hq411⟩) hH0 ?rq411
                  case hq411 => (intro w hSw; obtain ⟨s0, s1, s2, s3, s4, s5, s6, s7, s8⟩ := hSw; go_simp; (try with_reducible rfl))
                  case rq411 =>
                  try simp only [Act.put, List.setIfInBounds_toArray, List.set_cons_zero, List.set_cons_succ]
                  refine takeH 11 90 (v := ?vq412) rfl rfl (by kernel_rfl) (by kernel_rfl) (by kernel_rfl) (fun _ _ _ h => h) (Or.inl ⟨by rfl, ?hq412⟩) hH0 ?rq412
                  case hq412 => (intro w hSw; clear hSw; go_simp; (try with_reducible rfl))
                  case rq412 =>
                  try simp only [Act.put, List.setIfInBounds_toArray, List.set_cons_zero, List.set_cons_succ]
                  refine takeH 12 91 (v := ?vq413) rfl rfl (by kernel_rfl) (by kernel_rfl) (by kernel_rfl) (fun _ _ _ h => h) (Or.inl ⟨by rfl, ?hq413⟩) hH0 ?rq413
                  case hq413 => (intro w hSw; clear hSw; go_simp; (try with_reducible rfl))
                  case rq413 =>
                  try simp only [Act.put, List.setIfInBounds_toArray, List.set_cons_zero, List.set_cons_succ]
                  refine takeH 13 92 (v := ?vq414) rfl rfl (by kernel_rfl) (by kernel_rfl) (by kernel_rfl) (fun _ _ _ h => h) (Or.inl ⟨by rfl, ?hq414⟩) hH0 ?rq414
                  case hq414 => (intro w hSw; obtain ⟨s0, s1, s2, s3, s4, s5, s6, s7, s8⟩ := hSw; go_simp; (try with_reducible rfl))
                  case rq414 =>
                  try simp only [Act.put, List.setIfInBounds_toArray, List.set_cons_zero, List.set_cons_succ]
                  refine callH 14 (by kernel_rfl) rfl 93 rfl rfl 273 Tryz.func273 (by kernel_rfl) (by kernel_rfl) #[.tmp 87, .tmp 92] #[79, 9] rfl #[.agg #[.string tn, .slice (some ⟨gc, 0, none⟩) cols.length cc, .int .i64 pk, .int .i64 ix], .string x] (by simp [Act.eval]) (R := fun v w' => v = .int .i64 (mc : Int) ∧ Only (fun _ => False) wr.drew w') ((unhide C1).mono (by rintro en w' ⟨rfl, o⟩; exact ⟨_, rfl, rfl, o⟩)) ?kq4
                  case kq4 =>
                  rintro _ w6 ⟨rfl, o6⟩
                  have S6 : w6.cell? ⟨H, 0, none⟩ = some (.string tn) ∧ w6.cell? ⟨H, 1, none⟩ = some (.slice (some ⟨gc, 0, none⟩) cols.length cc) ∧ w6.cell? ⟨H, 2, none⟩ = some (.int .i64 pk) ∧ w6.cell? ⟨H, 3, none⟩ = some (.int .i64 ix) ∧ w6.cell? ⟨H + 1, 4, none⟩ = some (.slice (some ⟨gw, 0, none⟩) m.names.length c4) ∧ w6.cell? ⟨gw, i, none⟩ = some (.string x) ∧ w6.cell? ⟨H + 1, 5, none⟩ = some (.slice (some ⟨gv, 0, none⟩) m.vals.length c5) ∧ w6.cell? ⟨gv, i * 3, none⟩ = some (.bool y.str) ∧ w6.cell? ⟨gc, mc * 2 + 1, none⟩ = some (.bool cl.2) := ⟨o6.cellS hH0.1, o6.cellS hH0.2.1, o6.cellS hH0.2.2.1, o6.cellS hH0.2.2.2.1, o6.cellS hH0.2.2.2.2.1, o6.cellS hH0.2.2.2.2.2.1, o6.cellS hH0.2.2.2.2.2.2.1, o6.cellS hH0.2.2.2.2.2.2.2.1, o6.cellS hH0.2.2.2.2.2.2.2.2⟩
                  refine ⟨S6, ?_⟩
                  try simp only [Act.put, List.setIfInBounds_toArray, List.set_cons_zero, List.set_cons_succ]
                  refine takeH 15 94 (v := ?vq415) rfl rfl (by kernel_rfl) (by kernel_rfl) (by kernel_rfl) (fun _ _ _ h => h) (Or.inl ⟨by rfl, ?hq415⟩) S6 ?rq415
                  case hq415 => (intro w hSw; clear hSw; go_simp; (try with_reducible rfl))
                  case rq415 =>
                  try simp only [Act.put, List.setIfInBounds_toArray, List.set_cons_zero, List.set_cons_succ]
                  refine takeH 16 95 (v := ?vq416) rfl rfl (by kernel_rfl) (by kernel_rfl) (by kernel_rfl) (fun _ _ _ h => h) (Or.inl ⟨by rfl, ?hq416⟩) S6 ?rq416
                  case hq416 => (intro w hSw; clear hSw; go_simp; (try with_reducible rfl))
                  case rq416 =>
                  try simp only [Act.put, List.setIfInBounds_toArray, List.set_cons_zero, List.set_cons_succ]
                  refine takeH 17 96 (v := ?vq417) rfl rfl (by kernel_rfl) (by kernel_rfl) (by kernel_rfl) (fun _ _ _ h => h) (Or.inl ⟨by rfl, ?hq417⟩) S6 ?rq417
                  case hq417 => (intro w hSw; obtain ⟨s0, s1, s2, s3, s4, s5, s6, s7, s8⟩ := hSw; go_simp; (try with_reducible rfl))
                  case rq417 =>
                  try simp only [Act.put, List.setIfInBounds_toArray, List.set_cons_zero, List.set_cons_succ]
                  refine takeH 18 97 (v := ?vq418) rfl rfl (by kernel_rfl) (by kernel_rfl) (by kernel_rfl) (fun _ _ _ h => h) (Or.inl ⟨by rfl, ?hq418⟩) S6 ?rq418
                  case hq418 => (intro w hSw; clear hSw; go_simp; (try with_reducible rfl))
                  case rq418 =>
                  try simp only [Act.put, List.setIfInBounds_toArray, List.set_cons_zero, List.set_cons_succ]
                  refine wpAnyH_done (by kernel_rfl) ?_ _
                  have oD : Only (fun _ => False) wr w6 := (Only.refl _ wr).drew.trans o6 (fun _ _ e => e)
                  have HF := hide oD
                  clear hH0 S6 o6 oD
                  try rw [hpb]
                  have HI2 := hide ((unhide HI).quiet (unhide HF))
                  clear HF C1 HI d0 s0 s1 s2 s3 sl t7 tl hpb t5 z0 e1
                  generalize w6 = w3 at *
                  cases pb with
                  | true =>
                    have RR := hide (show 15 = RZ by have e := hit_t (p := (fun (p : ByteArray × Vl) => p.2.str != colS cols (qcol cols p.1))) (unhide HX) (unhide HP); have e : tyM cols m.names m.vals = true := e; rw [← unhide HRZ]; unfold mchk; rw [unhide HF1, unhide HF2, unhide HOB, unhide HF3, e]; simp [unhide HKd])
                    go_wp2_with fail
                    go_ret
                    exact ⟨by rw [unhide RR]; rfl, (unhide HI2).on⟩
                  | false =>
                    have HN := hide (take_f (p := (fun (p : ByteArray × Vl) => p.2.str != colS cols (qcol cols p.1))) (unhide HX) (unhide HAL) (unhide HP))
                    go_wp2_with fail
                    go_roundg (gk - 1)
                    case measure => omega
                    case rel => exact ⟨i + 1, by omega, by go_num, by omega, unhide HN, unhide HI2⟩
                · have a1 : decide ((i : Int) < (m.names.length : Int)) = false := decide_eq_false (by omega)
                  have a1p : ¬ (i : Int) < (m.names.length : Int) := by omega
                  have HF4 := hide (all_f (p := (fun (p : ByteArray × Vl) => p.2.str != colS cols (qcol cols p.1))) (i := i) (by rw [List.length_zip]; have := unhide HNV; omega) (unhide HAL))
                  have HA1 := hide hI
                  clear hI hgk HAL hi hs
                  have HFx : Hid (tyM cols m.names m.vals = false) := hide (unhide HF4)
                  clear HF4
                  have HF4 := hide (unhide HFx)
                  clear HFx
                  go_upto_region 25 with fail
                  try clear t7 tl a1 a1p
                  try clear c0 cl0
                  go_loopg [9] (m.wh.length + 1) (fun gk jv wr => ∃ i : Nat, gk + i = m.wh.length + 1 ∧ jv = .int .i64 i ∧ i ≤ m.wh.length ∧ (∀ y ∈ (m.wh).take i, (fun (c : Cm) => c.lit.str != colS cols (qcol cols c.col)) y = false) ∧ CkmI w H #[.string tn, .slice ca cn cc, .int .i64 pk, .int .i64 ix] #[.int .i64 9, .string m.table, .slice a2 n2 c2, .int .i64 m.pk, .slice a4 m.names.length c4, .slice a5 m.vals.length c5, .bool m.star, .slice a7 m.wh.length c7, .string m.order, .bool m.desc, .bool m.hasL, .int .i64 m.lim] (.slice ca cn cc) cols (.slice a4 m.names.length c4) (.slice a5 m.vals.length c5) (.slice a7 m.wh.length c7) m wr)
                  case atStart => exact ⟨0, rfl, rfl, Nat.zero_le _, fun y hy => by simp at hy, unhide HA1⟩
                  case round =>
                    obtain ⟨i, hgk, rfl, hi, hall, hI⟩ := hrel
                    clear HA1
                    have HAL := hide hall
                    clear hall
                    have t7 : wr.cell? ⟨H + 1, 7, none⟩ = some (.slice a7 m.wh.length c7) := hI.sv.cell 7
                    have tl := hI.sv.lt
                    by_cases hs : i < m.wh.length
                    · have a1 : decide ((i : Int) < (m.wh.length : Int)) = true := decide_eq_true (by omega)
                      have a1p : (i : Int) < (m.wh.length : Int) := by omega
                      obtain ⟨x, hx⟩ := getE hs
                      obtain ⟨gw, ha, d0, d1, d2, d3, d4⟩ := hI.o7.at_ hx
                      subst ha
                      have HX := hide hx
                      have s0 : wr.cell? ⟨H, 0, none⟩ = some (.string tn) := hI.sc.cell 0
                      have s1 : wr.cell? ⟨H, 1, none⟩ = some (.slice ca cn cc) := hI.sc.cell 1
                      have s2 : wr.cell? ⟨H, 2, none⟩ = some (.int .i64 pk) := hI.sc.cell 2
                      have s3 : wr.cell? ⟨H, 3, none⟩ = some (.int .i64 ix) := hI.sc.cell 3
                      have sl := hI.sc.lt
                      have oD : Only (fun _ => False) wr wr.drew := (Only.refl _ wr).drew
                      have C1 := smcolOf_any (tn := tn) (pk := pk) (ix := ix) (hI.oc.keep oD (fun _ _ e => e)) hcl x.col
                      unfold schU at C1
                      obtain ⟨cx, hcx⟩ : ∃ z, qcol cols x.col = z := ⟨_, rfl⟩
                      rw [hcx] at C1
                      have hqr := qcol_rng cols x.col
                      rw [hcx] at hqr
                      have C1 := hide C1
                      have hn0 : 0 ≤ cx := by
                        have h := any_f (unhide HF2) (List.mem_of_getElem? hx)
                        have h2 : decide (qcol cols x.col < 0) = false := h
                        have h3 := of_decide_eq_false h2
                        rw [hcx] at h3
                        omega
                      obtain ⟨mc, hm⟩ : ∃ m : Nat, cx = (m : Int) := ⟨cx.toNat, by omega⟩
                      subst hm
                      have hml : mc < cols.length := by omega
                      obtain ⟨cl, hcl2⟩ := getE hml
                      obtain ⟨gc, ha2, e0, e1⟩ := hI.oc.at_ hcl2
                      subst ha2
                      have hcnn : cn = cols.length := by obtain ⟨_, _, e⟩ := hI.oc.shape; cases e; rfl
                      subst hcnn
                      have mlp : (mc : Int) < (cols.length : Int) := by omega
                      obtain ⟨pb, hpb⟩ : ∃ b, (!(x.lit.str == cl.2)) = b := ⟨_, rfl⟩
                      have HP := hide (show (fun (c : Cm) => c.lit.str != colS cols (qcol cols c.col)) x = pb by show (x.lit.str != colS cols (qcol cols x.col)) = pb; rw [hcx, colS_get hcl2]; exact hpb)
                      have HI := hide hI
                      clear hI hx oD hcx hcl2 hml hn0 e0 d1 d3 d4
                      go_upto_region 27 with fail
                      refine wp_region_held_drew (S := (fun w' => w'.cell? ⟨H, 0, none⟩ = some (.string tn) ∧ w'.cell? ⟨H, 1, none⟩ = some (.slice (some ⟨gc, 0, none⟩) cols.length cc) ∧ w'.cell? ⟨H, 2, none⟩ = some (.int .i64 pk) ∧ w'.cell? ⟨H, 3, none⟩ = some (.int .i64 ix) ∧ w'.cell? ⟨H + 1, 7, none⟩ = some (.slice (some ⟨gw, 0, none⟩) m.wh.length c7) ∧ w'.cell? ⟨gw, i * 5, none⟩ = some (.string x.col) ∧ w'.cell? ⟨gw, i * 5 + 2, none⟩ = some (.bool x.lit.str) ∧ w'.cell? ⟨gc, mc * 2 + 1, none⟩ = some (.bool cl.2))) (by kernel_rfl) ⟨s0, s1, s2, s3, t7, d0, d2, e1⟩ (fun hH0 => ?_)
                      refine takeH 0 105 (v := ?vq51) rfl rfl (by kernel_rfl) (by kernel_rfl) (by kernel_rfl) (fun _ _ _ h => h) (Or.inl ⟨by rfl, ?hq51⟩) hH0 ?rq51
                      case hq51 => (intro w hSw; clear hSw; go_simp; (try with_reducible rfl))
                      case rq51 =>
                      try simp only [Act.put, List.setIfInBounds_toArray, List.set_cons_zero, List.set_cons_succ]
                      refine takeH 1 106 (v := ?vq52) rfl rfl (by kernel_rfl) (by kernel_rfl) (by kernel_rfl) (fun _ _ _ h => h) (Or.inl ⟨by rfl, ?hq52⟩) hH0 ?rq52
                      case hq52 => (intro w hSw; obtain ⟨s0, s1, s2, s3, s4, s5, s6, s7⟩ := hSw; go_simp; (try with_reducible rfl))
                      case rq52 =>
                      try simp only [Act.put, List.setIfInBounds_toArray, List.set_cons_zero, List.set_cons_succ]
                      refine takeH 2 107 (v := ?vq53) rfl rfl (by kernel_rfl) (by kernel_rfl) (by kernel_rfl) (fun _ _ _ h => h) (Or.inl ⟨by rfl, ?hq53⟩) hH0 ?rq53
                      case hq53 => (intro w hSw; clear hSw; go_simp; (try with_reducible rfl))
                      case rq53 =>
                      try simp only [Act.put, List.setIfInBounds_toArray, List.set_cons_zero, List.set_cons_succ]
                      refine takeH 3 108 (v := ?vq54) rfl rfl (by kernel_rfl) (by kernel_rfl) (by kernel_rfl) (fun _ _ _ h => h) (Or.inl ⟨by rfl, ?hq54⟩) hH0 ?rq54
                      case hq54 => (intro w hSw; clear hSw; go_simp; (try with_reducible rfl))
                      case rq54 =>
                      try simp only [Act.put, List.setIfInBounds_toArray, List.set_cons_zero, List.set_cons_succ]
                      refine takeH 4 109 (v := ?vq55) rfl rfl (by kernel_rfl) (by kernel_rfl) (by kernel_rfl) (fun _ _ _ h => h) (Or.inl ⟨by rfl, ?hq55⟩) hH0 ?rq55
                      case hq55 => (intro w hSw; clear hSw; go_simp; (try with_reducible rfl))
                      case rq55 =>
                      try simp only [Act.put, List.setIfInBounds_toArray, List.set_cons_zero, List.set_cons_succ]
                      refine takeH 5 110 (v := ?vq56) rfl rfl (by kernel_rfl) (by kernel_rfl) (by kernel_rfl) (fun _ _ _ h => h) (Or.inl ⟨by rfl, ?hq56⟩) hH0 ?rq56
                      case hq56 => (intro w hSw; clear hSw; go_simp; (try with_reducible rfl))
                      case rq56 =>
                      try simp only [Act.put, List.setIfInBounds_toArray, List.set_cons_zero, List.set_cons_succ]
                      refine takeH 6 111 (v := ?vq57) rfl rfl (by kernel_rfl) (by kernel_rfl) (by kernel_rfl) (fun _ _ _ h => h) (Or.inl ⟨by rfl, ?hq57⟩) hH0 ?rq57
                      case hq57 => (intro w hSw; obtain ⟨s0, s1, s2, s3, s4, s5, s6, s7⟩ := hSw; go_simp; (try with_reducible rfl))
                      case rq57 =>
                      try simp only [Act.put, List.setIfInBounds_toArray, List.set_cons_zero, List.set_cons_succ]
                      refine takeH 7 112 (v := ?vq58) rfl rfl (by kernel_rfl) (by kernel_rfl) (by kernel_rfl) (fun _ _ _ h => h) (Or.inl ⟨by rfl, ?hq58⟩) hH0 ?rq58
                      case hq58 => (intro w hSw; clear hSw; go_simp; (try with_reducible rfl))
                      case rq58 =>
                      try simp only [Act.put, List.setIfInBounds_toArray, List.set_cons_zero, List.set_cons_succ]
                      refine takeH 8 113 (v := ?vq59) rfl rfl (by kernel_rfl) (by kernel_rfl) (by kernel_rfl) (fun _ _ _ h => h) (Or.inl ⟨by rfl, ?hq59⟩) hH0 ?rq59
                      case hq59 => (intro w hSw; obtain ⟨s0, s1, s2, s3, s4, s5, s6, s7⟩ := hSw; go_simp; (try with_reducible rfl))
                      case rq59 =>
                      try simp only [Act.put, List.setIfInBounds_toArray, List.set_cons_zero, List.set_cons_succ]
                      refine takeH 9 114 (v := ?vq510) rfl rfl (by kernel_rfl) (by kernel_rfl) (by kernel_rfl) (fun _ _ _ h => h) (Or.inl ⟨by rfl, ?hq510⟩) hH0 ?rq510
                      case hq510 => (intro w hSw; obtain ⟨s0, s1, s2, s3, s4, s5, s6, s7⟩ := hSw; go_simp; (try with_reducible rfl))
                      case rq510 =>
                      try simp only [Act.put, List.setIfInBounds_toArray, List.set_cons_zero, List.set_cons_succ]
                      refine takeH 10 115 (v := ?vq511) rfl rfl (by kernel_rfl) (by kernel_rfl) (by kernel_rfl) (fun _ _ _ h => h) (Or.inl ⟨by rfl, ?hq511⟩) hH0 ?rq511
                      case hq511 => (intro w hSw; clear hSw; go_simp; (try with_reducible rfl))
                      case rq511 =>
                      try simp only [Act.put, List.setIfInBounds_toArray, List.set_cons_zero, List.set_cons_succ]
                      refine takeH 11 116 (v := ?vq512) rfl rfl (by kernel_rfl) (by kernel_rfl) (by kernel_rfl) (fun _ _ _ h => h) (Or.inl ⟨by rfl, ?hq512⟩) hH0 ?rq512
                      case hq512 => (intro w hSw; obtain ⟨s0, s1, s2, s3, s4, s5, s6, s7⟩ := hSw; go_simp; (try with_reducible rfl))
                      case rq512 =>
                      try simp only [Act.put, List.setIfInBounds_toArray, List.set_cons_zero, List.set_cons_succ]
                      refine takeH 12 117 (v := ?vq513) rfl rfl (by kernel_rfl) (by kernel_rfl) (by kernel_rfl) (fun _ _ _ h => h) (Or.inl ⟨by rfl, ?hq513⟩) hH0 ?rq513
                      case hq513 => (intro w hSw; clear hSw; go_simp; (try with_reducible rfl))
                      case rq513 =>
                      try simp only [Act.put, List.setIfInBounds_toArray, List.set_cons_zero, List.set_cons_succ]
                      refine takeH 13 118 (v := ?vq514) rfl rfl (by kernel_rfl) (by kernel_rfl) (by kernel_rfl) (fun _ _ _ h => h) (Or.inl ⟨by rfl, ?hq514⟩) hH0 ?rq514
                      case hq514 => (intro w hSw; clear hSw; go_simp; (try with_reducible rfl))
                      case rq514 =>
                      try simp only [Act.put, List.setIfInBounds_toArray, List.set_cons_zero, List.set_cons_succ]
                      refine takeH 14 119 (v := ?vq515) rfl rfl (by kernel_rfl) (by kernel_rfl) (by kernel_rfl) (fun _ _ _ h => h) (Or.inl ⟨by rfl, ?hq515⟩) hH0 ?rq515
                      case hq515 => (intro w hSw; clear hSw; go_simp; (try with_reducible rfl))
                      case rq515 =>
                      try simp only [Act.put, List.setIfInBounds_toArray, List.set_cons_zero, List.set_cons_succ]
                      refine takeH 15 120 (v := ?vq516) rfl rfl (by kernel_rfl) (by kernel_rfl) (by kernel_rfl) (fun _ _ _ h => h) (Or.inl ⟨by rfl, ?hq516⟩) hH0 ?rq516
                      case hq516 => (intro w hSw; obtain ⟨s0, s1, s2, s3, s4, s5, s6, s7⟩ := hSw; go_simp; (try with_reducible rfl))
                      case rq516 =>
                      try simp only [Act.put, List.setIfInBounds_toArray, List.set_cons_zero, List.set_cons_succ]
                      refine callH 16 (by kernel_rfl) rfl 121 rfl rfl 273 Tryz.func273 (by kernel_rfl) (by kernel_rfl) #[.tmp 114, .tmp 120] #[79, 9] rfl #[.agg #[.string tn, .slice (some ⟨gc, 0, none⟩) cols.length cc, .int .i64 pk, .int .i64 ix], .string x.col] (by simp [Act.eval]) (R := fun v w' => v = .int .i64 (mc : Int) ∧ Only (fun _ => False) wr.drew w') ((unhide C1).mono (by rintro en w' ⟨rfl, o⟩; exact ⟨_, rfl, rfl, o⟩)) ?kq5
                      case kq5 =>
                      rintro _ w6 ⟨rfl, o6⟩
                      have S6 : w6.cell? ⟨H, 0, none⟩ = some (.string tn) ∧ w6.cell? ⟨H, 1, none⟩ = some (.slice (some ⟨gc, 0, none⟩) cols.length cc) ∧ w6.cell? ⟨H, 2, none⟩ = some (.int .i64 pk) ∧ w6.cell? ⟨H, 3, none⟩ = some (.int .i64 ix) ∧ w6.cell? ⟨H + 1, 7, none⟩ = some (.slice (some ⟨gw, 0, none⟩) m.wh.length c7) ∧ w6.cell? ⟨gw, i * 5, none⟩ = some (.string x.col) ∧ w6.cell? ⟨gw, i * 5 + 2, none⟩ = some (.bool x.lit.str) ∧ w6.cell? ⟨gc, mc * 2 + 1, none⟩ = some (.bool cl.2) := ⟨o6.cellS hH0.1, o6.cellS hH0.2.1, o6.cellS hH0.2.2.1, o6.cellS hH0.2.2.2.1, o6.cellS hH0.2.2.2.2.1, o6.cellS hH0.2.2.2.2.2.1, o6.cellS hH0.2.2.2.2.2.2.1, o6.cellS hH0.2.2.2.2.2.2.2⟩
                      refine ⟨S6, ?_⟩
                      try simp only [Act.put, List.setIfInBounds_toArray, List.set_cons_zero, List.set_cons_succ]
                      refine takeH 17 122 (v := ?vq517) rfl rfl (by kernel_rfl) (by kernel_rfl) (by kernel_rfl) (fun _ _ _ h => h) (Or.inl ⟨by rfl, ?hq517⟩) S6 ?rq517
                      case hq517 => (intro w hSw; clear hSw; go_simp; (try with_reducible rfl))
                      case rq517 =>
                      try simp only [Act.put, List.setIfInBounds_toArray, List.set_cons_zero, List.set_cons_succ]
                      refine takeH 18 123 (v := ?vq518) rfl rfl (by kernel_rfl) (by kernel_rfl) (by kernel_rfl) (fun _ _ _ h => h) (Or.inl ⟨by rfl, ?hq518⟩) S6 ?rq518
                      case hq518 => (intro w hSw; clear hSw; go_simp; (try with_reducible rfl))
                      case rq518 =>
                      try simp only [Act.put, List.setIfInBounds_toArray, List.set_cons_zero, List.set_cons_succ]
                      refine takeH 19 124 (v := ?vq519) rfl rfl (by kernel_rfl) (by kernel_rfl) (by kernel_rfl) (fun _ _ _ h => h) (Or.inl ⟨by rfl, ?hq519⟩) S6 ?rq519
                      case hq519 => (intro w hSw; obtain ⟨s0, s1, s2, s3, s4, s5, s6, s7⟩ := hSw; go_simp; (try with_reducible rfl))
                      case rq519 =>
                      try simp only [Act.put, List.setIfInBounds_toArray, List.set_cons_zero, List.set_cons_succ]
                      refine takeH 20 125 (v := ?vq520) rfl rfl (by kernel_rfl) (by kernel_rfl) (by kernel_rfl) (fun _ _ _ h => h) (Or.inl ⟨by rfl, ?hq520⟩) S6 ?rq520
                      case hq520 => (intro w hSw; clear hSw; go_simp; (try with_reducible rfl))
                      case rq520 =>
                      try simp only [Act.put, List.setIfInBounds_toArray, List.set_cons_zero, List.set_cons_succ]
                      refine wpAnyH_done (by kernel_rfl) ?_ _
                      have oD : Only (fun _ => False) wr w6 := (Only.refl _ wr).drew.trans o6 (fun _ _ e => e)
                      have HF := hide oD
                      clear hH0 S6 o6 oD
                      try rw [hpb]
                      have HI2 := hide ((unhide HI).quiet (unhide HF))
                      clear HF C1 HI d0 s0 s1 s2 s3 sl t7 tl hpb d2 e1
                      generalize w6 = w3 at *
                      cases pb with
                      | true =>
                        have RR := hide (show 15 = RZ by have e := hit_t (p := (fun (c : Cm) => c.lit.str != colS cols (qcol cols c.col))) (unhide HX) (unhide HP); rw [← unhide HRZ]; unfold mchk; rw [unhide HF1, unhide HF2, unhide HOB, unhide HF3, unhide HF4, e]; simp [unhide HKd])
                        go_wp2_with fail
                        go_ret
                        exact ⟨by rw [unhide RR]; rfl, (unhide HI2).on⟩
                      | false =>
                        have HN := hide (take_f (p := (fun (c : Cm) => c.lit.str != colS cols (qcol cols c.col))) (unhide HX) (unhide HAL) (unhide HP))
                        go_wp2_with fail
                        go_roundg (gk - 1)
                        case measure => omega
                        case rel => exact ⟨i + 1, by omega, by go_num, by omega, unhide HN, unhide HI2⟩
                    · have a1 : decide ((i : Int) < (m.wh.length : Int)) = false := decide_eq_false (by omega)
                      have a1p : ¬ (i : Int) < (m.wh.length : Int) := by omega
                      have HF5 := hide (all_f (p := (fun (c : Cm) => c.lit.str != colS cols (qcol cols c.col))) (i := i) (by omega) (unhide HAL))
                      have HA1 := hide hI
                      clear hI hgk HAL hi hs
                      have c0 : wr.cell? ⟨H + 1, 0, none⟩ = some (.int .i64 9) := (unhide HA1).sv.cell 0
                      have cl0 := (unhide HA1).sv.lt
                      go_upto_region 31 with fail
                      try clear t7 tl a1 a1p
                      try clear c0 cl0
                      go_loopg [10] (m.vals.length + 1) (fun gk jv wr => ∃ i : Nat, gk + i = m.vals.length + 1 ∧ jv = .int .i64 i ∧ i ≤ m.vals.length ∧ (∀ y ∈ (m.vals).take i, (fun (v : Vl) => decide (7 < v.s.size)) y = false) ∧ CkmI w H #[.string tn, .slice ca cn cc, .int .i64 pk, .int .i64 ix] #[.int .i64 9, .string m.table, .slice a2 n2 c2, .int .i64 m.pk, .slice a4 m.names.length c4, .slice a5 m.vals.length c5, .bool m.star, .slice a7 m.wh.length c7, .string m.order, .bool m.desc, .bool m.hasL, .int .i64 m.lim] (.slice ca cn cc) cols (.slice a4 m.names.length c4) (.slice a5 m.vals.length c5) (.slice a7 m.wh.length c7) m wr)
                      case atStart => exact ⟨0, rfl, rfl, Nat.zero_le _, fun y hy => by simp at hy, unhide HA1⟩
                      case round =>
                        obtain ⟨i, hgk, rfl, hi, hall, hI⟩ := hrel
                        clear HA1
                        have HAL := hide hall
                        clear hall
                        have t7 : wr.cell? ⟨H + 1, 5, none⟩ = some (.slice a5 m.vals.length c5) := hI.sv.cell 5
                        have tl := hI.sv.lt
                        by_cases hs : i < m.vals.length
                        · have a1 : decide ((i : Int) < (m.vals.length : Int)) = true := decide_eq_true (by omega)
                          have a1p : (i : Int) < (m.vals.length : Int) := by omega
                          obtain ⟨x, hx⟩ := getE hs
                          obtain ⟨gw, ha, d0, d1, d2⟩ := hI.o5.at_ hx
                          subst ha
                          have HX := hide hx
                          have HI := hide hI
                          clear hI hx
                          by_cases hp : 7 < x.s.size
                          · have b1 : ((x.s.size : Int) > 7) := by omega
                            have RR := hide (show 16 = RZ by have e := hit_t (p := (fun (v : Vl) => decide (7 < v.s.size))) (unhide HX) (by simpa using hp); rw [← unhide HRZ]; unfold mchk; rw [unhide HF1, unhide HF2, unhide HOB, unhide HF3, unhide HF4, unhide HF5, e]; simp [unhide HKd])
                            clear hp
                            go_wp2_with fail
                            go_ret
                            exact ⟨by rw [unhide RR]; rfl, (unhide HI).on⟩
                          · have b1 : ¬ ((x.s.size : Int) > 7) := by omega
                            have HN := hide (take_f (p := (fun (v : Vl) => decide (7 < v.s.size))) (unhide HX) (unhide HAL) (by simpa using hp))
                            clear hp
                            go_wp2_with fail
                            go_roundg (gk - 1)
                            case measure => omega
                            case rel => exact ⟨i + 1, by omega, by go_num, by omega, unhide HN, unhide HI⟩
                        · have a1 : decide ((i : Int) < (m.vals.length : Int)) = false := decide_eq_false (by omega)
                          have a1p : ¬ (i : Int) < (m.vals.length : Int) := by omega
                          have HF6 := hide (all_f (p := (fun (v : Vl) => decide (7 < v.s.size))) (i := i) (by omega) (unhide HAL))
                          have HA1 := hide hI
                          clear hI hgk HAL hi hs
                          have RR := hide (show 0 = RZ by rw [← unhide HRZ]; unfold mchk; rw [unhide HF1, unhide HF2, unhide HOB, unhide HF3, unhide HF4, unhide HF5, unhide HF6]; simp [unhide HKd])
                          go_wp2_with fail
                          go_ret
                          exact ⟨by rw [unhide RR]; rfl, (unhide HA1).on⟩
end
end Go.Proofs.Qxb6500412aGreat
