/-
  OWN WORK. TXN, Keeps: Data, kind 11 (written by tools/gen_xkd.py).
-/
import Derived.Test.Qxb6500414aGreatXKP2
namespace Go.Proofs.Qxb6500414aGreat
open Go.RowKit Go.PlainAid
set_option linter.unusedSimpArgs false
set_option linter.unusedVariables false
section
variable {lo : Nat} {w w' : World} {k k2 : Nat} {M N : Mu} {s t : Nat} {T : Tb} {am : AnM} {an : An} {a : Int}
set_option maxRecDepth 100000 in
set_option maxHeartbeats 4000000 in
theorem xldata_o11 (H : Sht lo w k M) (H2 : Sht lo w k2 N) (hB : MuB M) (hB2 : MuB N) (A : AnAt w am an) (ob oc : Int) (os ot : ByteArray) (ht : ot.size ≤ maxLen) (D : DtO M N s t T os 1) (hrg : 0 ≤ M.lk s T.nm ∧ M.lk s T.nm ≤ 2) (hpk : ∀ r, r ∈ M.rows s T.nm ∨ r ∈ N.rows s T.nm → T.pk < r.length) (hSt : Stay M N) (hL : Late an.e) : Calls Tryz.prog 81 #[.pointer (some ⟨k, 0, none⟩), .pointer (some ⟨k2, 0, none⟩), opX 11 (s : Int) ob oc os ot, .agg (anC am an)] w (fun e w' => e = .returned (.bool true) ∧ Only (fun _ => False) w w') := by
  obtain ⟨p1, p2, hp⟩ := A.row.shape
  obtain ⟨r1, r2, hr⟩ := ownsRow_shape A.own
  obtain ⟨t1, t2, ht'⟩ := A.col.shape
  obtain ⟨v1, v2, hv⟩ := ownsRow_shape A.nms
  obtain ⟨ln, hln⟩ : ∃ k, an.row.length = k := ⟨_, rfl⟩
  obtain ⟨ls, hls⟩ : ∃ k, am.Z.length = k := ⟨_, rfl⟩
  obtain ⟨lc, hlc⟩ : ∃ k, an.cols.length = k := ⟨_, rfl⟩
  obtain ⟨lm, hlm⟩ : ∃ k, an.names.length = k := ⟨_, rfl⟩
  rw [hln] at hp
  rw [hls] at hr
  rw [hlc] at ht'
  rw [hlm] at hv
  have o1 : Only (fun _ => False) w ((w.alloc (.cells #[.int .i64 11, .int .i64 (s : Int), .int .i64 ob, .int .i64 oc, .string os, .string ot] 44)).alloc (.cells #[.int .i64 an.e, .int .i64 an.n, .slice p1 ln p2, .slice r1 ls r2, .string an.nm, .slice t1 lc t2, .int .i64 an.pk, .int .i64 an.ix, .slice v1 lm v2] 54)) := ((Only.refl _ w).alloc _).alloc _
  have N1 : Has ((w.alloc (.cells #[.int .i64 11, .int .i64 (s : Int), .int .i64 ob, .int .i64 oc, .string os, .string ot] 44)).alloc (.cells #[.int .i64 an.e, .int .i64 an.n, .slice p1 ln p2, .slice r1 ls r2, .string an.nm, .slice t1 lc t2, .int .i64 an.pk, .int .i64 an.ix, .slice v1 lm v2] 54)) w.heap.size #[.int .i64 11, .int .i64 (s : Int), .int .i64 ob, .int .i64 oc, .string os, .string ot] 44 := (Has.new w _ _).alloc _
  have N2 : Has ((w.alloc (.cells #[.int .i64 11, .int .i64 (s : Int), .int .i64 ob, .int .i64 oc, .string os, .string ot] 44)).alloc (.cells #[.int .i64 an.e, .int .i64 an.n, .slice p1 ln p2, .slice r1 ls r2, .string an.nm, .slice t1 lc t2, .int .i64 an.pk, .int .i64 an.ix, .slice v1 lm v2] 54)) (w.heap.size + 1) #[.int .i64 an.e, .int .i64 an.n, .slice p1 ln p2, .slice r1 ls r2, .string an.nm, .slice t1 lc t2, .int .i64 an.pk, .int .i64 an.ix, .slice v1 lm v2] 54 := Has.new' _ _ _ _ (by simp)
  obtain ⟨n, hn⟩ : ∃ n, M.com.length = n := ⟨_, rfl⟩
  have hl := hB.len
  rw [hn] at hl
  have HH := hide (And.intro (H.quiet o1) (And.intro (H2.quiet o1) (And.intro o1 (And.intro ht hn))))
  have HB := hide (And.intro hB hB2)
  have HAn := hide (A.quiet o1)
  have HRS := hide (And.intro hp hln)
  have HN1 := hide N1
  have HN2 := hide N2
  have HS := hide hSt
  have HD := hide D
  have HP := hide (And.intro hrg hpk)
  have hs4 := D.s4
  have s4 : (s : Int) < 4 := by omega
  have htl := (List.getElem?_eq_some_iff.mp D.hT).1
  rw [hn] at htl
  have tI : (t : Int) < (n : Int) := by omega
  obtain ⟨g20', g2', g10', g21'⟩ := hL
  have g20 : (an.e == 20) = false := ne_intO g20'
  have g2 : (an.e == 2) = false := ne_intO g2'
  have g10 : (an.e == 10) = false := ne_intO g10'
  have g21 : (an.e == 21) = false := ne_intO g21'
  unfold anC opX
  rw [hp, hr, ht', hv]
  clear H H2 hB hB2 A ht o1 N1 N2 hp hr ht' hv hln hls hlc hlm hn hSt D hrg hpk g20' g2' g10' g21'
  go_enter Tryz.func81, Tryz.ntmps81
  go_upto_region 1 with fail
  generalize ((w.alloc (.cells #[.int .i64 11, .int .i64 (s : Int), .int .i64 ob, .int .i64 oc, .string os, .string ot] 44)).alloc (.cells #[.int .i64 an.e, .int .i64 an.n, .slice p1 ln p2, .slice r1 ls r2, .string an.nm, .slice t1 lc t2, .int .i64 an.pk, .int .i64 an.ix, .slice v1 lm v2] 54)) = w1 at *
  have k1 := (unhide HN1).lt
  have k2' := (unhide HN2).lt
  generalize hka : w.heap.size = ka at *
  clear hka
  obtain ⟨pa, pc, q0', pO⟩ := (unhide HH).1.names
  obtain ⟨qa, qc, q0, qO⟩ := (unhide HH).2.1.names
  rw [len_at (unhide HD).nms] at q0 qO
  have p0 := q0'
  clear q0'
  have oD : Only (fun _ => False) w1 w1.drew := (Only.refl _ w1).drew
  have CN := sameNames_any (w := w1.drew) (ownsRow_keep pO oD (fun _ _ e => e)) (ownsRow_keep qO oD (fun _ _ e => e)) (by unfold namesD; rw [List.length_map]; have := (unhide HB).1.len; omega) true (decide_eq_true (unhide HD).nms)
  have kl := (unhide HH).1.lt
  have kl2 := (unhide HH).2.1.lt
  rw [(unhide HH).2.2.2.2] at p0 q0 CN
  have CN := hide CN
  clear pO qO oD
  refine wp_region_held_drew (S := (fun w' => w'.cell? ⟨k, 0, none⟩ = some (.slice pa n pc) ∧ w'.cell? ⟨k2, 0, none⟩ = some (.slice qa n qc))) (by kernel_rfl) ⟨p0, q0⟩ (fun hH0 => ?_)
  refine takeH 0 16 (v := ?vnz11) rfl rfl (by kernel_rfl) (by kernel_rfl) (by kernel_rfl) (fun _ _ _ h => h) (Or.inl ⟨by rfl, ?hnz11⟩) hH0 ?rnz11
  case hnz11 => (intro w hSw; clear hSw; go_simp; (try with_reducible rfl))
  case rnz11 =>
  try simp only [Act.put, List.setIfInBounds_toArray, List.set_cons_zero, List.set_cons_succ]
  refine takeH 1 17 (v := ?vnz12) rfl rfl (by kernel_rfl) (by kernel_rfl) (by kernel_rfl) (fun _ _ _ h => h) (Or.inl ⟨by rfl, ?hnz12⟩) hH0 ?rnz12
  case hnz12 => (intro w hSw; clear hSw; go_simp; (try with_reducible rfl))
  case rnz12 =>
  try simp only [Act.put, List.setIfInBounds_toArray, List.set_cons_zero, List.set_cons_succ]
  refine takeH 2 18 (v := ?vnz13) rfl rfl (by kernel_rfl) (by kernel_rfl) (by kernel_rfl) (fun _ _ _ h => h) (Or.inl ⟨by rfl, ?hnz13⟩) hH0 ?rnz13
  case hnz13 => (intro w hSw; clear hSw; go_simp; (try with_reducible rfl))
  case rnz13 =>
  try simp only [Act.put, List.setIfInBounds_toArray, List.set_cons_zero, List.set_cons_succ]
  refine takeH 3 19 (v := ?vnz14) rfl rfl (by kernel_rfl) (by kernel_rfl) (by kernel_rfl) (fun _ _ _ h => h) (Or.inl ⟨by rfl, ?hnz14⟩) hH0 ?rnz14
  case hnz14 => (intro w hSw; obtain ⟨s0, s1⟩ := hSw; go_simp; (try with_reducible rfl))
  case rnz14 =>
  try simp only [Act.put, List.setIfInBounds_toArray, List.set_cons_zero, List.set_cons_succ]
  refine takeH 4 20 (v := ?vnz15) rfl rfl (by kernel_rfl) (by kernel_rfl) (by kernel_rfl) (fun _ _ _ h => h) (Or.inl ⟨by rfl, ?hnz15⟩) hH0 ?rnz15
  case hnz15 => (intro w hSw; clear hSw; go_simp; (try with_reducible rfl))
  case rnz15 =>
  try simp only [Act.put, List.setIfInBounds_toArray, List.set_cons_zero, List.set_cons_succ]
  refine takeH 5 21 (v := ?vnz16) rfl rfl (by kernel_rfl) (by kernel_rfl) (by kernel_rfl) (fun _ _ _ h => h) (Or.inl ⟨by rfl, ?hnz16⟩) hH0 ?rnz16
  case hnz16 => (intro w hSw; clear hSw; go_simp; (try with_reducible rfl))
  case rnz16 =>
  try simp only [Act.put, List.setIfInBounds_toArray, List.set_cons_zero, List.set_cons_succ]
  refine takeH 6 22 (v := ?vnz17) rfl rfl (by kernel_rfl) (by kernel_rfl) (by kernel_rfl) (fun _ _ _ h => h) (Or.inl ⟨by rfl, ?hnz17⟩) hH0 ?rnz17
  case hnz17 => (intro w hSw; clear hSw; go_simp; (try with_reducible rfl))
  case rnz17 =>
  try simp only [Act.put, List.setIfInBounds_toArray, List.set_cons_zero, List.set_cons_succ]
  refine takeH 7 23 (v := ?vnz18) rfl rfl (by kernel_rfl) (by kernel_rfl) (by kernel_rfl) (fun _ _ _ h => h) (Or.inl ⟨by rfl, ?hnz18⟩) hH0 ?rnz18
  case hnz18 => (intro w hSw; obtain ⟨s0, s1⟩ := hSw; go_simp; (try with_reducible rfl))
  case rnz18 =>
  try simp only [Act.put, List.setIfInBounds_toArray, List.set_cons_zero, List.set_cons_succ]
  refine callH 8 (by kernel_rfl) rfl 24 rfl rfl 86 Tryz.func86 (by kernel_rfl) (by kernel_rfl) #[.tmp 19, .tmp 23] #[52, 52] rfl #[.slice pa n pc, .slice qa n qc] (by simp [Act.eval]) (R := fun v w' => v = .bool true ∧ Only (fun _ => False) w1.drew w') ((unhide CN).mono (by rintro en w' ⟨rfl, o⟩; exact ⟨_, rfl, rfl, o⟩)) ?knz1
  case knz1 =>
  rintro _ w6 ⟨rfl, o6⟩
  have S6 : w6.cell? ⟨k, 0, none⟩ = some (.slice pa n pc) ∧ w6.cell? ⟨k2, 0, none⟩ = some (.slice qa n qc) := ⟨o6.cellF hH0.1, o6.cellF hH0.2⟩
  refine ⟨S6, ?_⟩
  try simp only [Act.put, List.setIfInBounds_toArray, List.set_cons_zero, List.set_cons_succ]
  refine takeH 9 25 (v := ?vnz19) rfl rfl (by kernel_rfl) (by kernel_rfl) (by kernel_rfl) (fun _ _ _ h => h) (Or.inl ⟨by rfl, ?hnz19⟩) S6 ?rnz19
  case hnz19 => (intro w hSw; clear hSw; go_simp; (try with_reducible rfl))
  case rnz19 =>
  try simp only [Act.put, List.setIfInBounds_toArray, List.set_cons_zero, List.set_cons_succ]
  refine wpAnyH_done (by kernel_rfl) ?_ _
  have oD : Only (fun _ => False) w1 w6 := (Only.refl _ w1).drew.trans o6 (fun _ _ e => e)
  have HF := hide oD
  clear hH0 S6 o6 oD
  clear CN p0 q0 kl kl2
  have CH := hide (xlheld_any ((unhide HH).1.quiet (unhide HF)) ((unhide HH).2.1.quiet (unhide HF)) (unhide HB).1 (unhide HD).nms (unhide HD).held)
  go_wp2_with fail
  refine (unhide CH).mono ?_
  rintro e w7 ⟨rfl, o7⟩
  have HF7 := hide ((unhide HF).trans o7 (fun _ _ e => e))
  clear CH o7 HF
  have CP := hide (xlplace_any ((unhide HH).1.quiet (unhide HF7)) (unhide HB).1 os)
  have HA := hide ((unhide HN1).keep (unhide HF7) (fun e => e))
  have HA2 := hide ((unhide HN2).keep (unhide HF7) (fun e => e))
  have hka := (unhide HA).lt
  have hkb := (unhide HA2).lt
  have a0 : w7.cell? ⟨ka, 0, none⟩ = some (.int .i64 11) := (unhide HA).cell 0
  have a1 : w7.cell? ⟨ka, 1, none⟩ = some (.int .i64 (s : Int)) := (unhide HA).cell 1
  have a2 : w7.cell? ⟨ka, 2, none⟩ = some (.int .i64 ob) := (unhide HA).cell 2
  have a3 : w7.cell? ⟨ka, 3, none⟩ = some (.int .i64 oc) := (unhide HA).cell 3
  have a4 : w7.cell? ⟨ka, 4, none⟩ = some (.string os) := (unhide HA).cell 4
  have a5 : w7.cell? ⟨ka, 5, none⟩ = some (.string ot) := (unhide HA).cell 5
  have b0 : w7.cell? ⟨ka + 1, 0, none⟩ = some (.int .i64 an.e) := (unhide HA2).cell 0
  go_wp2_with fail
  refine (unhide CP).mono ?_
  rintro e w8 ⟨z, rfl, hz, rfl⟩
  clear CP
  obtain rfl : z = t := PlR.at_ (unhide HB).1.srt (unhide HD).hT (by rw [(unhide HD).nm]; exact hz)
  clear hz
  have CE := xlearly_any ((unhide HH).1.quiet (unhide HF7)) (unhide HB).1 11 (s : Int) ob oc os ot false
  unfold opX at CE
  have CE := hide CE
  go_wp2_with fail
  refine (unhide CE).mono ?_
  rintro e w9 ⟨z9, rfl, hz9, o9⟩
  have HF9 := hide ((unhide HF7).trans o9 (fun _ _ e => e))
  clear CE
  obtain rfl : z9 = 0 := tkz_det hz9 (unhide HD).tk
  have HA := hide ((unhide HA).keep o9 (fun e => e))
  have HA2 := hide ((unhide HA2).keep o9 (fun e => e))
  clear hz9 o9 a0 a1 a2 a3 a4 a5 b0
  have H9 := (unhide HH).1.quiet (unhide HF9)
  have kl := H9.lt
  obtain ⟨gl, cl, l1, l2⟩ := H9.lkAt hs4 (unhide HD).hT
  rw [(unhide HH).2.2.2.2] at l1
  obtain ⟨x, hx⟩ : ∃ x, M.lk s T.nm = x := ⟨_, rfl⟩
  rw [hx] at l2
  have a1 : w9.cell? ⟨ka, 1, none⟩ = some (.int .i64 (s : Int)) := (unhide HA).cell 1
  have hka := (unhide HA).lt
  have hr2 := (unhide HP).1
  rw [hx] at hr2
  have Hx := hide hx
  clear H9 hx
  by_cases hx2 : x = 2
  · subst hx2
    have d1 : decide ((2 : Int) > 1) = true := decide_eq_true (by decide)
    have d2 : decide (1 < (2 : Int)) = true := decide_eq_true (by decide)
    go_upto_region 16 with fail
    go_cut [93] from 82 to 93 (fun zv wx => zv = .bool true ∧ Only (fun _ => False) w9 wx)
    case first =>
      go_quiet (fail)
      go_wp2_with fail
      go_meet
      exact ⟨rfl, onlyQ _ _⟩
    case rest =>
    obtain ⟨rfl, oC⟩ := hcut
    generalize wc = wa at *
    have l1 := oC.cellF l1
    have l2 := oC.cellF l2
    have HAb := hide ((unhide HA).keep oC (fun e => e))
    have a1 : wa.cell? ⟨ka, 1, none⟩ = some (.int .i64 (s : Int)) := (unhide HAb).cell 1
    have hka := (unhide HAb).lt
    have kl := ((unhide HH).1.quiet ((unhide HF9).trans oC (fun _ _ e => e))).lt
    have HoC := hide oC
    clear oC d1 d2
    go_upto_region 17 with fail
    go_cut [13] from 94 to 103 (fun zv wx => zv = .int .i64 2 ∧ Only (fun _ => False) wa wx)
    case first =>
      go_quiet (fail)
      go_wp2_with fail
      go_meet
      exact ⟨rfl, onlyQ _ _⟩
    case rest =>
    obtain ⟨rfl, oC2⟩ := hcut
    generalize wc = wb at *
    have oC := (unhide HoC).trans oC2 (fun _ _ e => e)
    generalize hwa : wb = wa' at *
    clear hwa
    have HF := hide ((unhide HF9).trans oC (fun _ _ e => e))
    have HA := hide ((unhide HA).keep oC (fun e => e))
    have HA2 := hide ((unhide HA2).keep oC (fun e => e))
    clear l1 l2 a1 oC HF9 HF7
    have a1 : wa'.cell? ⟨ka, 1, none⟩ = some (.int .i64 (s : Int)) := (unhide HA).cell 1
    have b0 : wa'.cell? ⟨ka + 1, 0, none⟩ = some (.int .i64 an.e) := (unhide HA2).cell 0
    have hka := (unhide HA).lt
    have hkb := (unhide HA2).lt
    have CL := hide (xllocked_any ((unhide HH).1.quiet (unhide HF)) ((unhide HH).2.1.quiet (unhide HF)) (unhide HB).1 (unhide HD).nms (s : Int) (t : Int) 2 ((unhide HD).lkd (unhide HB).1.srt 2 (by rw [unhide Hx]; rw [if_pos (by decide)])))
    go_wp2_with fail
    refine (unhide CL).mono ?_
    rintro e wd ⟨rfl, oL⟩
    have HF := hide ((unhide HF).trans oL (fun _ _ e => e))
    have HA := hide ((unhide HA).keep oL (fun e => e))
    have HA2 := hide ((unhide HA2).keep oL (fun e => e))
    clear CL oL a1 b0
    have a1 : wd.cell? ⟨ka, 1, none⟩ = some (.int .i64 (s : Int)) := (unhide HA).cell 1
    have b0 : wd.cell? ⟨ka + 1, 0, none⟩ = some (.int .i64 an.e) := (unhide HA2).cell 0
    have hka := (unhide HA).lt
    have hkb := (unhide HA2).lt
    have H1 := (unhide HH).1.quiet (unhide HF)
    clear H1
    cases hz0 : (an.e != 0)
    all_goals
      have CA := hide (xlallStay_any ((unhide HH).1.quiet (unhide HF)) ((unhide HH).2.1.quiet (unhide HF)) (unhide HB).1 (unhide HB).2 (-1) (-1) (fun s t T hs hT _ => (unhide HS) s t T hs hT))
      go_wp2_with fail
      refine (unhide CA).mono ?_
      rintro e we ⟨rfl, oS⟩
      have HF := hide ((unhide HF).trans oS (fun _ _ e => e))
      have HA := hide ((unhide HA).keep oS (fun e => e))
      have HA2 := hide ((unhide HA2).keep oS (fun e => e))
      have HO := hide ((unhide HH).2.2.1.trans (unhide HF) (fun _ _ e => e))
      clear CA oS a1 b0
      have a0 : we.cell? ⟨ka, 0, none⟩ = some (.int .i64 11) := (unhide HA).cell 0
      have hka := (unhide HA).lt
      have hkb := (unhide HA2).lt
      go_wp2_with fail
      go_ret
      exact ⟨rfl, unhide HO⟩
  · have d1 : decide (x > 1) = false := decide_eq_false (by omega)
    have d2 : decide (1 < x) = false := decide_eq_false (by omega)
    go_upto_region 16 with fail
    go_cut [93] from 82 to 93 (fun zv wx => zv = .bool false ∧ Only (fun _ => False) w9 wx)
    case first =>
      go_quiet (fail)
      go_wp2_with fail
      go_meet
      exact ⟨rfl, onlyQ _ _⟩
    case rest =>
    obtain ⟨rfl, oC⟩ := hcut
    generalize wc = wa at *
    have HF := hide ((unhide HF9).trans oC (fun _ _ e => e))
    have HA := hide ((unhide HA).keep oC (fun e => e))
    have HA2 := hide ((unhide HA2).keep oC (fun e => e))
    clear l1 l2 a1 oC HF9 HF7
    have a1 : wa.cell? ⟨ka, 1, none⟩ = some (.int .i64 (s : Int)) := (unhide HA).cell 1
    have b0 : wa.cell? ⟨ka + 1, 0, none⟩ = some (.int .i64 an.e) := (unhide HA2).cell 0
    have hka := (unhide HA).lt
    have hkb := (unhide HA2).lt
    have CL := hide (xllocked_any ((unhide HH).1.quiet (unhide HF)) ((unhide HH).2.1.quiet (unhide HF)) (unhide HB).1 (unhide HD).nms (s : Int) (t : Int) 1 ((unhide HD).lkd (unhide HB).1.srt 1 (by rw [unhide Hx]; rw [if_neg (by omega)])))
    go_wp2_with fail
    refine (unhide CL).mono ?_
    rintro e wd ⟨rfl, oL⟩
    have HF := hide ((unhide HF).trans oL (fun _ _ e => e))
    have HA := hide ((unhide HA).keep oL (fun e => e))
    have HA2 := hide ((unhide HA2).keep oL (fun e => e))
    clear CL oL a1 b0
    have a1 : wd.cell? ⟨ka, 1, none⟩ = some (.int .i64 (s : Int)) := (unhide HA).cell 1
    have b0 : wd.cell? ⟨ka + 1, 0, none⟩ = some (.int .i64 an.e) := (unhide HA2).cell 0
    have hka := (unhide HA).lt
    have hkb := (unhide HA2).lt
    have H1 := (unhide HH).1.quiet (unhide HF)
    clear H1
    cases hz0 : (an.e != 0)
    all_goals
      have CA := hide (xlallStay_any ((unhide HH).1.quiet (unhide HF)) ((unhide HH).2.1.quiet (unhide HF)) (unhide HB).1 (unhide HB).2 (-1) (-1) (fun s t T hs hT _ => (unhide HS) s t T hs hT))
      go_wp2_with fail
      refine (unhide CA).mono ?_
      rintro e we ⟨rfl, oS⟩
      have HF := hide ((unhide HF).trans oS (fun _ _ e => e))
      have HA := hide ((unhide HA).keep oS (fun e => e))
      have HA2 := hide ((unhide HA2).keep oS (fun e => e))
      have HO := hide ((unhide HH).2.2.1.trans (unhide HF) (fun _ _ e => e))
      clear CA oS a1 b0
      have a0 : we.cell? ⟨ka, 0, none⟩ = some (.int .i64 11) := (unhide HA).cell 0
      have hka := (unhide HA).lt
      have hkb := (unhide HA2).lt
      go_wp2_with fail
      go_ret
      exact ⟨rfl, unhide HO⟩
end
end Go.Proofs.Qxb6500414aGreat
