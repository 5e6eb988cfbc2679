/-
  OWN WORK. TXN, Keeps: Data, kind 10 (written by tools/gen_xkd.py).
-/
import Derived.Test.Qxb6500414aGreatXKP2
namespace Go.Proofs.Qxb6500414aGreat
open Go.RowKit Go.PlainAid
set_option linter.unusedSimpArgs false
set_option linter.unusedVariables false
section
variable {lo : Nat} {w w' : World} {k k2 : Nat} {M N : Mu} {s t : Nat} {T : Tb} {am : AnM} {an : An} {a : Int}
set_option maxRecDepth 100000 in
set_option maxHeartbeats 4000000 in
theorem xldata_o10 (H : Sht lo w k M) (H2 : Sht lo w k2 N) (hB : MuB M) (hB2 : MuB N) (A : AnAt w am an) (ob oc : Int) (os ot : ByteArray) (ht : ot.size ≤ maxLen) (D : DtO M N s t T os 1) (hrg : 0 ≤ M.lk s T.nm ∧ M.lk s T.nm ≤ 2) (hpk : ∀ r, r ∈ M.rows s T.nm ∨ r ∈ N.rows s T.nm → T.pk < r.length) (hSt : Stay M N) (hL : Late an.e) (hrf : RfK (M.rows s T.nm) T.pk (fstP ot) an.e) (hlk : an.e = 0 → LkA M s T (fstP ot) an.row) : Calls Tryz.prog 81 #[.pointer (some ⟨k, 0, none⟩), .pointer (some ⟨k2, 0, none⟩), opX 10 (s : Int) ob oc os ot, .agg (anC am an)] w (fun e w' => e = .returned (.bool true) ∧ Only (fun _ => False) w w') := by
  obtain ⟨p1, p2, hp⟩ := A.row.shape
  obtain ⟨r1, r2, hr⟩ := ownsRow_shape A.own
  obtain ⟨t1, t2, ht'⟩ := A.col.shape
  obtain ⟨v1, v2, hv⟩ := ownsRow_shape A.nms
  obtain ⟨ln, hln⟩ : ∃ k, an.row.length = k := ⟨_, rfl⟩
  obtain ⟨ls, hls⟩ : ∃ k, am.Z.length = k := ⟨_, rfl⟩
  obtain ⟨lc, hlc⟩ : ∃ k, an.cols.length = k := ⟨_, rfl⟩
  obtain ⟨lm, hlm⟩ : ∃ k, an.names.length = k := ⟨_, rfl⟩
  rw [hln] at hp
  rw [hls] at hr
  rw [hlc] at ht'
  rw [hlm] at hv
  have o1 : Only (fun _ => False) w ((w.alloc (.cells #[.int .i64 10, .int .i64 (s : Int), .int .i64 ob, .int .i64 oc, .string os, .string ot] 44)).alloc (.cells #[.int .i64 an.e, .int .i64 an.n, .slice p1 ln p2, .slice r1 ls r2, .string an.nm, .slice t1 lc t2, .int .i64 an.pk, .int .i64 an.ix, .slice v1 lm v2] 54)) := ((Only.refl _ w).alloc _).alloc _
  have N1 : Has ((w.alloc (.cells #[.int .i64 10, .int .i64 (s : Int), .int .i64 ob, .int .i64 oc, .string os, .string ot] 44)).alloc (.cells #[.int .i64 an.e, .int .i64 an.n, .slice p1 ln p2, .slice r1 ls r2, .string an.nm, .slice t1 lc t2, .int .i64 an.pk, .int .i64 an.ix, .slice v1 lm v2] 54)) w.heap.size #[.int .i64 10, .int .i64 (s : Int), .int .i64 ob, .int .i64 oc, .string os, .string ot] 44 := (Has.new w _ _).alloc _
  have N2 : Has ((w.alloc (.cells #[.int .i64 10, .int .i64 (s : Int), .int .i64 ob, .int .i64 oc, .string os, .string ot] 44)).alloc (.cells #[.int .i64 an.e, .int .i64 an.n, .slice p1 ln p2, .slice r1 ls r2, .string an.nm, .slice t1 lc t2, .int .i64 an.pk, .int .i64 an.ix, .slice v1 lm v2] 54)) (w.heap.size + 1) #[.int .i64 an.e, .int .i64 an.n, .slice p1 ln p2, .slice r1 ls r2, .string an.nm, .slice t1 lc t2, .int .i64 an.pk, .int .i64 an.ix, .slice v1 lm v2] 54 := Has.new' _ _ _ _ (by simp)
  obtain ⟨n, hn⟩ : ∃ n, M.com.length = n := ⟨_, rfl⟩
  have hl := hB.len
  rw [hn] at hl
  have HH := hide (And.intro (H.quiet o1) (And.intro (H2.quiet o1) (And.intro o1 (And.intro ht hn))))
  have HB := hide (And.intro hB hB2)
  have HAn := hide (A.quiet o1)
  have HRS := hide (And.intro hp hln)
  have HN1 := hide N1
  have HN2 := hide N2
  have HS := hide hSt
  have HR := hide hrf
  have HLk := hide hlk
  have HD := hide D
  have HP := hide (And.intro hrg hpk)
  have hs4 := D.s4
  have s4 : (s : Int) < 4 := by omega
  have htl := (List.getElem?_eq_some_iff.mp D.hT).1
  rw [hn] at htl
  have tI : (t : Int) < (n : Int) := by omega
  obtain ⟨g20', g2', g10', g21'⟩ := hL
  have g20 : (an.e == 20) = false := ne_intO g20'
  have g2 : (an.e == 2) = false := ne_intO g2'
  have g10 : (an.e == 10) = false := ne_intO g10'
  have g21 : (an.e == 21) = false := ne_intO g21'
  unfold anC opX
  rw [hp, hr, ht', hv]
  clear H H2 hB hB2 A ht o1 N1 N2 hp hr ht' hv hln hls hlc hlm hn hSt hrf hlk D hrg hpk g20' g2' g10' g21'
  go_enter Tryz.func81, Tryz.ntmps81
  go_upto_region 1 with fail
  generalize ((w.alloc (.cells #[.int .i64 10, .int .i64 (s : Int), .int .i64 ob, .int .i64 oc, .string os, .string ot] 44)).alloc (.cells #[.int .i64 an.e, .int .i64 an.n, .slice p1 ln p2, .slice r1 ls r2, .string an.nm, .slice t1 lc t2, .int .i64 an.pk, .int .i64 an.ix, .slice v1 lm v2] 54)) = w1 at *
  have k1 := (unhide HN1).lt
  have k2' := (unhide HN2).lt
  generalize hka : w.heap.size = ka at *
  clear hka
  obtain ⟨pa, pc, q0', pO⟩ := (unhide HH).1.names
  obtain ⟨qa, qc, q0, qO⟩ := (unhide HH).2.1.names
  rw [len_at (unhide HD).nms] at q0 qO
  have p0 := q0'
  clear q0'
  have oD : Only (fun _ => False) w1 w1.drew := (Only.refl _ w1).drew
  have CN := sameNames_any (w := w1.drew) (ownsRow_keep pO oD (fun _ _ e => e)) (ownsRow_keep qO oD (fun _ _ e => e)) (by unfold namesD; rw [List.length_map]; have := (unhide HB).1.len; omega) true (decide_eq_true (unhide HD).nms)
  have kl := (unhide HH).1.lt
  have kl2 := (unhide HH).2.1.lt
  rw [(unhide HH).2.2.2.2] at p0 q0 CN
  have CN := hide CN
  clear pO qO oD
  refine wp_region_held_drew (S := (fun w' => w'.cell? ⟨k, 0, none⟩ = some (.slice pa n pc) ∧ w'.cell? ⟨k2, 0, none⟩ = some (.slice qa n qc))) (by kernel_rfl) ⟨p0, q0⟩ (fun hH0 => ?_)
  refine takeH 0 16 (v := ?vnz11) rfl rfl (by kernel_rfl) (by kernel_rfl) (by kernel_rfl) (fun _ _ _ h => h) (Or.inl ⟨by rfl, ?hnz11⟩) hH0 ?rnz11
  case hnz11 => (intro w hSw; clear hSw; go_simp; (try with_reducible rfl))
  case rnz11 =>
  try simp only [Act.put, List.setIfInBounds_toArray, List.set_cons_zero, List.set_cons_succ]
  refine takeH 1 17 (v := ?vnz12) rfl rfl (by kernel_rfl) (by kernel_rfl) (by kernel_rfl) (fun _ _ _ h => h) (Or.inl ⟨by rfl, ?hnz12⟩) hH0 ?rnz12
  case hnz12 => (intro w hSw; clear hSw; go_simp; (try with_reducible rfl))
  case rnz12 =>
  try simp only [Act.put, List.setIfInBounds_toArray, List.set_cons_zero, List.set_cons_succ]
  refine takeH 2 18 (v := ?vnz13) rfl rfl (by kernel_rfl) (by kernel_rfl) (by kernel_rfl) (fun _ _ _ h => h) (Or.inl ⟨by rfl, ?hnz13⟩) hH0 ?rnz13
  case hnz13 => (intro w hSw; clear hSw; go_simp; (try with_reducible rfl))
  case rnz13 =>
  try simp only [Act.put, List.setIfInBounds_toArray, List.set_cons_zero, List.set_cons_succ]
  refine takeH 3 19 (v := ?vnz14) rfl rfl (by kernel_rfl) (by kernel_rfl) (by kernel_rfl) (fun _ _ _ h => h) (Or.inl ⟨by rfl, ?hnz14⟩) hH0 ?rnz14
  case hnz14 => (intro w hSw; obtain ⟨s0, s1⟩ := hSw; go_simp; (try with_reducible rfl))
  case rnz14 =>
  try simp only [Act.put, List.setIfInBounds_toArray, List.set_cons_zero, List.set_cons_succ]
  refine takeH 4 20 (v := ?vnz15) rfl rfl (by kernel_rfl) (by kernel_rfl) (by kernel_rfl) (fun _ _ _ h => h) (Or.inl ⟨by rfl, ?hnz15⟩) hH0 ?rnz15
  case hnz15 => (intro w hSw; clear hSw; go_simp; (try with_reducible rfl))
  case rnz15 =>
  try simp only [Act.put, List.setIfInBounds_toArray, List.set_cons_zero, List.set_cons_succ]
  refine takeH 5 21 (v := ?vnz16) rfl rfl (by kernel_rfl) (by kernel_rfl) (by kernel_rfl) (fun _ _ _ h => h) (Or.inl ⟨by rfl, ?hnz16⟩) hH0 ?rnz16
  case hnz16 => (intro w hSw; clear hSw; go_simp; (try with_reducible rfl))
  case rnz16 =>
  try simp only [Act.put, List.setIfInBounds_toArray, List.set_cons_zero, List.set_cons_succ]
  refine takeH 6 22 (v := ?vnz17) rfl rfl (by kernel_rfl) (by kernel_rfl) (by kernel_rfl) (fun _ _ _ h => h) (Or.inl ⟨by rfl, ?hnz17⟩) hH0 ?rnz17
  case hnz17 => (intro w hSw; clear hSw; go_simp; (try with_reducible rfl))
  case rnz17 =>
  try simp only [Act.put, List.setIfInBounds_toArray, List.set_cons_zero, List.set_cons_succ]
  refine takeH 7 23 (v := ?vnz18) rfl rfl (by kernel_rfl) (by kernel_rfl) (by kernel_rfl) (fun _ _ _ h => h) (Or.inl ⟨by rfl, ?hnz18⟩) hH0 ?rnz18
  case hnz18 => (intro w hSw; obtain ⟨s0, s1⟩ := hSw; go_simp; (try with_reducible rfl))
  case rnz18 =>
  try simp only [Act.put, List.setIfInBounds_toArray, List.set_cons_zero, List.set_cons_succ]
  refine callH 8 (by kernel_rfl) rfl 24 rfl rfl 86 Tryz.func86 (by kernel_rfl) (by kernel_rfl) #[.tmp 19, .tmp 23] #[52, 52] rfl #[.slice pa n pc, .slice qa n qc] (by simp [Act.eval]) (R := fun v w' => v = .bool true ∧ Only (fun _ => False) w1.drew w') ((unhide CN).mono (by rintro en w' ⟨rfl, o⟩; exact ⟨_, rfl, rfl, o⟩)) ?knz1
  case knz1 =>
  rintro _ w6 ⟨rfl, o6⟩
  have S6 : w6.cell? ⟨k, 0, none⟩ = some (.slice pa n pc) ∧ w6.cell? ⟨k2, 0, none⟩ = some (.slice qa n qc) := ⟨o6.cellF hH0.1, o6.cellF hH0.2⟩
  refine ⟨S6, ?_⟩
  try simp only [Act.put, List.setIfInBounds_toArray, List.set_cons_zero, List.set_cons_succ]
  refine takeH 9 25 (v := ?vnz19) rfl rfl (by kernel_rfl) (by kernel_rfl) (by kernel_rfl) (fun _ _ _ h => h) (Or.inl ⟨by rfl, ?hnz19⟩) S6 ?rnz19
  case hnz19 => (intro w hSw; clear hSw; go_simp; (try with_reducible rfl))
  case rnz19 =>
  try simp only [Act.put, List.setIfInBounds_toArray, List.set_cons_zero, List.set_cons_succ]
  refine wpAnyH_done (by kernel_rfl) ?_ _
  have oD : Only (fun _ => False) w1 w6 := (Only.refl _ w1).drew.trans o6 (fun _ _ e => e)
  have HF := hide oD
  clear hH0 S6 o6 oD
  clear CN p0 q0 kl kl2
  have CH := hide (xlheld_any ((unhide HH).1.quiet (unhide HF)) ((unhide HH).2.1.quiet (unhide HF)) (unhide HB).1 (unhide HD).nms (unhide HD).held)
  go_wp2_with fail
  refine (unhide CH).mono ?_
  rintro e w7 ⟨rfl, o7⟩
  have HF7 := hide ((unhide HF).trans o7 (fun _ _ e => e))
  clear CH o7 HF
  have CP := hide (xlplace_any ((unhide HH).1.quiet (unhide HF7)) (unhide HB).1 os)
  have HA := hide ((unhide HN1).keep (unhide HF7) (fun e => e))
  have HA2 := hide ((unhide HN2).keep (unhide HF7) (fun e => e))
  have hka := (unhide HA).lt
  have hkb := (unhide HA2).lt
  have a0 : w7.cell? ⟨ka, 0, none⟩ = some (.int .i64 10) := (unhide HA).cell 0
  have a1 : w7.cell? ⟨ka, 1, none⟩ = some (.int .i64 (s : Int)) := (unhide HA).cell 1
  have a2 : w7.cell? ⟨ka, 2, none⟩ = some (.int .i64 ob) := (unhide HA).cell 2
  have a3 : w7.cell? ⟨ka, 3, none⟩ = some (.int .i64 oc) := (unhide HA).cell 3
  have a4 : w7.cell? ⟨ka, 4, none⟩ = some (.string os) := (unhide HA).cell 4
  have a5 : w7.cell? ⟨ka, 5, none⟩ = some (.string ot) := (unhide HA).cell 5
  have b0 : w7.cell? ⟨ka + 1, 0, none⟩ = some (.int .i64 an.e) := (unhide HA2).cell 0
  go_wp2_with fail
  refine (unhide CP).mono ?_
  rintro e w8 ⟨z, rfl, hz, rfl⟩
  clear CP
  obtain rfl : z = t := PlR.at_ (unhide HB).1.srt (unhide HD).hT (by rw [(unhide HD).nm]; exact hz)
  clear hz
  have CE := xlearly_any ((unhide HH).1.quiet (unhide HF7)) (unhide HB).1 10 (s : Int) ob oc os ot false
  unfold opX at CE
  have CE := hide CE
  go_wp2_with fail
  refine (unhide CE).mono ?_
  rintro e w9 ⟨z9, rfl, hz9, o9⟩
  have HF9 := hide ((unhide HF7).trans o9 (fun _ _ e => e))
  clear CE
  obtain rfl : z9 = 0 := tkz_det hz9 (unhide HD).tk
  have HA := hide ((unhide HA).keep o9 (fun e => e))
  have HA2 := hide ((unhide HA2).keep o9 (fun e => e))
  clear hz9 o9 a0 a1 a2 a3 a4 a5 b0
  have H9 := (unhide HH).1.quiet (unhide HF9)
  have kl := H9.lt
  obtain ⟨gl, cl, l1, l2⟩ := H9.lkAt hs4 (unhide HD).hT
  rw [(unhide HH).2.2.2.2] at l1
  obtain ⟨x, hx⟩ : ∃ x, M.lk s T.nm = x := ⟨_, rfl⟩
  rw [hx] at l2
  have a1 : w9.cell? ⟨ka, 1, none⟩ = some (.int .i64 (s : Int)) := (unhide HA).cell 1
  have hka := (unhide HA).lt
  have hr2 := (unhide HP).1
  rw [hx] at hr2
  have Hx := hide hx
  clear H9 hx
  by_cases hx2 : x = 2
  · subst hx2
    have d1 : decide ((2 : Int) > 1) = true := decide_eq_true (by decide)
    have d2 : decide (1 < (2 : Int)) = true := decide_eq_true (by decide)
    go_upto_region 16 with fail
    go_cut [93] from 82 to 93 (fun zv wx => zv = .bool true ∧ Only (fun _ => False) w9 wx)
    case first =>
      go_quiet (fail)
      go_wp2_with fail
      go_meet
      exact ⟨rfl, onlyQ _ _⟩
    case rest =>
    obtain ⟨rfl, oC⟩ := hcut
    generalize wc = wa at *
    have l1 := oC.cellF l1
    have l2 := oC.cellF l2
    have HAb := hide ((unhide HA).keep oC (fun e => e))
    have a1 : wa.cell? ⟨ka, 1, none⟩ = some (.int .i64 (s : Int)) := (unhide HAb).cell 1
    have hka := (unhide HAb).lt
    have kl := ((unhide HH).1.quiet ((unhide HF9).trans oC (fun _ _ e => e))).lt
    have HoC := hide oC
    clear oC d1 d2
    go_upto_region 17 with fail
    go_cut [13] from 94 to 103 (fun zv wx => zv = .int .i64 2 ∧ Only (fun _ => False) wa wx)
    case first =>
      go_quiet (fail)
      go_wp2_with fail
      go_meet
      exact ⟨rfl, onlyQ _ _⟩
    case rest =>
    obtain ⟨rfl, oC2⟩ := hcut
    generalize wc = wb at *
    have oC := (unhide HoC).trans oC2 (fun _ _ e => e)
    generalize hwa : wb = wa' at *
    clear hwa
    have HF := hide ((unhide HF9).trans oC (fun _ _ e => e))
    have HA := hide ((unhide HA).keep oC (fun e => e))
    have HA2 := hide ((unhide HA2).keep oC (fun e => e))
    clear l1 l2 a1 oC HF9 HF7
    have a1 : wa'.cell? ⟨ka, 1, none⟩ = some (.int .i64 (s : Int)) := (unhide HA).cell 1
    have b0 : wa'.cell? ⟨ka + 1, 0, none⟩ = some (.int .i64 an.e) := (unhide HA2).cell 0
    have hka := (unhide HA).lt
    have hkb := (unhide HA2).lt
    have CL := hide (xllocked_any ((unhide HH).1.quiet (unhide HF)) ((unhide HH).2.1.quiet (unhide HF)) (unhide HB).1 (unhide HD).nms (s : Int) (t : Int) 2 ((unhide HD).lkd (unhide HB).1.srt 2 (by rw [unhide Hx]; rw [if_pos (by decide)])))
    go_wp2_with fail
    refine (unhide CL).mono ?_
    rintro e wd ⟨rfl, oL⟩
    have HF := hide ((unhide HF).trans oL (fun _ _ e => e))
    have HA := hide ((unhide HA).keep oL (fun e => e))
    have HA2 := hide ((unhide HA2).keep oL (fun e => e))
    clear CL oL a1 b0
    have a1 : wd.cell? ⟨ka, 1, none⟩ = some (.int .i64 (s : Int)) := (unhide HA).cell 1
    have b0 : wd.cell? ⟨ka + 1, 0, none⟩ = some (.int .i64 an.e) := (unhide HA2).cell 0
    have hka := (unhide HA).lt
    have hkb := (unhide HA2).lt
    have H1 := (unhide HH).1.quiet (unhide HF)
    clear H1
    by_cases hz0 : an.e = 0
    · have n0 : (an.e != 0) = false := by simp [hz0]
      have n1 : (an.e == 0) = true := by simp [hz0]
      have HZ := hide hz0
      clear hz0
      have CA := hide (xlallStay_any ((unhide HH).1.quiet (unhide HF)) ((unhide HH).2.1.quiet (unhide HF)) (unhide HB).1 (unhide HB).2 (-1) (-1) (fun s t T hs hT _ => (unhide HS) s t T hs hT))
      go_wp2_with fail
      refine (unhide CA).mono ?_
      rintro e we ⟨rfl, oS⟩
      have HF := hide ((unhide HF).trans oS (fun _ _ e => e))
      have HA := hide ((unhide HA).keep oS (fun e => e))
      have HA2 := hide ((unhide HA2).keep oS (fun e => e))
      have HO := hide ((unhide HH).2.2.1.trans (unhide HF) (fun _ _ e => e))
      clear CA oS a1 b0
      have a0 : we.cell? ⟨ka, 0, none⟩ = some (.int .i64 10) := (unhide HA).cell 0
      have hka := (unhide HA).lt
      have hkb := (unhide HA2).lt
      go_upto_region 24 with fail
      have H1 := (unhide HH).1.quiet (unhide HF)
      have kl := H1.lt
      obtain ⟨gp, cp, za, zc, r1', r2', pR⟩ := H1.rowsAt hs4 (unhide HD).hT
      obtain ⟨gk, ck, u1, u2⟩ := H1.pkAt (unhide HD).hT
      rw [(unhide HH).2.2.2.2] at r1' u1
      have oD : Only (fun _ => False) we we.drew := (Only.refl _ we).drew
      have CR := xlrefusal_key (w := we.drew) (pR.quiet oD) T.pk (((unhide HB).1.rl s hs4 T.nm).1) (fun r hr => ⟨(unhide HP).2 r (.inl hr), by have := ((unhide HB).1.rl s hs4 T.nm).2 r hr; omega⟩) 10 (s : Int) ob oc os ot (unhide HH).2.2.2.1 an.e (by decide) (by decide) ((unhide HR))
      unfold opX at CR
      obtain ⟨zn, hzn⟩ : ∃ z, (M.rows s T.nm).length = z := ⟨_, rfl⟩
      rw [hzn] at r2' CR
      generalize T.pk = pk at u2 CR
      have CR := hide CR
      clear H1 pR oD hzn
      have a1 : we.cell? ⟨ka, 1, none⟩ = some (.int .i64 (s : Int)) := (unhide HA).cell 1
      have a2 : we.cell? ⟨ka, 2, none⟩ = some (.int .i64 ob) := (unhide HA).cell 2
      have a3 : we.cell? ⟨ka, 3, none⟩ = some (.int .i64 oc) := (unhide HA).cell 3
      have a4 : we.cell? ⟨ka, 4, none⟩ = some (.string os) := (unhide HA).cell 4
      have a5 : we.cell? ⟨ka, 5, none⟩ = some (.string ot) := (unhide HA).cell 5
      have b0 : we.cell? ⟨ka + 1, 0, none⟩ = some (.int .i64 an.e) := (unhide HA2).cell 0
      have HFe := hide (unhide HF)
      have HAe := hide (unhide HA)
      have HAe2 := hide (unhide HA2)
      clear HF HA HA2 HO
      refine wp_region_held_drew (S := (fun w' => w'.cell? ⟨k, 2 + s, none⟩ = some (.slice (some ⟨gp, 0, none⟩) n cp) ∧ w'.cell? ⟨gp, t, none⟩ = some (.slice za zn zc) ∧ w'.cell? ⟨k, 1, none⟩ = some (.slice (some ⟨gk, 0, none⟩) n ck) ∧ w'.cell? ⟨gk, t, none⟩ = some (.int .i64 (pk : Int)) ∧ w'.cell? ⟨ka + 1, 0, none⟩ = some (.int .i64 an.e) ∧ w'.cell? ⟨ka, 0, none⟩ = some (.int .i64 10) ∧ w'.cell? ⟨ka, 1, none⟩ = some (.int .i64 (s : Int)) ∧ w'.cell? ⟨ka, 2, none⟩ = some (.int .i64 ob) ∧ w'.cell? ⟨ka, 3, none⟩ = some (.int .i64 oc) ∧ w'.cell? ⟨ka, 4, none⟩ = some (.string os) ∧ w'.cell? ⟨ka, 5, none⟩ = some (.string ot))) (by kernel_rfl) ⟨r1', r2', u1, u2, b0, a0, a1, a2, a3, a4, a5⟩ (fun hH0 => ?_)
      refine takeH 0 126 (v := ?vfz21) rfl rfl (by kernel_rfl) (by kernel_rfl) (by kernel_rfl) (fun _ _ _ h => h) (Or.inl ⟨by rfl, ?hfz21⟩) hH0 ?rfz21
      case hfz21 => (intro w hSw; clear hSw; go_simp; (try with_reducible rfl))
      case rfz21 =>
      try simp only [Act.put, List.setIfInBounds_toArray, List.set_cons_zero, List.set_cons_succ]
      refine takeH 1 127 (v := ?vfz22) rfl rfl (by kernel_rfl) (by kernel_rfl) (by kernel_rfl) (fun _ _ _ h => h) (Or.inl ⟨by rfl, ?hfz22⟩) hH0 ?rfz22
      case hfz22 => (intro w hSw; clear hSw; go_simp; (try with_reducible rfl))
      case rfz22 =>
      try simp only [Act.put, List.setIfInBounds_toArray, List.set_cons_zero, List.set_cons_succ]
      refine takeH 2 128 (v := ?vfz23) rfl rfl (by kernel_rfl) (by kernel_rfl) (by kernel_rfl) (fun _ _ _ h => h) (Or.inl ⟨by rfl, ?hfz23⟩) hH0 ?rfz23
      case hfz23 => (intro w hSw; obtain ⟨s0, s1, s2, s3, s4, s5, s6, s7, s8, s9, s10⟩ := hSw; go_simp; (try with_reducible rfl))
      case rfz23 =>
      try simp only [Act.put, List.setIfInBounds_toArray, List.set_cons_zero, List.set_cons_succ]
      refine takeH 3 129 (v := ?vfz24) rfl rfl (by kernel_rfl) (by kernel_rfl) (by kernel_rfl) (fun _ _ _ h => h) (Or.inl ⟨by rfl, ?hfz24⟩) hH0 ?rfz24
      case hfz24 => (intro w hSw; clear hSw; go_simp; (try with_reducible rfl))
      case rfz24 =>
      try simp only [Act.put, List.setIfInBounds_toArray, List.set_cons_zero, List.set_cons_succ]
      refine takeH 4 130 (v := ?vfz25) rfl rfl (by kernel_rfl) (by kernel_rfl) (by kernel_rfl) (fun _ _ _ h => h) (Or.inl ⟨by rfl, ?hfz25⟩) hH0 ?rfz25
      case hfz25 => (intro w hSw; clear hSw; go_simp; (try with_reducible rfl))
      case rfz25 =>
      try simp only [Act.put, List.setIfInBounds_toArray, List.set_cons_zero, List.set_cons_succ]
      refine takeH 5 131 (v := ?vfz26) rfl rfl (by kernel_rfl) (by kernel_rfl) (by kernel_rfl) (fun _ _ _ h => h) (Or.inl ⟨by rfl, ?hfz26⟩) hH0 ?rfz26
      case hfz26 => (intro w hSw; clear hSw; go_simp; (try with_reducible rfl))
      case rfz26 =>
      try simp only [Act.put, List.setIfInBounds_toArray, List.set_cons_zero, List.set_cons_succ]
      refine takeH 6 132 (v := ?vfz27) rfl rfl (by kernel_rfl) (by kernel_rfl) (by kernel_rfl) (fun _ _ _ h => h) (Or.inl ⟨by rfl, ?hfz27⟩) hH0 ?rfz27
      case hfz27 => (intro w hSw; obtain ⟨s0, s1, s2, s3, s4, s5, s6, s7, s8, s9, s10⟩ := hSw; go_simp; (try with_reducible rfl))
      case rfz27 =>
      try simp only [Act.put, List.setIfInBounds_toArray, List.set_cons_zero, List.set_cons_succ]
      refine takeH 7 133 (v := ?vfz28) rfl rfl (by kernel_rfl) (by kernel_rfl) (by kernel_rfl) (fun _ _ _ h => h) (Or.inl ⟨by rfl, ?hfz28⟩) hH0 ?rfz28
      case hfz28 => (intro w hSw; clear hSw; go_simp; (try with_reducible rfl))
      case rfz28 =>
      try simp only [Act.put, List.setIfInBounds_toArray, List.set_cons_zero, List.set_cons_succ]
      refine takeH 8 134 (v := ?vfz29) rfl rfl (by kernel_rfl) (by kernel_rfl) (by kernel_rfl) (fun _ _ _ h => h) (Or.inl ⟨by rfl, ?hfz29⟩) hH0 ?rfz29
      case hfz29 => (intro w hSw; clear hSw; go_simp; (try with_reducible rfl))
      case rfz29 =>
      try simp only [Act.put, List.setIfInBounds_toArray, List.set_cons_zero, List.set_cons_succ]
      refine takeH 9 135 (v := ?vfz210) rfl rfl (by kernel_rfl) (by kernel_rfl) (by kernel_rfl) (fun _ _ _ h => h) (Or.inl ⟨by rfl, ?hfz210⟩) hH0 ?rfz210
      case hfz210 => (intro w hSw; obtain ⟨s0, s1, s2, s3, s4, s5, s6, s7, s8, s9, s10⟩ := hSw; go_simp; (try with_reducible rfl))
      case rfz210 =>
      try simp only [Act.put, List.setIfInBounds_toArray, List.set_cons_zero, List.set_cons_succ]
      refine takeH 10 136 (v := ?vfz211) rfl rfl (by kernel_rfl) (by kernel_rfl) (by kernel_rfl) (fun _ _ _ h => h) (Or.inl ⟨by rfl, ?hfz211⟩) hH0 ?rfz211
      case hfz211 => (intro w hSw; clear hSw; go_simp; (try with_reducible rfl))
      case rfz211 =>
      try simp only [Act.put, List.setIfInBounds_toArray, List.set_cons_zero, List.set_cons_succ]
      refine takeH 11 137 (v := ?vfz212) rfl rfl (by kernel_rfl) (by kernel_rfl) (by kernel_rfl) (fun _ _ _ h => h) (Or.inl ⟨by rfl, ?hfz212⟩) hH0 ?rfz212
      case hfz212 => (intro w hSw; clear hSw; go_simp; (try with_reducible rfl))
      case rfz212 =>
      try simp only [Act.put, List.setIfInBounds_toArray, List.set_cons_zero, List.set_cons_succ]
      refine takeH 12 138 (v := ?vfz213) rfl rfl (by kernel_rfl) (by kernel_rfl) (by kernel_rfl) (fun _ _ _ h => h) (Or.inl ⟨by rfl, ?hfz213⟩) hH0 ?rfz213
      case hfz213 => (intro w hSw; clear hSw; go_simp; (try with_reducible rfl))
      case rfz213 =>
      try simp only [Act.put, List.setIfInBounds_toArray, List.set_cons_zero, List.set_cons_succ]
      refine takeH 13 139 (v := ?vfz214) rfl rfl (by kernel_rfl) (by kernel_rfl) (by kernel_rfl) (fun _ _ _ h => h) (Or.inl ⟨by rfl, ?hfz214⟩) hH0 ?rfz214
      case hfz214 => (intro w hSw; obtain ⟨s0, s1, s2, s3, s4, s5, s6, s7, s8, s9, s10⟩ := hSw; go_simp; (try with_reducible rfl))
      case rfz214 =>
      try simp only [Act.put, List.setIfInBounds_toArray, List.set_cons_zero, List.set_cons_succ]
      refine takeH 14 140 (v := ?vfz215) rfl rfl (by kernel_rfl) (by kernel_rfl) (by kernel_rfl) (fun _ _ _ h => h) (Or.inl ⟨by rfl, ?hfz215⟩) hH0 ?rfz215
      case hfz215 => (intro w hSw; clear hSw; go_simp; (try with_reducible rfl))
      case rfz215 =>
      try simp only [Act.put, List.setIfInBounds_toArray, List.set_cons_zero, List.set_cons_succ]
      refine takeH 15 141 (v := ?vfz216) rfl rfl (by kernel_rfl) (by kernel_rfl) (by kernel_rfl) (fun _ _ _ h => h) (Or.inl ⟨by rfl, ?hfz216⟩) hH0 ?rfz216
      case hfz216 => (intro w hSw; clear hSw; go_simp; (try with_reducible rfl))
      case rfz216 =>
      try simp only [Act.put, List.setIfInBounds_toArray, List.set_cons_zero, List.set_cons_succ]
      refine takeH 16 142 (v := ?vfz217) rfl rfl (by kernel_rfl) (by kernel_rfl) (by kernel_rfl) (fun _ _ _ h => h) (Or.inl ⟨by rfl, ?hfz217⟩) hH0 ?rfz217
      case hfz217 => (intro w hSw; obtain ⟨s0, s1, s2, s3, s4, s5, s6, s7, s8, s9, s10⟩ := hSw; go_simp; (try with_reducible rfl))
      case rfz217 =>
      try simp only [Act.put, List.setIfInBounds_toArray, List.set_cons_zero, List.set_cons_succ]
      refine takeH 17 143 (v := ?vfz218) rfl rfl (by kernel_rfl) (by kernel_rfl) (by kernel_rfl) (fun _ _ _ h => h) (Or.inl ⟨by rfl, ?hfz218⟩) hH0 ?rfz218
      case hfz218 => (intro w hSw; obtain ⟨s0, s1, s2, s3, s4, s5, s6, s7, s8, s9, s10⟩ := hSw; go_simp; (try with_reducible rfl))
      case rfz218 =>
      try simp only [Act.put, List.setIfInBounds_toArray, List.set_cons_zero, List.set_cons_succ]
      refine takeH 18 144 (v := ?vfz219) rfl rfl (by kernel_rfl) (by kernel_rfl) (by kernel_rfl) (fun _ _ _ h => h) (Or.inl ⟨by rfl, ?hfz219⟩) hH0 ?rfz219
      case hfz219 => (intro w hSw; clear hSw; go_simp; (try with_reducible rfl))
      case rfz219 =>
      try simp only [Act.put, List.setIfInBounds_toArray, List.set_cons_zero, List.set_cons_succ]
      refine takeH 19 145 (v := ?vfz220) rfl rfl (by kernel_rfl) (by kernel_rfl) (by kernel_rfl) (fun _ _ _ h => h) (Or.inl ⟨by rfl, ?hfz220⟩) hH0 ?rfz220
      case hfz220 => (intro w hSw; obtain ⟨s0, s1, s2, s3, s4, s5, s6, s7, s8, s9, s10⟩ := hSw; go_simp; (try with_reducible rfl))
      case rfz220 =>
      try simp only [Act.put, List.setIfInBounds_toArray, List.set_cons_zero, List.set_cons_succ]
      refine callH 20 (by kernel_rfl) rfl 146 rfl rfl 170 Tryz.func170 (by kernel_rfl) (by kernel_rfl) #[.tmp 135, .tmp 142, .tmp 143, .tmp 145] #[48, 3, 44, 46] rfl #[.slice za zn zc, .int .i64 (pk : Int), .agg #[.int .i64 10, .int .i64 (s : Int), .int .i64 ob, .int .i64 oc, .string os, .string ot], .int .i64 an.e] (by simp [Act.eval]) (R := fun v w' => v = .bool true ∧ Only (fun _ => False) we.drew w') ((unhide CR).mono (by rintro en w' ⟨rfl, o⟩; exact ⟨_, rfl, rfl, o⟩)) ?kfz2
      case kfz2 =>
      rintro _ w6 ⟨rfl, o6⟩
      have S6 : w6.cell? ⟨k, 2 + s, none⟩ = some (.slice (some ⟨gp, 0, none⟩) n cp) ∧ w6.cell? ⟨gp, t, none⟩ = some (.slice za zn zc) ∧ w6.cell? ⟨k, 1, none⟩ = some (.slice (some ⟨gk, 0, none⟩) n ck) ∧ w6.cell? ⟨gk, t, none⟩ = some (.int .i64 (pk : Int)) ∧ w6.cell? ⟨ka + 1, 0, none⟩ = some (.int .i64 an.e) ∧ w6.cell? ⟨ka, 0, none⟩ = some (.int .i64 10) ∧ w6.cell? ⟨ka, 1, none⟩ = some (.int .i64 (s : Int)) ∧ w6.cell? ⟨ka, 2, none⟩ = some (.int .i64 ob) ∧ w6.cell? ⟨ka, 3, none⟩ = some (.int .i64 oc) ∧ w6.cell? ⟨ka, 4, none⟩ = some (.string os) ∧ w6.cell? ⟨ka, 5, none⟩ = some (.string ot) := ⟨o6.cellF hH0.1, o6.cellF hH0.2.1, o6.cellF hH0.2.2.1, o6.cellF hH0.2.2.2.1, o6.cellF hH0.2.2.2.2.1, o6.cellF hH0.2.2.2.2.2.1, o6.cellF hH0.2.2.2.2.2.2.1, o6.cellF hH0.2.2.2.2.2.2.2.1, o6.cellF hH0.2.2.2.2.2.2.2.2.1, o6.cellF hH0.2.2.2.2.2.2.2.2.2.1, o6.cellF hH0.2.2.2.2.2.2.2.2.2.2⟩
      refine ⟨S6, ?_⟩
      try simp only [Act.put, List.setIfInBounds_toArray, List.set_cons_zero, List.set_cons_succ]
      refine takeH 21 147 (v := ?vfz221) rfl rfl (by kernel_rfl) (by kernel_rfl) (by kernel_rfl) (fun _ _ _ h => h) (Or.inl ⟨by rfl, ?hfz221⟩) S6 ?rfz221
      case hfz221 => (intro w hSw; clear hSw; go_simp; (try with_reducible rfl))
      case rfz221 =>
      try simp only [Act.put, List.setIfInBounds_toArray, List.set_cons_zero, List.set_cons_succ]
      refine wpAnyH_done (by kernel_rfl) ?_ _
      have oD : Only (fun _ => False) we w6 := (Only.refl _ we).drew.trans o6 (fun _ _ e => e)
      have HF := hide oD
      clear hH0 S6 o6 oD
      have HA := hide ((unhide HAe).keep (unhide HF) (fun e => e))
      have HA2 := hide ((unhide HAe2).keep (unhide HF) (fun e => e))
      have HFx := hide ((unhide HFe).trans (unhide HF) (fun _ _ e => e))
      have HO := hide ((unhide HH).2.2.1.trans (unhide HFx) (fun _ _ e => e))
      clear CR r1' r2' u1 u2 a0 a1 a2 a3 a4 a5 b0 HF HFe HAe HAe2
      have a0 : w6.cell? ⟨ka, 0, none⟩ = some (.int .i64 10) := (unhide HA).cell 0
      have b0 : w6.cell? ⟨ka + 1, 0, none⟩ = some (.int .i64 an.e) := (unhide HA2).cell 0
      have hka := (unhide HA).lt
      have hkb := (unhide HA2).lt
      have a5 : w6.cell? ⟨ka, 5, none⟩ = some (.string ot) := (unhide HA).cell 5
      have C1 := eFirst_any ot (unhide HH).2.2.2.1 w6
      have HK := hide ((unhide HLk) (unhide HZ))
      generalize fstP ot = key at *
      unfold vlA at C1
      have C1 := hide C1
      go_wp2_with fail
      refine (unhide C1).mono ?_
      rintro e1 wf ⟨rfl, o3⟩
      have o4 : Only (fun _ => False) wf (wf.alloc (.cells #[.bool key.str, .int .i64 key.i, .string key.s] 106)) := (Only.refl _ wf).alloc _
      have o34 := o3.trans o4 (fun _ _ e => e)
      have HNK := hide (Has.new wf #[.bool key.str, .int .i64 key.i, .string key.s] 106)
      have HA := hide ((unhide HA).keep o34 (fun e => e))
      have HA2 := hide ((unhide HA2).keep o34 (fun e => e))
      have HFx := hide ((unhide HFx).trans o34 (fun _ _ e => e))
      clear C1 o3 o4 o34 a0 a5 b0 HO HR HLk
      go_upto_region 28 with fail
      generalize wf.alloc (.cells #[.bool key.str, .int .i64 key.i, .string key.s] 106) = wg at *
      generalize wf.heap.size = kk at *
      have H1 := (unhide HH).1.quiet (unhide HFx)
      have kl := H1.lt
      obtain ⟨gp, cp, za, zc, r1', r2', pR⟩ := H1.rowsAt hs4 (unhide HD).hT
      obtain ⟨gk, ck, u1, u2⟩ := H1.pkAt (unhide HD).hT
      rw [(unhide HH).2.2.2.2] at r1' u1
      have oD : Only (fun _ => False) wg wg.drew := (Only.refl _ wg).drew
      have CU := xlunder_any (w := wg.drew) (pR.quiet oD) T.pk key (by have := ((unhide HB).1.rl s hs4 T.nm).1; omega) (fun r hr => ⟨(unhide HP).2 r (.inl hr), by have := ((unhide HB).1.rl s hs4 T.nm).2 r hr; omega⟩)
      unfold vlA at CU
      have HpR := hide pR
      obtain ⟨zn, hzn⟩ : ∃ z, (M.rows s T.nm).length = z := ⟨_, rfl⟩
      rw [hzn] at r2' CU
      have Hzn := hide hzn
      obtain ⟨pk, hpk'⟩ : ∃ p, T.pk = p := ⟨_, rfl⟩
      rw [hpk'] at u2 CU
      have Hpk := hide hpk'
      have CU := hide CU
      clear H1 pR oD hzn hpk'
      have a1 : wg.cell? ⟨ka, 1, none⟩ = some (.int .i64 (s : Int)) := (unhide HA).cell 1
      have hka := (unhide HA).lt
      have k0 : wg.cell? ⟨kk, 0, none⟩ = some (.bool key.str) := (unhide HNK).cell 0
      have k1 : wg.cell? ⟨kk, 1, none⟩ = some (.int .i64 key.i) := (unhide HNK).cell 1
      have kz : wg.cell? ⟨kk, 2, none⟩ = some (.string key.s) := (unhide HNK).cell 2
      have hkk := (unhide HNK).lt
      refine wp_region_held_drew (S := (fun w' => w'.cell? ⟨k, 2 + s, none⟩ = some (.slice (some ⟨gp, 0, none⟩) n cp) ∧ w'.cell? ⟨gp, t, none⟩ = some (.slice za zn zc) ∧ w'.cell? ⟨k, 1, none⟩ = some (.slice (some ⟨gk, 0, none⟩) n ck) ∧ w'.cell? ⟨gk, t, none⟩ = some (.int .i64 (pk : Int)) ∧ w'.cell? ⟨ka, 1, none⟩ = some (.int .i64 (s : Int)) ∧ w'.cell? ⟨kk, 0, none⟩ = some (.bool key.str) ∧ w'.cell? ⟨kk, 1, none⟩ = some (.int .i64 key.i) ∧ w'.cell? ⟨kk, 2, none⟩ = some (.string key.s))) (by kernel_rfl) ⟨r1', r2', u1, u2, a1, k0, k1, kz⟩ (fun hH0 => ?_)
      refine takeH 0 159 (v := ?vuz31) rfl rfl (by kernel_rfl) (by kernel_rfl) (by kernel_rfl) (fun _ _ _ h => h) (Or.inl ⟨by rfl, ?huz31⟩) hH0 ?ruz31
      case huz31 => (intro w hSw; clear hSw; go_simp; (try with_reducible rfl))
      case ruz31 =>
      try simp only [Act.put, List.setIfInBounds_toArray, List.set_cons_zero, List.set_cons_succ]
      refine takeH 1 160 (v := ?vuz32) rfl rfl (by kernel_rfl) (by kernel_rfl) (by kernel_rfl) (fun _ _ _ h => h) (Or.inl ⟨by rfl, ?huz32⟩) hH0 ?ruz32
      case huz32 => (intro w hSw; clear hSw; go_simp; (try with_reducible rfl))
      case ruz32 =>
      try simp only [Act.put, List.setIfInBounds_toArray, List.set_cons_zero, List.set_cons_succ]
      refine takeH 2 161 (v := ?vuz33) rfl rfl (by kernel_rfl) (by kernel_rfl) (by kernel_rfl) (fun _ _ _ h => h) (Or.inl ⟨by rfl, ?huz33⟩) hH0 ?ruz33
      case huz33 => (intro w hSw; obtain ⟨s0, s1, s2, s3, s4, s5, s6, s7⟩ := hSw; go_simp; (try with_reducible rfl))
      case ruz33 =>
      try simp only [Act.put, List.setIfInBounds_toArray, List.set_cons_zero, List.set_cons_succ]
      refine takeH 3 162 (v := ?vuz34) rfl rfl (by kernel_rfl) (by kernel_rfl) (by kernel_rfl) (fun _ _ _ h => h) (Or.inl ⟨by rfl, ?huz34⟩) hH0 ?ruz34
      case huz34 => (intro w hSw; clear hSw; go_simp; (try with_reducible rfl))
      case ruz34 =>
      try simp only [Act.put, List.setIfInBounds_toArray, List.set_cons_zero, List.set_cons_succ]
      refine takeH 4 163 (v := ?vuz35) rfl rfl (by kernel_rfl) (by kernel_rfl) (by kernel_rfl) (fun _ _ _ h => h) (Or.inl ⟨by rfl, ?huz35⟩) hH0 ?ruz35
      case huz35 => (intro w hSw; clear hSw; go_simp; (try with_reducible rfl))
      case ruz35 =>
      try simp only [Act.put, List.setIfInBounds_toArray, List.set_cons_zero, List.set_cons_succ]
      refine takeH 5 164 (v := ?vuz36) rfl rfl (by kernel_rfl) (by kernel_rfl) (by kernel_rfl) (fun _ _ _ h => h) (Or.inl ⟨by rfl, ?huz36⟩) hH0 ?ruz36
      case huz36 => (intro w hSw; clear hSw; go_simp; (try with_reducible rfl))
      case ruz36 =>
      try simp only [Act.put, List.setIfInBounds_toArray, List.set_cons_zero, List.set_cons_succ]
      refine takeH 6 165 (v := ?vuz37) rfl rfl (by kernel_rfl) (by kernel_rfl) (by kernel_rfl) (fun _ _ _ h => h) (Or.inl ⟨by rfl, ?huz37⟩) hH0 ?ruz37
      case huz37 => (intro w hSw; obtain ⟨s0, s1, s2, s3, s4, s5, s6, s7⟩ := hSw; go_simp; (try with_reducible rfl))
      case ruz37 =>
      try simp only [Act.put, List.setIfInBounds_toArray, List.set_cons_zero, List.set_cons_succ]
      refine takeH 7 166 (v := ?vuz38) rfl rfl (by kernel_rfl) (by kernel_rfl) (by kernel_rfl) (fun _ _ _ h => h) (Or.inl ⟨by rfl, ?huz38⟩) hH0 ?ruz38
      case huz38 => (intro w hSw; clear hSw; go_simp; (try with_reducible rfl))
      case ruz38 =>
      try simp only [Act.put, List.setIfInBounds_toArray, List.set_cons_zero, List.set_cons_succ]
      refine takeH 8 167 (v := ?vuz39) rfl rfl (by kernel_rfl) (by kernel_rfl) (by kernel_rfl) (fun _ _ _ h => h) (Or.inl ⟨by rfl, ?huz39⟩) hH0 ?ruz39
      case huz39 => (intro w hSw; clear hSw; go_simp; (try with_reducible rfl))
      case ruz39 =>
      try simp only [Act.put, List.setIfInBounds_toArray, List.set_cons_zero, List.set_cons_succ]
      refine takeH 9 168 (v := ?vuz310) rfl rfl (by kernel_rfl) (by kernel_rfl) (by kernel_rfl) (fun _ _ _ h => h) (Or.inl ⟨by rfl, ?huz310⟩) hH0 ?ruz310
      case huz310 => (intro w hSw; obtain ⟨s0, s1, s2, s3, s4, s5, s6, s7⟩ := hSw; go_simp; (try with_reducible rfl))
      case ruz310 =>
      try simp only [Act.put, List.setIfInBounds_toArray, List.set_cons_zero, List.set_cons_succ]
      refine takeH 10 169 (v := ?vuz311) rfl rfl (by kernel_rfl) (by kernel_rfl) (by kernel_rfl) (fun _ _ _ h => h) (Or.inl ⟨by rfl, ?huz311⟩) hH0 ?ruz311
      case huz311 => (intro w hSw; clear hSw; go_simp; (try with_reducible rfl))
      case ruz311 =>
      try simp only [Act.put, List.setIfInBounds_toArray, List.set_cons_zero, List.set_cons_succ]
      refine takeH 11 170 (v := ?vuz312) rfl rfl (by kernel_rfl) (by kernel_rfl) (by kernel_rfl) (fun _ _ _ h => h) (Or.inl ⟨by rfl, ?huz312⟩) hH0 ?ruz312
      case huz312 => (intro w hSw; clear hSw; go_simp; (try with_reducible rfl))
      case ruz312 =>
      try simp only [Act.put, List.setIfInBounds_toArray, List.set_cons_zero, List.set_cons_succ]
      refine takeH 12 171 (v := ?vuz313) rfl rfl (by kernel_rfl) (by kernel_rfl) (by kernel_rfl) (fun _ _ _ h => h) (Or.inl ⟨by rfl, ?huz313⟩) hH0 ?ruz313
      case huz313 => (intro w hSw; clear hSw; go_simp; (try with_reducible rfl))
      case ruz313 =>
      try simp only [Act.put, List.setIfInBounds_toArray, List.set_cons_zero, List.set_cons_succ]
      refine takeH 13 172 (v := ?vuz314) rfl rfl (by kernel_rfl) (by kernel_rfl) (by kernel_rfl) (fun _ _ _ h => h) (Or.inl ⟨by rfl, ?huz314⟩) hH0 ?ruz314
      case huz314 => (intro w hSw; obtain ⟨s0, s1, s2, s3, s4, s5, s6, s7⟩ := hSw; go_simp; (try with_reducible rfl))
      case ruz314 =>
      try simp only [Act.put, List.setIfInBounds_toArray, List.set_cons_zero, List.set_cons_succ]
      refine takeH 14 173 (v := ?vuz315) rfl rfl (by kernel_rfl) (by kernel_rfl) (by kernel_rfl) (fun _ _ _ h => h) (Or.inl ⟨by rfl, ?huz315⟩) hH0 ?ruz315
      case huz315 => (intro w hSw; clear hSw; go_simp; (try with_reducible rfl))
      case ruz315 =>
      try simp only [Act.put, List.setIfInBounds_toArray, List.set_cons_zero, List.set_cons_succ]
      refine takeH 15 174 (v := ?vuz316) rfl rfl (by kernel_rfl) (by kernel_rfl) (by kernel_rfl) (fun _ _ _ h => h) (Or.inl ⟨by rfl, ?huz316⟩) hH0 ?ruz316
      case huz316 => (intro w hSw; clear hSw; go_simp; (try with_reducible rfl))
      case ruz316 =>
      try simp only [Act.put, List.setIfInBounds_toArray, List.set_cons_zero, List.set_cons_succ]
      refine takeH 16 175 (v := ?vuz317) rfl rfl (by kernel_rfl) (by kernel_rfl) (by kernel_rfl) (fun _ _ _ h => h) (Or.inl ⟨by rfl, ?huz317⟩) hH0 ?ruz317
      case huz317 => (intro w hSw; obtain ⟨s0, s1, s2, s3, s4, s5, s6, s7⟩ := hSw; go_simp; (try with_reducible rfl))
      case ruz317 =>
      try simp only [Act.put, List.setIfInBounds_toArray, List.set_cons_zero, List.set_cons_succ]
      refine takeH 17 176 (v := ?vuz318) rfl rfl (by kernel_rfl) (by kernel_rfl) (by kernel_rfl) (fun _ _ _ h => h) (Or.inl ⟨by rfl, ?huz318⟩) hH0 ?ruz318
      case huz318 => (intro w hSw; obtain ⟨s0, s1, s2, s3, s4, s5, s6, s7⟩ := hSw; go_simp; (try with_reducible rfl))
      case ruz318 =>
      try simp only [Act.put, List.setIfInBounds_toArray, List.set_cons_zero, List.set_cons_succ]
      refine callH 18 (by kernel_rfl) rfl 177 rfl rfl 171 Tryz.func171 (by kernel_rfl) (by kernel_rfl) #[.tmp 168, .tmp 175, .tmp 176] #[48, 3, 106] rfl #[.slice za zn zc, .int .i64 (pk : Int), .agg #[.bool key.str, .int .i64 key.i, .string key.s]] (by simp [Act.eval]) (R := fun v w' => ∃ z, v = .int .i64 z ∧ UnR (M.rows s T.nm) pk key z ∧ Only (fun _ => False) wg.drew w') ((unhide CU).mono (by rintro en w' ⟨z, rfl, hz, o⟩; exact ⟨_, rfl, z, rfl, hz, o⟩)) ?kuz3
      case kuz3 =>
      rintro _ w6 ⟨z, rfl, hz, o6⟩
      have S6 : w6.cell? ⟨k, 2 + s, none⟩ = some (.slice (some ⟨gp, 0, none⟩) n cp) ∧ w6.cell? ⟨gp, t, none⟩ = some (.slice za zn zc) ∧ w6.cell? ⟨k, 1, none⟩ = some (.slice (some ⟨gk, 0, none⟩) n ck) ∧ w6.cell? ⟨gk, t, none⟩ = some (.int .i64 (pk : Int)) ∧ w6.cell? ⟨ka, 1, none⟩ = some (.int .i64 (s : Int)) ∧ w6.cell? ⟨kk, 0, none⟩ = some (.bool key.str) ∧ w6.cell? ⟨kk, 1, none⟩ = some (.int .i64 key.i) ∧ w6.cell? ⟨kk, 2, none⟩ = some (.string key.s) := ⟨o6.cellF hH0.1, o6.cellF hH0.2.1, o6.cellF hH0.2.2.1, o6.cellF hH0.2.2.2.1, o6.cellF hH0.2.2.2.2.1, o6.cellF hH0.2.2.2.2.2.1, o6.cellF hH0.2.2.2.2.2.2.1, o6.cellF hH0.2.2.2.2.2.2.2⟩
      refine ⟨S6, ?_⟩
      try simp only [Act.put, List.setIfInBounds_toArray, List.set_cons_zero, List.set_cons_succ]
      refine takeH 19 15 (v := ?vuz319) rfl rfl (by kernel_rfl) (by kernel_rfl) (by kernel_rfl) (fun _ _ _ h => h) (Or.inl ⟨by rfl, ?huz319⟩) S6 ?ruz319
      case huz319 => (intro w hSw; clear hSw; go_simp; (try with_reducible rfl))
      case ruz319 =>
      try simp only [Act.put, List.setIfInBounds_toArray, List.set_cons_zero, List.set_cons_succ]
      refine wpAnyH_done (by kernel_rfl) ?_ _
      have oD : Only (fun _ => False) wg w6 := (Only.refl _ wg).drew.trans o6 (fun _ _ e => e)
      have HF := hide oD
      clear hH0 S6 o6 oD
      have HFy := hide ((unhide HFx).trans (unhide HF) (fun _ _ e => e))
      have HA := hide ((unhide HA).keep (unhide HF) (fun e => e))
      have HA2 := hide ((unhide HA2).keep (unhide HF) (fun e => e))
      have oWg := unhide HF
      have r1' := oWg.cellF r1'
      have r2' := oWg.cellF r2'
      have HpR := hide ((unhide HpR).quiet oWg)
      clear CU u1 u2 a1 k0 k1 kz HF HFx oWg
      rcases hz with ⟨rfl, hno⟩ | ⟨i, r, rfl, hri, hrk⟩
      · exfalso
        obtain ⟨r, h1, h2⟩ := (unhide HK).1
        rw [unhide Hpk] at h2
        exact hno r h1 h2
      have di : decide ((i : Int) ≥ 0) = true := decide_eq_true (by omega)
      have di' : decide (0 ≤ (i : Int)) = true := decide_eq_true (by omega)
      have her : an.row = r := (unhide HK).2 i r hri (by rw [unhide Hpk]; exact hrk)
      obtain ⟨za', zc', hze, hzr⟩ := id (unhide HpR)
      simp only [Value.slice.injEq] at hze
      obtain ⟨rfl, _, rfl⟩ := hze
      obtain ⟨gz, uz, rfl, hzc, hzo⟩ := hzr i r hri
      have hil := (List.getElem?_eq_some_iff.mp hri).1
      rw [unhide Hzn] at hil
      have iI : (i : Int) < (zn : Int) := by omega
      obtain ⟨ua, uc, rfl⟩ := OwnV.shape hzo
      have a1 : w6.cell? ⟨ka, 1, none⟩ = some (.int .i64 (s : Int)) := (unhide HA).cell 1
      have b2 : w6.cell? ⟨ka + 1, 2, none⟩ = some (.slice p1 ln p2) := (unhide HA2).cell 2
      have hka := (unhide HA).lt
      have hkb := (unhide HA2).lt
      have kl := ((unhide HH).1.quiet (unhide HFy)).lt
      have oD : Only (fun _ => False) w6 w6.drew := (Only.refl _ w6).drew
      have oAn := ((unhide HAn).quiet ((unhide HFy).trans oD (fun _ _ e => e))).row
      rw [(unhide HRS).1] at oAn
      have CX := jsameRow_any (w := w6.drew) oAn (hzo.keep oD (fun _ _ e => e)) (by have := ((unhide HB).1.rl s hs4 T.nm).2 r (List.mem_of_getElem? hri); rw [her]; omega)
      rw [decide_eq_true her] at CX
      obtain ⟨rn, hrn⟩ : ∃ z, r.length = z := ⟨_, rfl⟩
      rw [hrn] at hzc CX
      have CX := hide CX
      generalize hw : w6 = wh at *
      clear hw hrk her hzr hzo oD oAn hrn hri
      go_upto_region 29 with fail
      refine wp_region_held_drew (S := (fun w' => w'.cell? ⟨k, 2 + s, none⟩ = some (.slice (some ⟨gp, 0, none⟩) n cp) ∧ w'.cell? ⟨gp, t, none⟩ = some (.slice (some ⟨gz, 0, none⟩) zn zc) ∧ w'.cell? ⟨gz, i, none⟩ = some (.slice ua rn uc) ∧ w'.cell? ⟨ka, 1, none⟩ = some (.int .i64 (s : Int)) ∧ w'.cell? ⟨ka + 1, 2, none⟩ = some (.slice p1 ln p2))) (by kernel_rfl) ⟨r1', r2', hzc, a1, b2⟩ (fun hH0 => ?_)
      refine takeH 0 178 (v := ?vxz41) rfl rfl (by kernel_rfl) (by kernel_rfl) (by kernel_rfl) (fun _ _ _ h => h) (Or.inl ⟨by rfl, ?hxz41⟩) hH0 ?rxz41
      case hxz41 => (intro w hSw; clear hSw; go_simp; (try with_reducible rfl))
      case rxz41 =>
      try simp only [Act.put, List.setIfInBounds_toArray, List.set_cons_zero, List.set_cons_succ]
      refine takeH 1 179 (v := ?vxz42) rfl rfl (by kernel_rfl) (by kernel_rfl) (by kernel_rfl) (fun _ _ _ h => h) (Or.inl ⟨by rfl, ?hxz42⟩) hH0 ?rxz42
      case hxz42 => (intro w hSw; clear hSw; go_simp; (try with_reducible rfl))
      case rxz42 =>
      try simp only [Act.put, List.setIfInBounds_toArray, List.set_cons_zero, List.set_cons_succ]
      refine takeH 2 180 (v := ?vxz43) rfl rfl (by kernel_rfl) (by kernel_rfl) (by kernel_rfl) (fun _ _ _ h => h) (Or.inl ⟨by rfl, ?hxz43⟩) hH0 ?rxz43
      case hxz43 => (intro w hSw; clear hSw; go_simp; (try with_reducible rfl))
      case rxz43 =>
      try simp only [Act.put, List.setIfInBounds_toArray, List.set_cons_zero, List.set_cons_succ]
      refine takeH 3 181 (v := ?vxz44) rfl rfl (by kernel_rfl) (by kernel_rfl) (by kernel_rfl) (fun _ _ _ h => h) (Or.inl ⟨by rfl, ?hxz44⟩) hH0 ?rxz44
      case hxz44 => (intro w hSw; clear hSw; go_simp; (try with_reducible rfl))
      case rxz44 =>
      try simp only [Act.put, List.setIfInBounds_toArray, List.set_cons_zero, List.set_cons_succ]
      refine takeH 4 182 (v := ?vxz45) rfl rfl (by kernel_rfl) (by kernel_rfl) (by kernel_rfl) (fun _ _ _ h => h) (Or.inl ⟨by rfl, ?hxz45⟩) hH0 ?rxz45
      case hxz45 => (intro w hSw; obtain ⟨s0, s1, s2, s3, s4⟩ := hSw; go_simp; (try with_reducible rfl))
      case rxz45 =>
      try simp only [Act.put, List.setIfInBounds_toArray, List.set_cons_zero, List.set_cons_succ]
      refine takeH 5 183 (v := ?vxz46) rfl rfl (by kernel_rfl) (by kernel_rfl) (by kernel_rfl) (fun _ _ _ h => h) (Or.inl ⟨by rfl, ?hxz46⟩) hH0 ?rxz46
      case hxz46 => (intro w hSw; clear hSw; go_simp; (try with_reducible rfl))
      case rxz46 =>
      try simp only [Act.put, List.setIfInBounds_toArray, List.set_cons_zero, List.set_cons_succ]
      refine takeH 6 184 (v := ?vxz47) rfl rfl (by kernel_rfl) (by kernel_rfl) (by kernel_rfl) (fun _ _ _ h => h) (Or.inl ⟨by rfl, ?hxz47⟩) hH0 ?rxz47
      case hxz47 => (intro w hSw; clear hSw; go_simp; (try with_reducible rfl))
      case rxz47 =>
      try simp only [Act.put, List.setIfInBounds_toArray, List.set_cons_zero, List.set_cons_succ]
      refine takeH 7 185 (v := ?vxz48) rfl rfl (by kernel_rfl) (by kernel_rfl) (by kernel_rfl) (fun _ _ _ h => h) (Or.inl ⟨by rfl, ?hxz48⟩) hH0 ?rxz48
      case hxz48 => (intro w hSw; obtain ⟨s0, s1, s2, s3, s4⟩ := hSw; go_simp; (try with_reducible rfl))
      case rxz48 =>
      try simp only [Act.put, List.setIfInBounds_toArray, List.set_cons_zero, List.set_cons_succ]
      refine takeH 8 186 (v := ?vxz49) rfl rfl (by kernel_rfl) (by kernel_rfl) (by kernel_rfl) (fun _ _ _ h => h) (Or.inl ⟨by rfl, ?hxz49⟩) hH0 ?rxz49
      case hxz49 => (intro w hSw; clear hSw; go_simp; (try with_reducible rfl))
      case rxz49 =>
      try simp only [Act.put, List.setIfInBounds_toArray, List.set_cons_zero, List.set_cons_succ]
      refine takeH 9 187 (v := ?vxz410) rfl rfl (by kernel_rfl) (by kernel_rfl) (by kernel_rfl) (fun _ _ _ h => h) (Or.inl ⟨by rfl, ?hxz410⟩) hH0 ?rxz410
      case hxz410 => (intro w hSw; clear hSw; go_simp; (try with_reducible rfl))
      case rxz410 =>
      try simp only [Act.put, List.setIfInBounds_toArray, List.set_cons_zero, List.set_cons_succ]
      refine takeH 10 188 (v := ?vxz411) rfl rfl (by kernel_rfl) (by kernel_rfl) (by kernel_rfl) (fun _ _ _ h => h) (Or.inl ⟨by rfl, ?hxz411⟩) hH0 ?rxz411
      case hxz411 => (intro w hSw; clear hSw; go_simp; (try with_reducible rfl))
      case rxz411 =>
      try simp only [Act.put, List.setIfInBounds_toArray, List.set_cons_zero, List.set_cons_succ]
      refine takeH 11 189 (v := ?vxz412) rfl rfl (by kernel_rfl) (by kernel_rfl) (by kernel_rfl) (fun _ _ _ h => h) (Or.inl ⟨by rfl, ?hxz412⟩) hH0 ?rxz412
      case hxz412 => (intro w hSw; obtain ⟨s0, s1, s2, s3, s4⟩ := hSw; go_simp; (try with_reducible rfl))
      case rxz412 =>
      try simp only [Act.put, List.setIfInBounds_toArray, List.set_cons_zero, List.set_cons_succ]
      refine takeH 12 190 (v := ?vxz413) rfl rfl (by kernel_rfl) (by kernel_rfl) (by kernel_rfl) (fun _ _ _ h => h) (Or.inl ⟨by rfl, ?hxz413⟩) hH0 ?rxz413
      case hxz413 => (intro w hSw; clear hSw; go_simp; (try with_reducible rfl))
      case rxz413 =>
      try simp only [Act.put, List.setIfInBounds_toArray, List.set_cons_zero, List.set_cons_succ]
      refine takeH 13 191 (v := ?vxz414) rfl rfl (by kernel_rfl) (by kernel_rfl) (by kernel_rfl) (fun _ _ _ h => h) (Or.inl ⟨by rfl, ?hxz414⟩) hH0 ?rxz414
      case hxz414 => (intro w hSw; clear hSw; go_simp; (try with_reducible rfl))
      case rxz414 =>
      try simp only [Act.put, List.setIfInBounds_toArray, List.set_cons_zero, List.set_cons_succ]
      refine takeH 14 192 (v := ?vxz415) rfl rfl (by kernel_rfl) (by kernel_rfl) (by kernel_rfl) (fun _ _ _ h => h) (Or.inl ⟨by rfl, ?hxz415⟩) hH0 ?rxz415
      case hxz415 => (intro w hSw; obtain ⟨s0, s1, s2, s3, s4⟩ := hSw; go_simp; (try with_reducible rfl))
      case rxz415 =>
      try simp only [Act.put, List.setIfInBounds_toArray, List.set_cons_zero, List.set_cons_succ]
      refine takeH 15 193 (v := ?vxz416) rfl rfl (by kernel_rfl) (by kernel_rfl) (by kernel_rfl) (fun _ _ _ h => h) (Or.inl ⟨by rfl, ?hxz416⟩) hH0 ?rxz416
      case hxz416 => (intro w hSw; clear hSw; go_simp; (try with_reducible rfl))
      case rxz416 =>
      try simp only [Act.put, List.setIfInBounds_toArray, List.set_cons_zero, List.set_cons_succ]
      refine takeH 16 194 (v := ?vxz417) rfl rfl (by kernel_rfl) (by kernel_rfl) (by kernel_rfl) (fun _ _ _ h => h) (Or.inl ⟨by rfl, ?hxz417⟩) hH0 ?rxz417
      case hxz417 => (intro w hSw; clear hSw; go_simp; (try with_reducible rfl))
      case rxz417 =>
      try simp only [Act.put, List.setIfInBounds_toArray, List.set_cons_zero, List.set_cons_succ]
      refine takeH 17 195 (v := ?vxz418) rfl rfl (by kernel_rfl) (by kernel_rfl) (by kernel_rfl) (fun _ _ _ h => h) (Or.inl ⟨by rfl, ?hxz418⟩) hH0 ?rxz418
      case hxz418 => (intro w hSw; obtain ⟨s0, s1, s2, s3, s4⟩ := hSw; go_simp; (try with_reducible rfl))
      case rxz418 =>
      try simp only [Act.put, List.setIfInBounds_toArray, List.set_cons_zero, List.set_cons_succ]
      refine callHg 18 (by kernel_rfl) rfl 196 rfl (by rfl) 109 Tryz.func109 (by kernel_rfl) (by kernel_rfl) #[.tmp 182, .tmp 195] #[47, 47] rfl #[.slice p1 ln p2, .slice ua rn uc] (by simp [Act.eval]) (R := fun v w' => v = .bool true ∧ Only (fun _ => False) wh.drew w') ((unhide CX).mono (by rintro en w' ⟨rfl, o⟩; exact ⟨_, rfl, rfl, o⟩)) ?kxz4
      case kxz4 =>
      rintro _ w6 ⟨rfl, o6⟩
      have S6 : w6.cell? ⟨k, 2 + s, none⟩ = some (.slice (some ⟨gp, 0, none⟩) n cp) ∧ w6.cell? ⟨gp, t, none⟩ = some (.slice (some ⟨gz, 0, none⟩) zn zc) ∧ w6.cell? ⟨gz, i, none⟩ = some (.slice ua rn uc) ∧ w6.cell? ⟨ka, 1, none⟩ = some (.int .i64 (s : Int)) ∧ w6.cell? ⟨ka + 1, 2, none⟩ = some (.slice p1 ln p2) := ⟨o6.cellF hH0.1, o6.cellF hH0.2.1, o6.cellF hH0.2.2.1, o6.cellF hH0.2.2.2.1, o6.cellF hH0.2.2.2.2⟩
      refine ⟨S6, ?_⟩
      try simp only [Act.put, List.setIfInBounds_toArray, List.set_cons_zero, List.set_cons_succ]
      refine takeH 19 197 (v := ?vxz419) rfl rfl (by kernel_rfl) (by kernel_rfl) (by kernel_rfl) (fun _ _ _ h => h) (Or.inl ⟨by rfl, ?hxz419⟩) S6 ?rxz419
      case hxz419 => (intro w hSw; clear hSw; go_simp; (try with_reducible rfl))
      case rxz419 =>
      try simp only [Act.put, List.setIfInBounds_toArray, List.set_cons_zero, List.set_cons_succ]
      refine takeH 20 8 (v := ?vxz420) rfl rfl (by kernel_rfl) (by kernel_rfl) (by kernel_rfl) (fun _ _ _ h => h) (Or.inl ⟨by rfl, ?hxz420⟩) S6 ?rxz420
      case hxz420 => (intro w hSw; clear hSw; go_simp; (try with_reducible rfl))
      case rxz420 =>
      try simp only [Act.put, List.setIfInBounds_toArray, List.set_cons_zero, List.set_cons_succ]
      refine wpAnyH_done (by kernel_rfl) ?_ _
      have oD : Only (fun _ => False) wh w6 := (Only.refl _ wh).drew.trans o6 (fun _ _ e => e)
      have HF := hide oD
      clear hH0 S6 o6 oD
      have HO := hide (((unhide HH).2.2.1.trans (unhide HFy) (fun _ _ e => e)).trans (unhide HF) (fun _ _ e => e))
      clear CX HF HFy
      go_wp2_with fail
      go_ret
      exact ⟨rfl, unhide HO⟩
    · have n0 : (an.e != 0) = true := by simpa using hz0
      have n1 : (an.e == 0) = false := ne_intO hz0
      clear hz0
      have CA := hide (xlallStay_any ((unhide HH).1.quiet (unhide HF)) ((unhide HH).2.1.quiet (unhide HF)) (unhide HB).1 (unhide HB).2 (-1) (-1) (fun s t T hs hT _ => (unhide HS) s t T hs hT))
      go_wp2_with fail
      refine (unhide CA).mono ?_
      rintro e we ⟨rfl, oS⟩
      have HF := hide ((unhide HF).trans oS (fun _ _ e => e))
      have HA := hide ((unhide HA).keep oS (fun e => e))
      have HA2 := hide ((unhide HA2).keep oS (fun e => e))
      have HO := hide ((unhide HH).2.2.1.trans (unhide HF) (fun _ _ e => e))
      clear CA oS a1 b0
      have a0 : we.cell? ⟨ka, 0, none⟩ = some (.int .i64 10) := (unhide HA).cell 0
      have hka := (unhide HA).lt
      have hkb := (unhide HA2).lt
      go_upto_region 24 with fail
      have H1 := (unhide HH).1.quiet (unhide HF)
      have kl := H1.lt
      obtain ⟨gp, cp, za, zc, r1', r2', pR⟩ := H1.rowsAt hs4 (unhide HD).hT
      obtain ⟨gk, ck, u1, u2⟩ := H1.pkAt (unhide HD).hT
      rw [(unhide HH).2.2.2.2] at r1' u1
      have oD : Only (fun _ => False) we we.drew := (Only.refl _ we).drew
      have CR := xlrefusal_key (w := we.drew) (pR.quiet oD) T.pk (((unhide HB).1.rl s hs4 T.nm).1) (fun r hr => ⟨(unhide HP).2 r (.inl hr), by have := ((unhide HB).1.rl s hs4 T.nm).2 r hr; omega⟩) 10 (s : Int) ob oc os ot (unhide HH).2.2.2.1 an.e (by decide) (by decide) ((unhide HR))
      unfold opX at CR
      obtain ⟨zn, hzn⟩ : ∃ z, (M.rows s T.nm).length = z := ⟨_, rfl⟩
      rw [hzn] at r2' CR
      generalize T.pk = pk at u2 CR
      have CR := hide CR
      clear H1 pR oD hzn
      have a1 : we.cell? ⟨ka, 1, none⟩ = some (.int .i64 (s : Int)) := (unhide HA).cell 1
      have a2 : we.cell? ⟨ka, 2, none⟩ = some (.int .i64 ob) := (unhide HA).cell 2
      have a3 : we.cell? ⟨ka, 3, none⟩ = some (.int .i64 oc) := (unhide HA).cell 3
      have a4 : we.cell? ⟨ka, 4, none⟩ = some (.string os) := (unhide HA).cell 4
      have a5 : we.cell? ⟨ka, 5, none⟩ = some (.string ot) := (unhide HA).cell 5
      have b0 : we.cell? ⟨ka + 1, 0, none⟩ = some (.int .i64 an.e) := (unhide HA2).cell 0
      have HFe := hide (unhide HF)
      have HAe := hide (unhide HA)
      have HAe2 := hide (unhide HA2)
      clear HF HA HA2 HO
      refine wp_region_held_drew (S := (fun w' => w'.cell? ⟨k, 2 + s, none⟩ = some (.slice (some ⟨gp, 0, none⟩) n cp) ∧ w'.cell? ⟨gp, t, none⟩ = some (.slice za zn zc) ∧ w'.cell? ⟨k, 1, none⟩ = some (.slice (some ⟨gk, 0, none⟩) n ck) ∧ w'.cell? ⟨gk, t, none⟩ = some (.int .i64 (pk : Int)) ∧ w'.cell? ⟨ka + 1, 0, none⟩ = some (.int .i64 an.e) ∧ w'.cell? ⟨ka, 0, none⟩ = some (.int .i64 10) ∧ w'.cell? ⟨ka, 1, none⟩ = some (.int .i64 (s : Int)) ∧ w'.cell? ⟨ka, 2, none⟩ = some (.int .i64 ob) ∧ w'.cell? ⟨ka, 3, none⟩ = some (.int .i64 oc) ∧ w'.cell? ⟨ka, 4, none⟩ = some (.string os) ∧ w'.cell? ⟨ka, 5, none⟩ = some (.string ot))) (by kernel_rfl) ⟨r1', r2', u1, u2, b0, a0, a1, a2, a3, a4, a5⟩ (fun hH0 => ?_)
      refine takeH 0 126 (v := ?vfz51) rfl rfl (by kernel_rfl) (by kernel_rfl) (by kernel_rfl) (fun _ _ _ h => h) (Or.inl ⟨by rfl, ?hfz51⟩) hH0 ?rfz51
      case hfz51 => (intro w hSw; clear hSw; go_simp; (try with_reducible rfl))
      case rfz51 =>
      try simp only [Act.put, List.setIfInBounds_toArray, List.set_cons_zero, List.set_cons_succ]
      refine takeH 1 127 (v := ?vfz52) rfl rfl (by kernel_rfl) (by kernel_rfl) (by kernel_rfl) (fun _ _ _ h => h) (Or.inl ⟨by rfl, ?hfz52⟩) hH0 ?rfz52
      case hfz52 => (intro w hSw; clear hSw; go_simp; (try with_reducible rfl))
      case rfz52 =>
      try simp only [Act.put, List.setIfInBounds_toArray, List.set_cons_zero, List.set_cons_succ]
      refine takeH 2 128 (v := ?vfz53) rfl rfl (by kernel_rfl) (by kernel_rfl) (by kernel_rfl) (fun _ _ _ h => h) (Or.inl ⟨by rfl, ?hfz53⟩) hH0 ?rfz53
      case hfz53 => (intro w hSw; obtain ⟨s0, s1, s2, s3, s4, s5, s6, s7, s8, s9, s10⟩ := hSw; go_simp; (try with_reducible rfl))
      case rfz53 =>
      try simp only [Act.put, List.setIfInBounds_toArray, List.set_cons_zero, List.set_cons_succ]
      refine takeH 3 129 (v := ?vfz54) rfl rfl (by kernel_rfl) (by kernel_rfl) (by kernel_rfl) (fun _ _ _ h => h) (Or.inl ⟨by rfl, ?hfz54⟩) hH0 ?rfz54
      case hfz54 => (intro w hSw; clear hSw; go_simp; (try with_reducible rfl))
      case rfz54 =>
      try simp only [Act.put, List.setIfInBounds_toArray, List.set_cons_zero, List.set_cons_succ]
      refine takeH 4 130 (v := ?vfz55) rfl rfl (by kernel_rfl) (by kernel_rfl) (by kernel_rfl) (fun _ _ _ h => h) (Or.inl ⟨by rfl, ?hfz55⟩) hH0 ?rfz55
      case hfz55 => (intro w hSw; clear hSw; go_simp; (try with_reducible rfl))
      case rfz55 =>
      try simp only [Act.put, List.setIfInBounds_toArray, List.set_cons_zero, List.set_cons_succ]
      refine takeH 5 131 (v := ?vfz56) rfl rfl (by kernel_rfl) (by kernel_rfl) (by kernel_rfl) (fun _ _ _ h => h) (Or.inl ⟨by rfl, ?hfz56⟩) hH0 ?rfz56
      case hfz56 => (intro w hSw; clear hSw; go_simp; (try with_reducible rfl))
      case rfz56 =>
      try simp only [Act.put, List.setIfInBounds_toArray, List.set_cons_zero, List.set_cons_succ]
      refine takeH 6 132 (v := ?vfz57) rfl rfl (by kernel_rfl) (by kernel_rfl) (by kernel_rfl) (fun _ _ _ h => h) (Or.inl ⟨by rfl, ?hfz57⟩) hH0 ?rfz57
      case hfz57 => (intro w hSw; obtain ⟨s0, s1, s2, s3, s4, s5, s6, s7, s8, s9, s10⟩ := hSw; go_simp; (try with_reducible rfl))
      case rfz57 =>
      try simp only [Act.put, List.setIfInBounds_toArray, List.set_cons_zero, List.set_cons_succ]
      refine takeH 7 133 (v := ?vfz58) rfl rfl (by kernel_rfl) (by kernel_rfl) (by kernel_rfl) (fun _ _ _ h => h) (Or.inl ⟨by rfl, ?hfz58⟩) hH0 ?rfz58
      case hfz58 => (intro w hSw; clear hSw; go_simp; (try with_reducible rfl))
      case rfz58 =>
      try simp only [Act.put, List.setIfInBounds_toArray, List.set_cons_zero, List.set_cons_succ]
      refine takeH 8 134 (v := ?vfz59) rfl rfl (by kernel_rfl) (by kernel_rfl) (by kernel_rfl) (fun _ _ _ h => h) (Or.inl ⟨by rfl, ?hfz59⟩) hH0 ?rfz59
      case hfz59 => (intro w hSw; clear hSw; go_simp; (try with_reducible rfl))
      case rfz59 =>
      try simp only [Act.put, List.setIfInBounds_toArray, List.set_cons_zero, List.set_cons_succ]
      refine takeH 9 135 (v := ?vfz510) rfl rfl (by kernel_rfl) (by kernel_rfl) (by kernel_rfl) (fun _ _ _ h => h) (Or.inl ⟨by rfl, ?hfz510⟩) hH0 ?rfz510
      case hfz510 => (intro w hSw; obtain ⟨s0, s1, s2, s3, s4, s5, s6, s7, s8, s9, s10⟩ := hSw; go_simp; (try with_reducible rfl))
      case rfz510 =>
      try simp only [Act.put, List.setIfInBounds_toArray, List.set_cons_zero, List.set_cons_succ]
      refine takeH 10 136 (v := ?vfz511) rfl rfl (by kernel_rfl) (by kernel_rfl) (by kernel_rfl) (fun _ _ _ h => h) (Or.inl ⟨by rfl, ?hfz511⟩) hH0 ?rfz511
      case hfz511 => (intro w hSw; clear hSw; go_simp; (try with_reducible rfl))
      case rfz511 =>
      try simp only [Act.put, List.setIfInBounds_toArray, List.set_cons_zero, List.set_cons_succ]
      refine takeH 11 137 (v := ?vfz512) rfl rfl (by kernel_rfl) (by kernel_rfl) (by kernel_rfl) (fun _ _ _ h => h) (Or.inl ⟨by rfl, ?hfz512⟩) hH0 ?rfz512
      case hfz512 => (intro w hSw; clear hSw; go_simp; (try with_reducible rfl))
      case rfz512 =>
      try simp only [Act.put, List.setIfInBounds_toArray, List.set_cons_zero, List.set_cons_succ]
      refine takeH 12 138 (v := ?vfz513) rfl rfl (by kernel_rfl) (by kernel_rfl) (by kernel_rfl) (fun _ _ _ h => h) (Or.inl ⟨by rfl, ?hfz513⟩) hH0 ?rfz513
      case hfz513 => (intro w hSw; clear hSw; go_simp; (try with_reducible rfl))
      case rfz513 =>
      try simp only [Act.put, List.setIfInBounds_toArray, List.set_cons_zero, List.set_cons_succ]
      refine takeH 13 139 (v := ?vfz514) rfl rfl (by kernel_rfl) (by kernel_rfl) (by kernel_rfl) (fun _ _ _ h => h) (Or.inl ⟨by rfl, ?hfz514⟩) hH0 ?rfz514
      case hfz514 => (intro w hSw; obtain ⟨s0, s1, s2, s3, s4, s5, s6, s7, s8, s9, s10⟩ := hSw; go_simp; (try with_reducible rfl))
      case rfz514 =>
      try simp only [Act.put, List.setIfInBounds_toArray, List.set_cons_zero, List.set_cons_succ]
      refine takeH 14 140 (v := ?vfz515) rfl rfl (by kernel_rfl) (by kernel_rfl) (by kernel_rfl) (fun _ _ _ h => h) (Or.inl ⟨by rfl, ?hfz515⟩) hH0 ?rfz515
      case hfz515 => (intro w hSw; clear hSw; go_simp; (try with_reducible rfl))
      case rfz515 =>
      try simp only [Act.put, List.setIfInBounds_toArray, List.set_cons_zero, List.set_cons_succ]
      refine takeH 15 141 (v := ?vfz516) rfl rfl (by kernel_rfl) (by kernel_rfl) (by kernel_rfl) (fun _ _ _ h => h) (Or.inl ⟨by rfl, ?hfz516⟩) hH0 ?rfz516
      case hfz516 => (intro w hSw; clear hSw; go_simp; (try with_reducible rfl))
      case rfz516 =>
      try simp only [Act.put, List.setIfInBounds_toArray, List.set_cons_zero, List.set_cons_succ]
      refine takeH 16 142 (v := ?vfz517) rfl rfl (by kernel_rfl) (by kernel_rfl) (by kernel_rfl) (fun _ _ _ h => h) (Or.inl ⟨by rfl, ?hfz517⟩) hH0 ?rfz517
      case hfz517 => (intro w hSw; obtain ⟨s0, s1, s2, s3, s4, s5, s6, s7, s8, s9, s10⟩ := hSw; go_simp; (try with_reducible rfl))
      case rfz517 =>
      try simp only [Act.put, List.setIfInBounds_toArray, List.set_cons_zero, List.set_cons_succ]
      refine takeH 17 143 (v := ?vfz518) rfl rfl (by kernel_rfl) (by kernel_rfl) (by kernel_rfl) (fun _ _ _ h => h) (Or.inl ⟨by rfl, ?hfz518⟩) hH0 ?rfz518
      case hfz518 => (intro w hSw; obtain ⟨s0, s1, s2, s3, s4, s5, s6, s7, s8, s9, s10⟩ := hSw; go_simp; (try with_reducible rfl))
      case rfz518 =>
      try simp only [Act.put, List.setIfInBounds_toArray, List.set_cons_zero, List.set_cons_succ]
      refine takeH 18 144 (v := ?vfz519) rfl rfl (by kernel_rfl) (by kernel_rfl) (by kernel_rfl) (fun _ _ _ h => h) (Or.inl ⟨by rfl, ?hfz519⟩) hH0 ?rfz519
      case hfz519 => (intro w hSw; clear hSw; go_simp; (try with_reducible rfl))
      case rfz519 =>
      try simp only [Act.put, List.setIfInBounds_toArray, List.set_cons_zero, List.set_cons_succ]
      refine takeH 19 145 (v := ?vfz520) rfl rfl (by kernel_rfl) (by kernel_rfl) (by kernel_rfl) (fun _ _ _ h => h) (Or.inl ⟨by rfl, ?hfz520⟩) hH0 ?rfz520
      case hfz520 => (intro w hSw; obtain ⟨s0, s1, s2, s3, s4, s5, s6, s7, s8, s9, s10⟩ := hSw; go_simp; (try with_reducible rfl))
      case rfz520 =>
      try simp only [Act.put, List.setIfInBounds_toArray, List.set_cons_zero, List.set_cons_succ]
      refine callH 20 (by kernel_rfl) rfl 146 rfl rfl 170 Tryz.func170 (by kernel_rfl) (by kernel_rfl) #[.tmp 135, .tmp 142, .tmp 143, .tmp 145] #[48, 3, 44, 46] rfl #[.slice za zn zc, .int .i64 (pk : Int), .agg #[.int .i64 10, .int .i64 (s : Int), .int .i64 ob, .int .i64 oc, .string os, .string ot], .int .i64 an.e] (by simp [Act.eval]) (R := fun v w' => v = .bool true ∧ Only (fun _ => False) we.drew w') ((unhide CR).mono (by rintro en w' ⟨rfl, o⟩; exact ⟨_, rfl, rfl, o⟩)) ?kfz5
      case kfz5 =>
      rintro _ w6 ⟨rfl, o6⟩
      have S6 : w6.cell? ⟨k, 2 + s, none⟩ = some (.slice (some ⟨gp, 0, none⟩) n cp) ∧ w6.cell? ⟨gp, t, none⟩ = some (.slice za zn zc) ∧ w6.cell? ⟨k, 1, none⟩ = some (.slice (some ⟨gk, 0, none⟩) n ck) ∧ w6.cell? ⟨gk, t, none⟩ = some (.int .i64 (pk : Int)) ∧ w6.cell? ⟨ka + 1, 0, none⟩ = some (.int .i64 an.e) ∧ w6.cell? ⟨ka, 0, none⟩ = some (.int .i64 10) ∧ w6.cell? ⟨ka, 1, none⟩ = some (.int .i64 (s : Int)) ∧ w6.cell? ⟨ka, 2, none⟩ = some (.int .i64 ob) ∧ w6.cell? ⟨ka, 3, none⟩ = some (.int .i64 oc) ∧ w6.cell? ⟨ka, 4, none⟩ = some (.string os) ∧ w6.cell? ⟨ka, 5, none⟩ = some (.string ot) := ⟨o6.cellF hH0.1, o6.cellF hH0.2.1, o6.cellF hH0.2.2.1, o6.cellF hH0.2.2.2.1, o6.cellF hH0.2.2.2.2.1, o6.cellF hH0.2.2.2.2.2.1, o6.cellF hH0.2.2.2.2.2.2.1, o6.cellF hH0.2.2.2.2.2.2.2.1, o6.cellF hH0.2.2.2.2.2.2.2.2.1, o6.cellF hH0.2.2.2.2.2.2.2.2.2.1, o6.cellF hH0.2.2.2.2.2.2.2.2.2.2⟩
      refine ⟨S6, ?_⟩
      try simp only [Act.put, List.setIfInBounds_toArray, List.set_cons_zero, List.set_cons_succ]
      refine takeH 21 147 (v := ?vfz521) rfl rfl (by kernel_rfl) (by kernel_rfl) (by kernel_rfl) (fun _ _ _ h => h) (Or.inl ⟨by rfl, ?hfz521⟩) S6 ?rfz521
      case hfz521 => (intro w hSw; clear hSw; go_simp; (try with_reducible rfl))
      case rfz521 =>
      try simp only [Act.put, List.setIfInBounds_toArray, List.set_cons_zero, List.set_cons_succ]
      refine wpAnyH_done (by kernel_rfl) ?_ _
      have oD : Only (fun _ => False) we w6 := (Only.refl _ we).drew.trans o6 (fun _ _ e => e)
      have HF := hide oD
      clear hH0 S6 o6 oD
      have HA := hide ((unhide HAe).keep (unhide HF) (fun e => e))
      have HA2 := hide ((unhide HAe2).keep (unhide HF) (fun e => e))
      have HFx := hide ((unhide HFe).trans (unhide HF) (fun _ _ e => e))
      have HO := hide ((unhide HH).2.2.1.trans (unhide HFx) (fun _ _ e => e))
      clear CR r1' r2' u1 u2 a0 a1 a2 a3 a4 a5 b0 HF HFe HAe HAe2
      have a0 : w6.cell? ⟨ka, 0, none⟩ = some (.int .i64 10) := (unhide HA).cell 0
      have b0 : w6.cell? ⟨ka + 1, 0, none⟩ = some (.int .i64 an.e) := (unhide HA2).cell 0
      have hka := (unhide HA).lt
      have hkb := (unhide HA2).lt
      go_wp2_with fail
      go_ret
      exact ⟨rfl, unhide HO⟩
  · have d1 : decide (x > 1) = false := decide_eq_false (by omega)
    have d2 : decide (1 < x) = false := decide_eq_false (by omega)
    go_upto_region 16 with fail
    go_cut [93] from 82 to 93 (fun zv wx => zv = .bool false ∧ Only (fun _ => False) w9 wx)
    case first =>
      go_quiet (fail)
      go_wp2_with fail
      go_meet
      exact ⟨rfl, onlyQ _ _⟩
    case rest =>
    obtain ⟨rfl, oC⟩ := hcut
    generalize wc = wa at *
    have HF := hide ((unhide HF9).trans oC (fun _ _ e => e))
    have HA := hide ((unhide HA).keep oC (fun e => e))
    have HA2 := hide ((unhide HA2).keep oC (fun e => e))
    clear l1 l2 a1 oC HF9 HF7
    have a1 : wa.cell? ⟨ka, 1, none⟩ = some (.int .i64 (s : Int)) := (unhide HA).cell 1
    have b0 : wa.cell? ⟨ka + 1, 0, none⟩ = some (.int .i64 an.e) := (unhide HA2).cell 0
    have hka := (unhide HA).lt
    have hkb := (unhide HA2).lt
    have CL := hide (xllocked_any ((unhide HH).1.quiet (unhide HF)) ((unhide HH).2.1.quiet (unhide HF)) (unhide HB).1 (unhide HD).nms (s : Int) (t : Int) 1 ((unhide HD).lkd (unhide HB).1.srt 1 (by rw [unhide Hx]; rw [if_neg (by omega)])))
    go_wp2_with fail
    refine (unhide CL).mono ?_
    rintro e wd ⟨rfl, oL⟩
    have HF := hide ((unhide HF).trans oL (fun _ _ e => e))
    have HA := hide ((unhide HA).keep oL (fun e => e))
    have HA2 := hide ((unhide HA2).keep oL (fun e => e))
    clear CL oL a1 b0
    have a1 : wd.cell? ⟨ka, 1, none⟩ = some (.int .i64 (s : Int)) := (unhide HA).cell 1
    have b0 : wd.cell? ⟨ka + 1, 0, none⟩ = some (.int .i64 an.e) := (unhide HA2).cell 0
    have hka := (unhide HA).lt
    have hkb := (unhide HA2).lt
    have H1 := (unhide HH).1.quiet (unhide HF)
    clear H1
    by_cases hz0 : an.e = 0
    · have n0 : (an.e != 0) = false := by simp [hz0]
      have n1 : (an.e == 0) = true := by simp [hz0]
      have HZ := hide hz0
      clear hz0
      have CA := hide (xlallStay_any ((unhide HH).1.quiet (unhide HF)) ((unhide HH).2.1.quiet (unhide HF)) (unhide HB).1 (unhide HB).2 (-1) (-1) (fun s t T hs hT _ => (unhide HS) s t T hs hT))
      go_wp2_with fail
      refine (unhide CA).mono ?_
      rintro e we ⟨rfl, oS⟩
      have HF := hide ((unhide HF).trans oS (fun _ _ e => e))
      have HA := hide ((unhide HA).keep oS (fun e => e))
      have HA2 := hide ((unhide HA2).keep oS (fun e => e))
      have HO := hide ((unhide HH).2.2.1.trans (unhide HF) (fun _ _ e => e))
      clear CA oS a1 b0
      have a0 : we.cell? ⟨ka, 0, none⟩ = some (.int .i64 10) := (unhide HA).cell 0
      have hka := (unhide HA).lt
      have hkb := (unhide HA2).lt
      go_upto_region 24 with fail
      have H1 := (unhide HH).1.quiet (unhide HF)
      have kl := H1.lt
      obtain ⟨gp, cp, za, zc, r1', r2', pR⟩ := H1.rowsAt hs4 (unhide HD).hT
      obtain ⟨gk, ck, u1, u2⟩ := H1.pkAt (unhide HD).hT
      rw [(unhide HH).2.2.2.2] at r1' u1
      have oD : Only (fun _ => False) we we.drew := (Only.refl _ we).drew
      have CR := xlrefusal_key (w := we.drew) (pR.quiet oD) T.pk (((unhide HB).1.rl s hs4 T.nm).1) (fun r hr => ⟨(unhide HP).2 r (.inl hr), by have := ((unhide HB).1.rl s hs4 T.nm).2 r hr; omega⟩) 10 (s : Int) ob oc os ot (unhide HH).2.2.2.1 an.e (by decide) (by decide) ((unhide HR))
      unfold opX at CR
      obtain ⟨zn, hzn⟩ : ∃ z, (M.rows s T.nm).length = z := ⟨_, rfl⟩
      rw [hzn] at r2' CR
      generalize T.pk = pk at u2 CR
      have CR := hide CR
      clear H1 pR oD hzn
      have a1 : we.cell? ⟨ka, 1, none⟩ = some (.int .i64 (s : Int)) := (unhide HA).cell 1
      have a2 : we.cell? ⟨ka, 2, none⟩ = some (.int .i64 ob) := (unhide HA).cell 2
      have a3 : we.cell? ⟨ka, 3, none⟩ = some (.int .i64 oc) := (unhide HA).cell 3
      have a4 : we.cell? ⟨ka, 4, none⟩ = some (.string os) := (unhide HA).cell 4
      have a5 : we.cell? ⟨ka, 5, none⟩ = some (.string ot) := (unhide HA).cell 5
      have b0 : we.cell? ⟨ka + 1, 0, none⟩ = some (.int .i64 an.e) := (unhide HA2).cell 0
      have HFe := hide (unhide HF)
      have HAe := hide (unhide HA)
      have HAe2 := hide (unhide HA2)
      clear HF HA HA2 HO
      refine wp_region_held_drew (S := (fun w' => w'.cell? ⟨k, 2 + s, none⟩ = some (.slice (some ⟨gp, 0, none⟩) n cp) ∧ w'.cell? ⟨gp, t, none⟩ = some (.slice za zn zc) ∧ w'.cell? ⟨k, 1, none⟩ = some (.slice (some ⟨gk, 0, none⟩) n ck) ∧ w'.cell? ⟨gk, t, none⟩ = some (.int .i64 (pk : Int)) ∧ w'.cell? ⟨ka + 1, 0, none⟩ = some (.int .i64 an.e) ∧ w'.cell? ⟨ka, 0, none⟩ = some (.int .i64 10) ∧ w'.cell? ⟨ka, 1, none⟩ = some (.int .i64 (s : Int)) ∧ w'.cell? ⟨ka, 2, none⟩ = some (.int .i64 ob) ∧ w'.cell? ⟨ka, 3, none⟩ = some (.int .i64 oc) ∧ w'.cell? ⟨ka, 4, none⟩ = some (.string os) ∧ w'.cell? ⟨ka, 5, none⟩ = some (.string ot))) (by kernel_rfl) ⟨r1', r2', u1, u2, b0, a0, a1, a2, a3, a4, a5⟩ (fun hH0 => ?_)
      refine takeH 0 126 (v := ?vfz61) rfl rfl (by kernel_rfl) (by kernel_rfl) (by kernel_rfl) (fun _ _ _ h => h) (Or.inl ⟨by rfl, ?hfz61⟩) hH0 ?rfz61
      case hfz61 => (intro w hSw; clear hSw; go_simp; (try with_reducible rfl))
      case rfz61 =>
      try simp only [Act.put, List.setIfInBounds_toArray, List.set_cons_zero, List.set_cons_succ]
      refine takeH 1 127 (v := ?vfz62) rfl rfl (by kernel_rfl) (by kernel_rfl) (by kernel_rfl) (fun _ _ _ h => h) (Or.inl ⟨by rfl, ?hfz62⟩) hH0 ?rfz62
      case hfz62 => (intro w hSw; clear hSw; go_simp; (try with_reducible rfl))
      case rfz62 =>
      try simp only [Act.put, List.setIfInBounds_toArray, List.set_cons_zero, List.set_cons_succ]
      refine takeH 2 128 (v := ?vfz63) rfl rfl (by kernel_rfl) (by kernel_rfl) (by kernel_rfl) (fun _ _ _ h => h) (Or.inl ⟨by rfl, ?hfz63⟩) hH0 ?rfz63
      case hfz63 => (intro w hSw; obtain ⟨s0, s1, s2, s3, s4, s5, s6, s7, s8, s9, s10⟩ := hSw; go_simp; (try with_reducible rfl))
      case rfz63 =>
      try simp only [Act.put, List.setIfInBounds_toArray, List.set_cons_zero, List.set_cons_succ]
      refine takeH 3 129 (v := ?vfz64) rfl rfl (by kernel_rfl) (by kernel_rfl) (by kernel_rfl) (fun _ _ _ h => h) (Or.inl ⟨by rfl, ?hfz64⟩) hH0 ?rfz64
      case hfz64 => (intro w hSw; clear hSw; go_simp; (try with_reducible rfl))
      case rfz64 =>
      try simp only [Act.put, List.setIfInBounds_toArray, List.set_cons_zero, List.set_cons_succ]
      refine takeH 4 130 (v := ?vfz65) rfl rfl (by kernel_rfl) (by kernel_rfl) (by kernel_rfl) (fun _ _ _ h => h) (Or.inl ⟨by rfl, ?hfz65⟩) hH0 ?rfz65
      case hfz65 => (intro w hSw; clear hSw; go_simp; (try with_reducible rfl))
      case rfz65 =>
      try simp only [Act.put, List.setIfInBounds_toArray, List.set_cons_zero, List.set_cons_succ]
      refine takeH 5 131 (v := ?vfz66) rfl rfl (by kernel_rfl) (by kernel_rfl) (by kernel_rfl) (fun _ _ _ h => h) (Or.inl ⟨by rfl, ?hfz66⟩) hH0 ?rfz66
      case hfz66 => (intro w hSw; clear hSw; go_simp; (try with_reducible rfl))
      case rfz66 =>
      try simp only [Act.put, List.setIfInBounds_toArray, List.set_cons_zero, List.set_cons_succ]
      refine takeH 6 132 (v := ?vfz67) rfl rfl (by kernel_rfl) (by kernel_rfl) (by kernel_rfl) (fun _ _ _ h => h) (Or.inl ⟨by rfl, ?hfz67⟩) hH0 ?rfz67
      case hfz67 => (intro w hSw; obtain ⟨s0, s1, s2, s3, s4, s5, s6, s7, s8, s9, s10⟩ := hSw; go_simp; (try with_reducible rfl))
      case rfz67 =>
      try simp only [Act.put, List.setIfInBounds_toArray, List.set_cons_zero, List.set_cons_succ]
      refine takeH 7 133 (v := ?vfz68) rfl rfl (by kernel_rfl) (by kernel_rfl) (by kernel_rfl) (fun _ _ _ h => h) (Or.inl ⟨by rfl, ?hfz68⟩) hH0 ?rfz68
      case hfz68 => (intro w hSw; clear hSw; go_simp; (try with_reducible rfl))
      case rfz68 =>
      try simp only [Act.put, List.setIfInBounds_toArray, List.set_cons_zero, List.set_cons_succ]
      refine takeH 8 134 (v := ?vfz69) rfl rfl (by kernel_rfl) (by kernel_rfl) (by kernel_rfl) (fun _ _ _ h => h) (Or.inl ⟨by rfl, ?hfz69⟩) hH0 ?rfz69
      case hfz69 => (intro w hSw; clear hSw; go_simp; (try with_reducible rfl))
      case rfz69 =>
      try simp only [Act.put, List.setIfInBounds_toArray, List.set_cons_zero, List.set_cons_succ]
      refine takeH 9 135 (v := ?vfz610) rfl rfl (by kernel_rfl) (by kernel_rfl) (by kernel_rfl) (fun _ _ _ h => h) (Or.inl ⟨by rfl, ?hfz610⟩) hH0 ?rfz610
      case hfz610 => (intro w hSw; obtain ⟨s0, s1, s2, s3, s4, s5, s6, s7, s8, s9, s10⟩ := hSw; go_simp; (try with_reducible rfl))
      case rfz610 =>
      try simp only [Act.put, List.setIfInBounds_toArray, List.set_cons_zero, List.set_cons_succ]
      refine takeH 10 136 (v := ?vfz611) rfl rfl (by kernel_rfl) (by kernel_rfl) (by kernel_rfl) (fun _ _ _ h => h) (Or.inl ⟨by rfl, ?hfz611⟩) hH0 ?rfz611
      case hfz611 => (intro w hSw; clear hSw; go_simp; (try with_reducible rfl))
      case rfz611 =>
      try simp only [Act.put, List.setIfInBounds_toArray, List.set_cons_zero, List.set_cons_succ]
      refine takeH 11 137 (v := ?vfz612) rfl rfl (by kernel_rfl) (by kernel_rfl) (by kernel_rfl) (fun _ _ _ h => h) (Or.inl ⟨by rfl, ?hfz612⟩) hH0 ?rfz612
      case hfz612 => (intro w hSw; clear hSw; go_simp; (try with_reducible rfl))
      case rfz612 =>
      try simp only [Act.put, List.setIfInBounds_toArray, List.set_cons_zero, List.set_cons_succ]
      refine takeH 12 138 (v := ?vfz613) rfl rfl (by kernel_rfl) (by kernel_rfl) (by kernel_rfl) (fun _ _ _ h => h) (Or.inl ⟨by rfl, ?hfz613⟩) hH0 ?rfz613
      case hfz613 => (intro w hSw; clear hSw; go_simp; (try with_reducible rfl))
      case rfz613 =>
      try simp only [Act.put, List.setIfInBounds_toArray, List.set_cons_zero, List.set_cons_succ]
      refine takeH 13 139 (v := ?vfz614) rfl rfl (by kernel_rfl) (by kernel_rfl) (by kernel_rfl) (fun _ _ _ h => h) (Or.inl ⟨by rfl, ?hfz614⟩) hH0 ?rfz614
      case hfz614 => (intro w hSw; obtain ⟨s0, s1, s2, s3, s4, s5, s6, s7, s8, s9, s10⟩ := hSw; go_simp; (try with_reducible rfl))
      case rfz614 =>
      try simp only [Act.put, List.setIfInBounds_toArray, List.set_cons_zero, List.set_cons_succ]
      refine takeH 14 140 (v := ?vfz615) rfl rfl (by kernel_rfl) (by kernel_rfl) (by kernel_rfl) (fun _ _ _ h => h) (Or.inl ⟨by rfl, ?hfz615⟩) hH0 ?rfz615
      case hfz615 => (intro w hSw; clear hSw; go_simp; (try with_reducible rfl))
      case rfz615 =>
      try simp only [Act.put, List.setIfInBounds_toArray, List.set_cons_zero, List.set_cons_succ]
      refine takeH 15 141 (v := ?vfz616) rfl rfl (by kernel_rfl) (by kernel_rfl) (by kernel_rfl) (fun _ _ _ h => h) (Or.inl ⟨by rfl, ?hfz616⟩) hH0 ?rfz616
      case hfz616 => (intro w hSw; clear hSw; go_simp; (try with_reducible rfl))
      case rfz616 =>
      try simp only [Act.put, List.setIfInBounds_toArray, List.set_cons_zero, List.set_cons_succ]
      refine takeH 16 142 (v := ?vfz617) rfl rfl (by kernel_rfl) (by kernel_rfl) (by kernel_rfl) (fun _ _ _ h => h) (Or.inl ⟨by rfl, ?hfz617⟩) hH0 ?rfz617
      case hfz617 => (intro w hSw; obtain ⟨s0, s1, s2, s3, s4, s5, s6, s7, s8, s9, s10⟩ := hSw; go_simp; (try with_reducible rfl))
      case rfz617 =>
      try simp only [Act.put, List.setIfInBounds_toArray, List.set_cons_zero, List.set_cons_succ]
      refine takeH 17 143 (v := ?vfz618) rfl rfl (by kernel_rfl) (by kernel_rfl) (by kernel_rfl) (fun _ _ _ h => h) (Or.inl ⟨by rfl, ?hfz618⟩) hH0 ?rfz618
      case hfz618 => (intro w hSw; obtain ⟨s0, s1, s2, s3, s4, s5, s6, s7, s8, s9, s10⟩ := hSw; go_simp; (try with_reducible rfl))
      case rfz618 =>
      try simp only [Act.put, List.setIfInBounds_toArray, List.set_cons_zero, List.set_cons_succ]
      refine takeH 18 144 (v := ?vfz619) rfl rfl (by kernel_rfl) (by kernel_rfl) (by kernel_rfl) (fun _ _ _ h => h) (Or.inl ⟨by rfl, ?hfz619⟩) hH0 ?rfz619
      case hfz619 => (intro w hSw; clear hSw; go_simp; (try with_reducible rfl))
      case rfz619 =>
      try simp only [Act.put, List.setIfInBounds_toArray, List.set_cons_zero, List.set_cons_succ]
      refine takeH 19 145 (v := ?vfz620) rfl rfl (by kernel_rfl) (by kernel_rfl) (by kernel_rfl) (fun _ _ _ h => h) (Or.inl ⟨by rfl, ?hfz620⟩) hH0 ?rfz620
      case hfz620 => (intro w hSw; obtain ⟨s0, s1, s2, s3, s4, s5, s6, s7, s8, s9, s10⟩ := hSw; go_simp; (try with_reducible rfl))
      case rfz620 =>
      try simp only [Act.put, List.setIfInBounds_toArray, List.set_cons_zero, List.set_cons_succ]
      refine callH 20 (by kernel_rfl) rfl 146 rfl rfl 170 Tryz.func170 (by kernel_rfl) (by kernel_rfl) #[.tmp 135, .tmp 142, .tmp 143, .tmp 145] #[48, 3, 44, 46] rfl #[.slice za zn zc, .int .i64 (pk : Int), .agg #[.int .i64 10, .int .i64 (s : Int), .int .i64 ob, .int .i64 oc, .string os, .string ot], .int .i64 an.e] (by simp [Act.eval]) (R := fun v w' => v = .bool true ∧ Only (fun _ => False) we.drew w') ((unhide CR).mono (by rintro en w' ⟨rfl, o⟩; exact ⟨_, rfl, rfl, o⟩)) ?kfz6
      case kfz6 =>
      rintro _ w6 ⟨rfl, o6⟩
      have S6 : w6.cell? ⟨k, 2 + s, none⟩ = some (.slice (some ⟨gp, 0, none⟩) n cp) ∧ w6.cell? ⟨gp, t, none⟩ = some (.slice za zn zc) ∧ w6.cell? ⟨k, 1, none⟩ = some (.slice (some ⟨gk, 0, none⟩) n ck) ∧ w6.cell? ⟨gk, t, none⟩ = some (.int .i64 (pk : Int)) ∧ w6.cell? ⟨ka + 1, 0, none⟩ = some (.int .i64 an.e) ∧ w6.cell? ⟨ka, 0, none⟩ = some (.int .i64 10) ∧ w6.cell? ⟨ka, 1, none⟩ = some (.int .i64 (s : Int)) ∧ w6.cell? ⟨ka, 2, none⟩ = some (.int .i64 ob) ∧ w6.cell? ⟨ka, 3, none⟩ = some (.int .i64 oc) ∧ w6.cell? ⟨ka, 4, none⟩ = some (.string os) ∧ w6.cell? ⟨ka, 5, none⟩ = some (.string ot) := ⟨o6.cellF hH0.1, o6.cellF hH0.2.1, o6.cellF hH0.2.2.1, o6.cellF hH0.2.2.2.1, o6.cellF hH0.2.2.2.2.1, o6.cellF hH0.2.2.2.2.2.1, o6.cellF hH0.2.2.2.2.2.2.1, o6.cellF hH0.2.2.2.2.2.2.2.1, o6.cellF hH0.2.2.2.2.2.2.2.2.1, o6.cellF hH0.2.2.2.2.2.2.2.2.2.1, o6.cellF hH0.2.2.2.2.2.2.2.2.2.2⟩
      refine ⟨S6, ?_⟩
      try simp only [Act.put, List.setIfInBounds_toArray, List.set_cons_zero, List.set_cons_succ]
      refine takeH 21 147 (v := ?vfz621) rfl rfl (by kernel_rfl) (by kernel_rfl) (by kernel_rfl) (fun _ _ _ h => h) (Or.inl ⟨by rfl, ?hfz621⟩) S6 ?rfz621
      case hfz621 => (intro w hSw; clear hSw; go_simp; (try with_reducible rfl))
      case rfz621 =>
      try simp only [Act.put, List.setIfInBounds_toArray, List.set_cons_zero, List.set_cons_succ]
      refine wpAnyH_done (by kernel_rfl) ?_ _
      have oD : Only (fun _ => False) we w6 := (Only.refl _ we).drew.trans o6 (fun _ _ e => e)
      have HF := hide oD
      clear hH0 S6 o6 oD
      have HA := hide ((unhide HAe).keep (unhide HF) (fun e => e))
      have HA2 := hide ((unhide HAe2).keep (unhide HF) (fun e => e))
      have HFx := hide ((unhide HFe).trans (unhide HF) (fun _ _ e => e))
      have HO := hide ((unhide HH).2.2.1.trans (unhide HFx) (fun _ _ e => e))
      clear CR r1' r2' u1 u2 a0 a1 a2 a3 a4 a5 b0 HF HFe HAe HAe2
      have a0 : w6.cell? ⟨ka, 0, none⟩ = some (.int .i64 10) := (unhide HA).cell 0
      have b0 : w6.cell? ⟨ka + 1, 0, none⟩ = some (.int .i64 an.e) := (unhide HA2).cell 0
      have hka := (unhide HA).lt
      have hkb := (unhide HA2).lt
      have a5 : w6.cell? ⟨ka, 5, none⟩ = some (.string ot) := (unhide HA).cell 5
      have C1 := eFirst_any ot (unhide HH).2.2.2.1 w6
      have HK := hide ((unhide HLk) (unhide HZ))
      generalize fstP ot = key at *
      unfold vlA at C1
      have C1 := hide C1
      go_wp2_with fail
      refine (unhide C1).mono ?_
      rintro e1 wf ⟨rfl, o3⟩
      have o4 : Only (fun _ => False) wf (wf.alloc (.cells #[.bool key.str, .int .i64 key.i, .string key.s] 106)) := (Only.refl _ wf).alloc _
      have o34 := o3.trans o4 (fun _ _ e => e)
      have HNK := hide (Has.new wf #[.bool key.str, .int .i64 key.i, .string key.s] 106)
      have HA := hide ((unhide HA).keep o34 (fun e => e))
      have HA2 := hide ((unhide HA2).keep o34 (fun e => e))
      have HFx := hide ((unhide HFx).trans o34 (fun _ _ e => e))
      clear C1 o3 o4 o34 a0 a5 b0 HO HR HLk
      go_upto_region 28 with fail
      generalize wf.alloc (.cells #[.bool key.str, .int .i64 key.i, .string key.s] 106) = wg at *
      generalize wf.heap.size = kk at *
      have H1 := (unhide HH).1.quiet (unhide HFx)
      have kl := H1.lt
      obtain ⟨gp, cp, za, zc, r1', r2', pR⟩ := H1.rowsAt hs4 (unhide HD).hT
      obtain ⟨gk, ck, u1, u2⟩ := H1.pkAt (unhide HD).hT
      rw [(unhide HH).2.2.2.2] at r1' u1
      have oD : Only (fun _ => False) wg wg.drew := (Only.refl _ wg).drew
      have CU := xlunder_any (w := wg.drew) (pR.quiet oD) T.pk key (by have := ((unhide HB).1.rl s hs4 T.nm).1; omega) (fun r hr => ⟨(unhide HP).2 r (.inl hr), by have := ((unhide HB).1.rl s hs4 T.nm).2 r hr; omega⟩)
      unfold vlA at CU
      have HpR := hide pR
      obtain ⟨zn, hzn⟩ : ∃ z, (M.rows s T.nm).length = z := ⟨_, rfl⟩
      rw [hzn] at r2' CU
      have Hzn := hide hzn
      obtain ⟨pk, hpk'⟩ : ∃ p, T.pk = p := ⟨_, rfl⟩
      rw [hpk'] at u2 CU
      have Hpk := hide hpk'
      have CU := hide CU
      clear H1 pR oD hzn hpk'
      have a1 : wg.cell? ⟨ka, 1, none⟩ = some (.int .i64 (s : Int)) := (unhide HA).cell 1
      have hka := (unhide HA).lt
      have k0 : wg.cell? ⟨kk, 0, none⟩ = some (.bool key.str) := (unhide HNK).cell 0
      have k1 : wg.cell? ⟨kk, 1, none⟩ = some (.int .i64 key.i) := (unhide HNK).cell 1
      have kz : wg.cell? ⟨kk, 2, none⟩ = some (.string key.s) := (unhide HNK).cell 2
      have hkk := (unhide HNK).lt
      refine wp_region_held_drew (S := (fun w' => w'.cell? ⟨k, 2 + s, none⟩ = some (.slice (some ⟨gp, 0, none⟩) n cp) ∧ w'.cell? ⟨gp, t, none⟩ = some (.slice za zn zc) ∧ w'.cell? ⟨k, 1, none⟩ = some (.slice (some ⟨gk, 0, none⟩) n ck) ∧ w'.cell? ⟨gk, t, none⟩ = some (.int .i64 (pk : Int)) ∧ w'.cell? ⟨ka, 1, none⟩ = some (.int .i64 (s : Int)) ∧ w'.cell? ⟨kk, 0, none⟩ = some (.bool key.str) ∧ w'.cell? ⟨kk, 1, none⟩ = some (.int .i64 key.i) ∧ w'.cell? ⟨kk, 2, none⟩ = some (.string key.s))) (by kernel_rfl) ⟨r1', r2', u1, u2, a1, k0, k1, kz⟩ (fun hH0 => ?_)
      refine takeH 0 159 (v := ?vuz71) rfl rfl (by kernel_rfl) (by kernel_rfl) (by kernel_rfl) (fun _ _ _ h => h) (Or.inl ⟨by rfl, ?huz71⟩) hH0 ?ruz71
      case huz71 => (intro w hSw; clear hSw; go_simp; (try with_reducible rfl))
      case ruz71 =>
      try simp only [Act.put, List.setIfInBounds_toArray, List.set_cons_zero, List.set_cons_succ]
      refine takeH 1 160 (v := ?vuz72) rfl rfl (by kernel_rfl) (by kernel_rfl) (by kernel_rfl) (fun _ _ _ h => h) (Or.inl ⟨by rfl, ?huz72⟩) hH0 ?ruz72
      case huz72 => (intro w hSw; clear hSw; go_simp; (try with_reducible rfl))
      case ruz72 =>
      try simp only [Act.put, List.setIfInBounds_toArray, List.set_cons_zero, List.set_cons_succ]
      refine takeH 2 161 (v := ?vuz73) rfl rfl (by kernel_rfl) (by kernel_rfl) (by kernel_rfl) (fun _ _ _ h => h) (Or.inl ⟨by rfl, ?huz73⟩) hH0 ?ruz73
      case huz73 => (intro w hSw; obtain ⟨s0, s1, s2, s3, s4, s5, s6, s7⟩ := hSw; go_simp; (try with_reducible rfl))
      case ruz73 =>
      try simp only [Act.put, List.setIfInBounds_toArray, List.set_cons_zero, List.set_cons_succ]
      refine takeH 3 162 (v := ?vuz74) rfl rfl (by kernel_rfl) (by kernel_rfl) (by kernel_rfl) (fun _ _ _ h => h) (Or.inl ⟨by rfl, ?huz74⟩) hH0 ?ruz74
      case huz74 => (intro w hSw; clear hSw; go_simp; (try with_reducible rfl))
      case ruz74 =>
      try simp only [Act.put, List.setIfInBounds_toArray, List.set_cons_zero, List.set_cons_succ]
      refine takeH 4 163 (v := ?vuz75) rfl rfl (by kernel_rfl) (by kernel_rfl) (by kernel_rfl) (fun _ _ _ h => h) (Or.inl ⟨by rfl, ?huz75⟩) hH0 ?ruz75
      case huz75 => (intro w hSw; clear hSw; go_simp; (try with_reducible rfl))
      case ruz75 =>
      try simp only [Act.put, List.setIfInBounds_toArray, List.set_cons_zero, List.set_cons_succ]
      refine takeH 5 164 (v := ?vuz76) rfl rfl (by kernel_rfl) (by kernel_rfl) (by kernel_rfl) (fun _ _ _ h => h) (Or.inl ⟨by rfl, ?huz76⟩) hH0 ?ruz76
      case huz76 => (intro w hSw; clear hSw; go_simp; (try with_reducible rfl))
      case ruz76 =>
      try simp only [Act.put, List.setIfInBounds_toArray, List.set_cons_zero, List.set_cons_succ]
      refine takeH 6 165 (v := ?vuz77) rfl rfl (by kernel_rfl) (by kernel_rfl) (by kernel_rfl) (fun _ _ _ h => h) (Or.inl ⟨by rfl, ?huz77⟩) hH0 ?ruz77
      case huz77 => (intro w hSw; obtain ⟨s0, s1, s2, s3, s4, s5, s6, s7⟩ := hSw; go_simp; (try with_reducible rfl))
      case ruz77 =>
      try simp only [Act.put, List.setIfInBounds_toArray, List.set_cons_zero, List.set_cons_succ]
      refine takeH 7 166 (v := ?vuz78) rfl rfl (by kernel_rfl) (by kernel_rfl) (by kernel_rfl) (fun _ _ _ h => h) (Or.inl ⟨by rfl, ?huz78⟩) hH0 ?ruz78
      case huz78 => (intro w hSw; clear hSw; go_simp; (try with_reducible rfl))
      case ruz78 =>
      try simp only [Act.put, List.setIfInBounds_toArray, List.set_cons_zero, List.set_cons_succ]
      refine takeH 8 167 (v := ?vuz79) rfl rfl (by kernel_rfl) (by kernel_rfl) (by kernel_rfl) (fun _ _ _ h => h) (Or.inl ⟨by rfl, ?huz79⟩) hH0 ?ruz79
      case huz79 => (intro w hSw; clear hSw; go_simp; (try with_reducible rfl))
      case ruz79 =>
      try simp only [Act.put, List.setIfInBounds_toArray, List.set_cons_zero, List.set_cons_succ]
      refine takeH 9 168 (v := ?vuz710) rfl rfl (by kernel_rfl) (by kernel_rfl) (by kernel_rfl) (fun _ _ _ h => h) (Or.inl ⟨by rfl, ?huz710⟩) hH0 ?ruz710
      case huz710 => (intro w hSw; obtain ⟨s0, s1, s2, s3, s4, s5, s6, s7⟩ := hSw; go_simp; (try with_reducible rfl))
      case ruz710 =>
      try simp only [Act.put, List.setIfInBounds_toArray, List.set_cons_zero, List.set_cons_succ]
      refine takeH 10 169 (v := ?vuz711) rfl rfl (by kernel_rfl) (by kernel_rfl) (by kernel_rfl) (fun _ _ _ h => h) (Or.inl ⟨by rfl, ?huz711⟩) hH0 ?ruz711
      case huz711 => (intro w hSw; clear hSw; go_simp; (try with_reducible rfl))
      case ruz711 =>
      try simp only [Act.put, List.setIfInBounds_toArray, List.set_cons_zero, List.set_cons_succ]
      refine takeH 11 170 (v := ?vuz712) rfl rfl (by kernel_rfl) (by kernel_rfl) (by kernel_rfl) (fun _ _ _ h => h) (Or.inl ⟨by rfl, ?huz712⟩) hH0 ?ruz712
      case huz712 => (intro w hSw; clear hSw; go_simp; (try with_reducible rfl))
      case ruz712 =>
      try simp only [Act.put, List.setIfInBounds_toArray, List.set_cons_zero, List.set_cons_succ]
      refine takeH 12 171 (v := ?vuz713) rfl rfl (by kernel_rfl) (by kernel_rfl) (by kernel_rfl) (fun _ _ _ h => h) (Or.inl ⟨by rfl, ?huz713⟩) hH0 ?ruz713
      case huz713 => (intro w hSw; clear hSw; go_simp; (try with_reducible rfl))
      case ruz713 =>
      try simp only [Act.put, List.setIfInBounds_toArray, List.set_cons_zero, List.set_cons_succ]
      refine takeH 13 172 (v := ?vuz714) rfl rfl (by kernel_rfl) (by kernel_rfl) (by kernel_rfl) (fun _ _ _ h => h) (Or.inl ⟨by rfl, ?huz714⟩) hH0 ?ruz714
      case huz714 => (intro w hSw; obtain ⟨s0, s1, s2, s3, s4, s5, s6, s7⟩ := hSw; go_simp; (try with_reducible rfl))
      case ruz714 =>
      try simp only [Act.put, List.setIfInBounds_toArray, List.set_cons_zero, List.set_cons_succ]
      refine takeH 14 173 (v := ?vuz715) rfl rfl (by kernel_rfl) (by kernel_rfl) (by kernel_rfl) (fun _ _ _ h => h) (Or.inl ⟨by rfl, ?huz715⟩) hH0 ?ruz715
      case huz715 => (intro w hSw; clear hSw; go_simp; (try with_reducible rfl))
      case ruz715 =>
      try simp only [Act.put, List.setIfInBounds_toArray, List.set_cons_zero, List.set_cons_succ]
      refine takeH 15 174 (v := ?vuz716) rfl rfl (by kernel_rfl) (by kernel_rfl) (by kernel_rfl) (fun _ _ _ h => h) (Or.inl ⟨by rfl, ?huz716⟩) hH0 ?ruz716
      case huz716 => (intro w hSw; clear hSw; go_simp; (try with_reducible rfl))
      case ruz716 =>
      try simp only [Act.put, List.setIfInBounds_toArray, List.set_cons_zero, List.set_cons_succ]
      refine takeH 16 175 (v := ?vuz717) rfl rfl (by kernel_rfl) (by kernel_rfl) (by kernel_rfl) (fun _ _ _ h => h) (Or.inl ⟨by rfl, ?huz717⟩) hH0 ?ruz717
      case huz717 => (intro w hSw; obtain ⟨s0, s1, s2, s3, s4, s5, s6, s7⟩ := hSw; go_simp; (try with_reducible rfl))
      case ruz717 =>
      try simp only [Act.put, List.setIfInBounds_toArray, List.set_cons_zero, List.set_cons_succ]
      refine takeH 17 176 (v := ?vuz718) rfl rfl (by kernel_rfl) (by kernel_rfl) (by kernel_rfl) (fun _ _ _ h => h) (Or.inl ⟨by rfl, ?huz718⟩) hH0 ?ruz718
      case huz718 => (intro w hSw; obtain ⟨s0, s1, s2, s3, s4, s5, s6, s7⟩ := hSw; go_simp; (try with_reducible rfl))
      case ruz718 =>
      try simp only [Act.put, List.setIfInBounds_toArray, List.set_cons_zero, List.set_cons_succ]
      refine callH 18 (by kernel_rfl) rfl 177 rfl rfl 171 Tryz.func171 (by kernel_rfl) (by kernel_rfl) #[.tmp 168, .tmp 175, .tmp 176] #[48, 3, 106] rfl #[.slice za zn zc, .int .i64 (pk : Int), .agg #[.bool key.str, .int .i64 key.i, .string key.s]] (by simp [Act.eval]) (R := fun v w' => ∃ z, v = .int .i64 z ∧ UnR (M.rows s T.nm) pk key z ∧ Only (fun _ => False) wg.drew w') ((unhide CU).mono (by rintro en w' ⟨z, rfl, hz, o⟩; exact ⟨_, rfl, z, rfl, hz, o⟩)) ?kuz7
      case kuz7 =>
      rintro _ w6 ⟨z, rfl, hz, o6⟩
      have S6 : w6.cell? ⟨k, 2 + s, none⟩ = some (.slice (some ⟨gp, 0, none⟩) n cp) ∧ w6.cell? ⟨gp, t, none⟩ = some (.slice za zn zc) ∧ w6.cell? ⟨k, 1, none⟩ = some (.slice (some ⟨gk, 0, none⟩) n ck) ∧ w6.cell? ⟨gk, t, none⟩ = some (.int .i64 (pk : Int)) ∧ w6.cell? ⟨ka, 1, none⟩ = some (.int .i64 (s : Int)) ∧ w6.cell? ⟨kk, 0, none⟩ = some (.bool key.str) ∧ w6.cell? ⟨kk, 1, none⟩ = some (.int .i64 key.i) ∧ w6.cell? ⟨kk, 2, none⟩ = some (.string key.s) := ⟨o6.cellF hH0.1, o6.cellF hH0.2.1, o6.cellF hH0.2.2.1, o6.cellF hH0.2.2.2.1, o6.cellF hH0.2.2.2.2.1, o6.cellF hH0.2.2.2.2.2.1, o6.cellF hH0.2.2.2.2.2.2.1, o6.cellF hH0.2.2.2.2.2.2.2⟩
      refine ⟨S6, ?_⟩
      try simp only [Act.put, List.setIfInBounds_toArray, List.set_cons_zero, List.set_cons_succ]
      refine takeH 19 15 (v := ?vuz719) rfl rfl (by kernel_rfl) (by kernel_rfl) (by kernel_rfl) (fun _ _ _ h => h) (Or.inl ⟨by rfl, ?huz719⟩) S6 ?ruz719
      case huz719 => (intro w hSw; clear hSw; go_simp; (try with_reducible rfl))
      case ruz719 =>
      try simp only [Act.put, List.setIfInBounds_toArray, List.set_cons_zero, List.set_cons_succ]
      refine wpAnyH_done (by kernel_rfl) ?_ _
      have oD : Only (fun _ => False) wg w6 := (Only.refl _ wg).drew.trans o6 (fun _ _ e => e)
      have HF := hide oD
      clear hH0 S6 o6 oD
      have HFy := hide ((unhide HFx).trans (unhide HF) (fun _ _ e => e))
      have HA := hide ((unhide HA).keep (unhide HF) (fun e => e))
      have HA2 := hide ((unhide HA2).keep (unhide HF) (fun e => e))
      have oWg := unhide HF
      have r1' := oWg.cellF r1'
      have r2' := oWg.cellF r2'
      have HpR := hide ((unhide HpR).quiet oWg)
      clear CU u1 u2 a1 k0 k1 kz HF HFx oWg
      rcases hz with ⟨rfl, hno⟩ | ⟨i, r, rfl, hri, hrk⟩
      · exfalso
        obtain ⟨r, h1, h2⟩ := (unhide HK).1
        rw [unhide Hpk] at h2
        exact hno r h1 h2
      have di : decide ((i : Int) ≥ 0) = true := decide_eq_true (by omega)
      have di' : decide (0 ≤ (i : Int)) = true := decide_eq_true (by omega)
      have her : an.row = r := (unhide HK).2 i r hri (by rw [unhide Hpk]; exact hrk)
      obtain ⟨za', zc', hze, hzr⟩ := id (unhide HpR)
      simp only [Value.slice.injEq] at hze
      obtain ⟨rfl, _, rfl⟩ := hze
      obtain ⟨gz, uz, rfl, hzc, hzo⟩ := hzr i r hri
      have hil := (List.getElem?_eq_some_iff.mp hri).1
      rw [unhide Hzn] at hil
      have iI : (i : Int) < (zn : Int) := by omega
      obtain ⟨ua, uc, rfl⟩ := OwnV.shape hzo
      have a1 : w6.cell? ⟨ka, 1, none⟩ = some (.int .i64 (s : Int)) := (unhide HA).cell 1
      have b2 : w6.cell? ⟨ka + 1, 2, none⟩ = some (.slice p1 ln p2) := (unhide HA2).cell 2
      have hka := (unhide HA).lt
      have hkb := (unhide HA2).lt
      have kl := ((unhide HH).1.quiet (unhide HFy)).lt
      have oD : Only (fun _ => False) w6 w6.drew := (Only.refl _ w6).drew
      have oAn := ((unhide HAn).quiet ((unhide HFy).trans oD (fun _ _ e => e))).row
      rw [(unhide HRS).1] at oAn
      have CX := jsameRow_any (w := w6.drew) oAn (hzo.keep oD (fun _ _ e => e)) (by have := ((unhide HB).1.rl s hs4 T.nm).2 r (List.mem_of_getElem? hri); rw [her]; omega)
      rw [decide_eq_true her] at CX
      obtain ⟨rn, hrn⟩ : ∃ z, r.length = z := ⟨_, rfl⟩
      rw [hrn] at hzc CX
      have CX := hide CX
      generalize hw : w6 = wh at *
      clear hw hrk her hzr hzo oD oAn hrn hri
      go_upto_region 29 with fail
      refine wp_region_held_drew (S := (fun w' => w'.cell? ⟨k, 2 + s, none⟩ = some (.slice (some ⟨gp, 0, none⟩) n cp) ∧ w'.cell? ⟨gp, t, none⟩ = some (.slice (some ⟨gz, 0, none⟩) zn zc) ∧ w'.cell? ⟨gz, i, none⟩ = some (.slice ua rn uc) ∧ w'.cell? ⟨ka, 1, none⟩ = some (.int .i64 (s : Int)) ∧ w'.cell? ⟨ka + 1, 2, none⟩ = some (.slice p1 ln p2))) (by kernel_rfl) ⟨r1', r2', hzc, a1, b2⟩ (fun hH0 => ?_)
      refine takeH 0 178 (v := ?vxz81) rfl rfl (by kernel_rfl) (by kernel_rfl) (by kernel_rfl) (fun _ _ _ h => h) (Or.inl ⟨by rfl, ?hxz81⟩) hH0 ?rxz81
      case hxz81 => (intro w hSw; clear hSw; go_simp; (try with_reducible rfl))
      case rxz81 =>
      try simp only [Act.put, List.setIfInBounds_toArray, List.set_cons_zero, List.set_cons_succ]
      refine takeH 1 179 (v := ?vxz82) rfl rfl (by kernel_rfl) (by kernel_rfl) (by kernel_rfl) (fun _ _ _ h => h) (Or.inl ⟨by rfl, ?hxz82⟩) hH0 ?rxz82
      case hxz82 => (intro w hSw; clear hSw; go_simp; (try with_reducible rfl))
      case rxz82 =>
      try simp only [Act.put, List.setIfInBounds_toArray, List.set_cons_zero, List.set_cons_succ]
      refine takeH 2 180 (v := ?vxz83) rfl rfl (by kernel_rfl) (by kernel_rfl) (by kernel_rfl) (fun _ _ _ h => h) (Or.inl ⟨by rfl, ?hxz83⟩) hH0 ?rxz83
      case hxz83 => (intro w hSw; clear hSw; go_simp; (try with_reducible rfl))
      case rxz83 =>
      try simp only [Act.put, List.setIfInBounds_toArray, List.set_cons_zero, List.set_cons_succ]
      refine takeH 3 181 (v := ?vxz84) rfl rfl (by kernel_rfl) (by kernel_rfl) (by kernel_rfl) (fun _ _ _ h => h) (Or.inl ⟨by rfl, ?hxz84⟩) hH0 ?rxz84
      case hxz84 => (intro w hSw; clear hSw; go_simp; (try with_reducible rfl))
      case rxz84 =>
      try simp only [Act.put, List.setIfInBounds_toArray, List.set_cons_zero, List.set_cons_succ]
      refine takeH 4 182 (v := ?vxz85) rfl rfl (by kernel_rfl) (by kernel_rfl) (by kernel_rfl) (fun _ _ _ h => h) (Or.inl ⟨by rfl, ?hxz85⟩) hH0 ?rxz85
      case hxz85 => (intro w hSw; obtain ⟨s0, s1, s2, s3, s4⟩ := hSw; go_simp; (try with_reducible rfl))
      case rxz85 =>
      try simp only [Act.put, List.setIfInBounds_toArray, List.set_cons_zero, List.set_cons_succ]
      refine takeH 5 183 (v := ?vxz86) rfl rfl (by kernel_rfl) (by kernel_rfl) (by kernel_rfl) (fun _ _ _ h => h) (Or.inl ⟨by rfl, ?hxz86⟩) hH0 ?rxz86
      case hxz86 => (intro w hSw; clear hSw; go_simp; (try with_reducible rfl))
      case rxz86 =>
      try simp only [Act.put, List.setIfInBounds_toArray, List.set_cons_zero, List.set_cons_succ]
      refine takeH 6 184 (v := ?vxz87) rfl rfl (by kernel_rfl) (by kernel_rfl) (by kernel_rfl) (fun _ _ _ h => h) (Or.inl ⟨by rfl, ?hxz87⟩) hH0 ?rxz87
      case hxz87 => (intro w hSw; clear hSw; go_simp; (try with_reducible rfl))
      case rxz87 =>
      try simp only [Act.put, List.setIfInBounds_toArray, List.set_cons_zero, List.set_cons_succ]
      refine takeH 7 185 (v := ?vxz88) rfl rfl (by kernel_rfl) (by kernel_rfl) (by kernel_rfl) (fun _ _ _ h => h) (Or.inl ⟨by rfl, ?hxz88⟩) hH0 ?rxz88
      case hxz88 => (intro w hSw; obtain ⟨s0, s1, s2, s3, s4⟩ := hSw; go_simp; (try with_reducible rfl))
      case rxz88 =>
      try simp only [Act.put, List.setIfInBounds_toArray, List.set_cons_zero, List.set_cons_succ]
      refine takeH 8 186 (v := ?vxz89) rfl rfl (by kernel_rfl) (by kernel_rfl) (by kernel_rfl) (fun _ _ _ h => h) (Or.inl ⟨by rfl, ?hxz89⟩) hH0 ?rxz89
      case hxz89 => (intro w hSw; clear hSw; go_simp; (try with_reducible rfl))
      case rxz89 =>
      try simp only [Act.put, List.setIfInBounds_toArray, List.set_cons_zero, List.set_cons_succ]
      refine takeH 9 187 (v := ?vxz810) rfl rfl (by kernel_rfl) (by kernel_rfl) (by kernel_rfl) (fun _ _ _ h => h) (Or.inl ⟨by rfl, ?hxz810⟩) hH0 ?rxz810
      case hxz810 => (intro w hSw; clear hSw; go_simp; (try with_reducible rfl))
      case rxz810 =>
      try simp only [Act.put, List.setIfInBounds_toArray, List.set_cons_zero, List.set_cons_succ]
      refine takeH 10 188 (v := ?vxz811) rfl rfl (by kernel_rfl) (by kernel_rfl) (by kernel_rfl) (fun _ _ _ h => h) (Or.inl ⟨by rfl, ?hxz811⟩) hH0 ?rxz811
      case hxz811 => (intro w hSw; clear hSw; go_simp; (try with_reducible rfl))
      case rxz811 =>
      try simp only [Act.put, List.setIfInBounds_toArray, List.set_cons_zero, List.set_cons_succ]
      refine takeH 11 189 (v := ?vxz812) rfl rfl (by kernel_rfl) (by kernel_rfl) (by kernel_rfl) (fun _ _ _ h => h) (Or.inl ⟨by rfl, ?hxz812⟩) hH0 ?rxz812
      case hxz812 => (intro w hSw; obtain ⟨s0, s1, s2, s3, s4⟩ := hSw; go_simp; (try with_reducible rfl))
      case rxz812 =>
      try simp only [Act.put, List.setIfInBounds_toArray, List.set_cons_zero, List.set_cons_succ]
      refine takeH 12 190 (v := ?vxz813) rfl rfl (by kernel_rfl) (by kernel_rfl) (by kernel_rfl) (fun _ _ _ h => h) (Or.inl ⟨by rfl, ?hxz813⟩) hH0 ?rxz813
      case hxz813 => (intro w hSw; clear hSw; go_simp; (try with_reducible rfl))
      case rxz813 =>
      try simp only [Act.put, List.setIfInBounds_toArray, List.set_cons_zero, List.set_cons_succ]
      refine takeH 13 191 (v := ?vxz814) rfl rfl (by kernel_rfl) (by kernel_rfl) (by kernel_rfl) (fun _ _ _ h => h) (Or.inl ⟨by rfl, ?hxz814⟩) hH0 ?rxz814
      case hxz814 => (intro w hSw; clear hSw; go_simp; (try with_reducible rfl))
      case rxz814 =>
      try simp only [Act.put, List.setIfInBounds_toArray, List.set_cons_zero, List.set_cons_succ]
      refine takeH 14 192 (v := ?vxz815) rfl rfl (by kernel_rfl) (by kernel_rfl) (by kernel_rfl) (fun _ _ _ h => h) (Or.inl ⟨by rfl, ?hxz815⟩) hH0 ?rxz815
      case hxz815 => (intro w hSw; obtain ⟨s0, s1, s2, s3, s4⟩ := hSw; go_simp; (try with_reducible rfl))
      case rxz815 =>
      try simp only [Act.put, List.setIfInBounds_toArray, List.set_cons_zero, List.set_cons_succ]
      refine takeH 15 193 (v := ?vxz816) rfl rfl (by kernel_rfl) (by kernel_rfl) (by kernel_rfl) (fun _ _ _ h => h) (Or.inl ⟨by rfl, ?hxz816⟩) hH0 ?rxz816
      case hxz816 => (intro w hSw; clear hSw; go_simp; (try with_reducible rfl))
      case rxz816 =>
      try simp only [Act.put, List.setIfInBounds_toArray, List.set_cons_zero, List.set_cons_succ]
      refine takeH 16 194 (v := ?vxz817) rfl rfl (by kernel_rfl) (by kernel_rfl) (by kernel_rfl) (fun _ _ _ h => h) (Or.inl ⟨by rfl, ?hxz817⟩) hH0 ?rxz817
      case hxz817 => (intro w hSw; clear hSw; go_simp; (try with_reducible rfl))
      case rxz817 =>
      try simp only [Act.put, List.setIfInBounds_toArray, List.set_cons_zero, List.set_cons_succ]
      refine takeH 17 195 (v := ?vxz818) rfl rfl (by kernel_rfl) (by kernel_rfl) (by kernel_rfl) (fun _ _ _ h => h) (Or.inl ⟨by rfl, ?hxz818⟩) hH0 ?rxz818
      case hxz818 => (intro w hSw; obtain ⟨s0, s1, s2, s3, s4⟩ := hSw; go_simp; (try with_reducible rfl))
      case rxz818 =>
      try simp only [Act.put, List.setIfInBounds_toArray, List.set_cons_zero, List.set_cons_succ]
      refine callHg 18 (by kernel_rfl) rfl 196 rfl (by rfl) 109 Tryz.func109 (by kernel_rfl) (by kernel_rfl) #[.tmp 182, .tmp 195] #[47, 47] rfl #[.slice p1 ln p2, .slice ua rn uc] (by simp [Act.eval]) (R := fun v w' => v = .bool true ∧ Only (fun _ => False) wh.drew w') ((unhide CX).mono (by rintro en w' ⟨rfl, o⟩; exact ⟨_, rfl, rfl, o⟩)) ?kxz8
      case kxz8 =>
      rintro _ w6 ⟨rfl, o6⟩
      have S6 : w6.cell? ⟨k, 2 + s, none⟩ = some (.slice (some ⟨gp, 0, none⟩) n cp) ∧ w6.cell? ⟨gp, t, none⟩ = some (.slice (some ⟨gz, 0, none⟩) zn zc) ∧ w6.cell? ⟨gz, i, none⟩ = some (.slice ua rn uc) ∧ w6.cell? ⟨ka, 1, none⟩ = some (.int .i64 (s : Int)) ∧ w6.cell? ⟨ka + 1, 2, none⟩ = some (.slice p1 ln p2) := ⟨o6.cellF hH0.1, o6.cellF hH0.2.1, o6.cellF hH0.2.2.1, o6.cellF hH0.2.2.2.1, o6.cellF hH0.2.2.2.2⟩
      refine ⟨S6, ?_⟩
      try simp only [Act.put, List.setIfInBounds_toArray, List.set_cons_zero, List.set_cons_succ]
      refine takeH 19 197 (v := ?vxz819) rfl rfl (by kernel_rfl) (by kernel_rfl) (by kernel_rfl) (fun _ _ _ h => h) (Or.inl ⟨by rfl, ?hxz819⟩) S6 ?rxz819
      case hxz819 => (intro w hSw; clear hSw; go_simp; (try with_reducible rfl))
      case rxz819 =>
      try simp only [Act.put, List.setIfInBounds_toArray, List.set_cons_zero, List.set_cons_succ]
      refine takeH 20 8 (v := ?vxz820) rfl rfl (by kernel_rfl) (by kernel_rfl) (by kernel_rfl) (fun _ _ _ h => h) (Or.inl ⟨by rfl, ?hxz820⟩) S6 ?rxz820
      case hxz820 => (intro w hSw; clear hSw; go_simp; (try with_reducible rfl))
      case rxz820 =>
      try simp only [Act.put, List.setIfInBounds_toArray, List.set_cons_zero, List.set_cons_succ]
      refine wpAnyH_done (by kernel_rfl) ?_ _
      have oD : Only (fun _ => False) wh w6 := (Only.refl _ wh).drew.trans o6 (fun _ _ e => e)
      have HF := hide oD
      clear hH0 S6 o6 oD
      have HO := hide (((unhide HH).2.2.1.trans (unhide HFy) (fun _ _ e => e)).trans (unhide HF) (fun _ _ e => e))
      clear CX HF HFy
      go_wp2_with fail
      go_ret
      exact ⟨rfl, unhide HO⟩
    · have n0 : (an.e != 0) = true := by simpa using hz0
      have n1 : (an.e == 0) = false := ne_intO hz0
      clear hz0
      have CA := hide (xlallStay_any ((unhide HH).1.quiet (unhide HF)) ((unhide HH).2.1.quiet (unhide HF)) (unhide HB).1 (unhide HB).2 (-1) (-1) (fun s t T hs hT _ => (unhide HS) s t T hs hT))
      go_wp2_with fail
      refine (unhide CA).mono ?_
      rintro e we ⟨rfl, oS⟩
      have HF := hide ((unhide HF).trans oS (fun _ _ e => e))
      have HA := hide ((unhide HA).keep oS (fun e => e))
      have HA2 := hide ((unhide HA2).keep oS (fun e => e))
      have HO := hide ((unhide HH).2.2.1.trans (unhide HF) (fun _ _ e => e))
      clear CA oS a1 b0
      have a0 : we.cell? ⟨ka, 0, none⟩ = some (.int .i64 10) := (unhide HA).cell 0
      have hka := (unhide HA).lt
      have hkb := (unhide HA2).lt
      go_upto_region 24 with fail
      have H1 := (unhide HH).1.quiet (unhide HF)
      have kl := H1.lt
      obtain ⟨gp, cp, za, zc, r1', r2', pR⟩ := H1.rowsAt hs4 (unhide HD).hT
      obtain ⟨gk, ck, u1, u2⟩ := H1.pkAt (unhide HD).hT
      rw [(unhide HH).2.2.2.2] at r1' u1
      have oD : Only (fun _ => False) we we.drew := (Only.refl _ we).drew
      have CR := xlrefusal_key (w := we.drew) (pR.quiet oD) T.pk (((unhide HB).1.rl s hs4 T.nm).1) (fun r hr => ⟨(unhide HP).2 r (.inl hr), by have := ((unhide HB).1.rl s hs4 T.nm).2 r hr; omega⟩) 10 (s : Int) ob oc os ot (unhide HH).2.2.2.1 an.e (by decide) (by decide) ((unhide HR))
      unfold opX at CR
      obtain ⟨zn, hzn⟩ : ∃ z, (M.rows s T.nm).length = z := ⟨_, rfl⟩
      rw [hzn] at r2' CR
      generalize T.pk = pk at u2 CR
      have CR := hide CR
      clear H1 pR oD hzn
      have a1 : we.cell? ⟨ka, 1, none⟩ = some (.int .i64 (s : Int)) := (unhide HA).cell 1
      have a2 : we.cell? ⟨ka, 2, none⟩ = some (.int .i64 ob) := (unhide HA).cell 2
      have a3 : we.cell? ⟨ka, 3, none⟩ = some (.int .i64 oc) := (unhide HA).cell 3
      have a4 : we.cell? ⟨ka, 4, none⟩ = some (.string os) := (unhide HA).cell 4
      have a5 : we.cell? ⟨ka, 5, none⟩ = some (.string ot) := (unhide HA).cell 5
      have b0 : we.cell? ⟨ka + 1, 0, none⟩ = some (.int .i64 an.e) := (unhide HA2).cell 0
      have HFe := hide (unhide HF)
      have HAe := hide (unhide HA)
      have HAe2 := hide (unhide HA2)
      clear HF HA HA2 HO
      refine wp_region_held_drew (S := (fun w' => w'.cell? ⟨k, 2 + s, none⟩ = some (.slice (some ⟨gp, 0, none⟩) n cp) ∧ w'.cell? ⟨gp, t, none⟩ = some (.slice za zn zc) ∧ w'.cell? ⟨k, 1, none⟩ = some (.slice (some ⟨gk, 0, none⟩) n ck) ∧ w'.cell? ⟨gk, t, none⟩ = some (.int .i64 (pk : Int)) ∧ w'.cell? ⟨ka + 1, 0, none⟩ = some (.int .i64 an.e) ∧ w'.cell? ⟨ka, 0, none⟩ = some (.int .i64 10) ∧ w'.cell? ⟨ka, 1, none⟩ = some (.int .i64 (s : Int)) ∧ w'.cell? ⟨ka, 2, none⟩ = some (.int .i64 ob) ∧ w'.cell? ⟨ka, 3, none⟩ = some (.int .i64 oc) ∧ w'.cell? ⟨ka, 4, none⟩ = some (.string os) ∧ w'.cell? ⟨ka, 5, none⟩ = some (.string ot))) (by kernel_rfl) ⟨r1', r2', u1, u2, b0, a0, a1, a2, a3, a4, a5⟩ (fun hH0 => ?_)
      refine takeH 0 126 (v := ?vfz91) rfl rfl (by kernel_rfl) (by kernel_rfl) (by kernel_rfl) (fun _ _ _ h => h) (Or.inl ⟨by rfl, ?hfz91⟩) hH0 ?rfz91
      case hfz91 => (intro w hSw; clear hSw; go_simp; (try with_reducible rfl))
      case rfz91 =>
      try simp only [Act.put, List.setIfInBounds_toArray, List.set_cons_zero, List.set_cons_succ]
      refine takeH 1 127 (v := ?vfz92) rfl rfl (by kernel_rfl) (by kernel_rfl) (by kernel_rfl) (fun _ _ _ h => h) (Or.inl ⟨by rfl, ?hfz92⟩) hH0 ?rfz92
      case hfz92 => (intro w hSw; clear hSw; go_simp; (try with_reducible rfl))
      case rfz92 =>
      try simp only [Act.put, List.setIfInBounds_toArray, List.set_cons_zero, List.set_cons_succ]
      refine takeH 2 128 (v := ?vfz93) rfl rfl (by kernel_rfl) (by kernel_rfl) (by kernel_rfl) (fun _ _ _ h => h) (Or.inl ⟨by rfl, ?hfz93⟩) hH0 ?rfz93
      case hfz93 => (intro w hSw; obtain ⟨s0, s1, s2, s3, s4, s5, s6, s7, s8, s9, s10⟩ := hSw; go_simp; (try with_reducible rfl))
      case rfz93 =>
      try simp only [Act.put, List.setIfInBounds_toArray, List.set_cons_zero, List.set_cons_succ]
      refine takeH 3 129 (v := ?vfz94) rfl rfl (by kernel_rfl) (by kernel_rfl) (by kernel_rfl) (fun _ _ _ h => h) (Or.inl ⟨by rfl, ?hfz94⟩) hH0 ?rfz94
      case hfz94 => (intro w hSw; clear hSw; go_simp; (try with_reducible rfl))
      case rfz94 =>
      try simp only [Act.put, List.setIfInBounds_toArray, List.set_cons_zero, List.set_cons_succ]
      refine takeH 4 130 (v := ?vfz95) rfl rfl (by kernel_rfl) (by kernel_rfl) (by kernel_rfl) (fun _ _ _ h => h) (Or.inl ⟨by rfl, ?hfz95⟩) hH0 ?rfz95
      case hfz95 => (intro w hSw; clear hSw; go_simp; (try with_reducible rfl))
      case rfz95 =>
      try simp only [Act.put, List.setIfInBounds_toArray, List.set_cons_zero, List.set_cons_succ]
      refine takeH 5 131 (v := ?vfz96) rfl rfl (by kernel_rfl) (by kernel_rfl) (by kernel_rfl) (fun _ _ _ h => h) (Or.inl ⟨by rfl, ?hfz96⟩) hH0 ?rfz96
      case hfz96 => (intro w hSw; clear hSw; go_simp; (try with_reducible rfl))
      case rfz96 =>
      try simp only [Act.put, List.setIfInBounds_toArray, List.set_cons_zero, List.set_cons_succ]
      refine takeH 6 132 (v := ?vfz97) rfl rfl (by kernel_rfl) (by kernel_rfl) (by kernel_rfl) (fun _ _ _ h => h) (Or.inl ⟨by rfl, ?hfz97⟩) hH0 ?rfz97
      case hfz97 => (intro w hSw; obtain ⟨s0, s1, s2, s3, s4, s5, s6, s7, s8, s9, s10⟩ := hSw; go_simp; (try with_reducible rfl))
      case rfz97 =>
      try simp only [Act.put, List.setIfInBounds_toArray, List.set_cons_zero, List.set_cons_succ]
      refine takeH 7 133 (v := ?vfz98) rfl rfl (by kernel_rfl) (by kernel_rfl) (by kernel_rfl) (fun _ _ _ h => h) (Or.inl ⟨by rfl, ?hfz98⟩) hH0 ?rfz98
      case hfz98 => (intro w hSw; clear hSw; go_simp; (try with_reducible rfl))
      case rfz98 =>
      try simp only [Act.put, List.setIfInBounds_toArray, List.set_cons_zero, List.set_cons_succ]
      refine takeH 8 134 (v := ?vfz99) rfl rfl (by kernel_rfl) (by kernel_rfl) (by kernel_rfl) (fun _ _ _ h => h) (Or.inl ⟨by rfl, ?hfz99⟩) hH0 ?rfz99
      case hfz99 => (intro w hSw; clear hSw; go_simp; (try with_reducible rfl))
      case rfz99 =>
      try simp only [Act.put, List.setIfInBounds_toArray, List.set_cons_zero, List.set_cons_succ]
      refine takeH 9 135 (v := ?vfz910) rfl rfl (by kernel_rfl) (by kernel_rfl) (by kernel_rfl) (fun _ _ _ h => h) (Or.inl ⟨by rfl, ?hfz910⟩) hH0 ?rfz910
      case hfz910 => (intro w hSw; obtain ⟨s0, s1, s2, s3, s4, s5, s6, s7, s8, s9, s10⟩ := hSw; go_simp; (try with_reducible rfl))
      case rfz910 =>
      try simp only [Act.put, List.setIfInBounds_toArray, List.set_cons_zero, List.set_cons_succ]
      refine takeH 10 136 (v := ?vfz911) rfl rfl (by kernel_rfl) (by kernel_rfl) (by kernel_rfl) (fun _ _ _ h => h) (Or.inl ⟨by rfl, ?hfz911⟩) hH0 ?rfz911
      case hfz911 => (intro w hSw; clear hSw; go_simp; (try with_reducible rfl))
      case rfz911 =>
      try simp only [Act.put, List.setIfInBounds_toArray, List.set_cons_zero, List.set_cons_succ]
      refine takeH 11 137 (v := ?vfz912) rfl rfl (by kernel_rfl) (by kernel_rfl) (by kernel_rfl) (fun _ _ _ h => h) (Or.inl ⟨by rfl, ?hfz912⟩) hH0 ?rfz912
      case hfz912 => (intro w hSw; clear hSw; go_simp; (try with_reducible rfl))
      case rfz912 =>
      try simp only [Act.put, List.setIfInBounds_toArray, List.set_cons_zero, List.set_cons_succ]
      refine takeH 12 138 (v := ?vfz913) rfl rfl (by kernel_rfl) (by kernel_rfl) (by kernel_rfl) (fun _ _ _ h => h) (Or.inl ⟨by rfl, ?hfz913⟩) hH0 ?rfz913
      case hfz913 => (intro w hSw; clear hSw; go_simp; (try with_reducible rfl))
      case rfz913 =>
      try simp only [Act.put, List.setIfInBounds_toArray, List.set_cons_zero, List.set_cons_succ]
      refine takeH 13 139 (v := ?vfz914) rfl rfl (by kernel_rfl) (by kernel_rfl) (by kernel_rfl) (fun _ _ _ h => h) (Or.inl ⟨by rfl, ?hfz914⟩) hH0 ?rfz914
      case hfz914 => (intro w hSw; obtain ⟨s0, s1, s2, s3, s4, s5, s6, s7, s8, s9, s10⟩ := hSw; go_simp; (try with_reducible rfl))
      case rfz914 =>
      try simp only [Act.put, List.setIfInBounds_toArray, List.set_cons_zero, List.set_cons_succ]
      refine takeH 14 140 (v := ?vfz915) rfl rfl (by kernel_rfl) (by kernel_rfl) (by kernel_rfl) (fun _ _ _ h => h) (Or.inl ⟨by rfl, ?hfz915⟩) hH0 ?rfz915
      case hfz915 => (intro w hSw; clear hSw; go_simp; (try with_reducible rfl))
      case rfz915 =>
      try simp only [Act.put, List.setIfInBounds_toArray, List.set_cons_zero, List.set_cons_succ]
      refine takeH 15 141 (v := ?vfz916) rfl rfl (by kernel_rfl) (by kernel_rfl) (by kernel_rfl) (fun _ _ _ h => h) (Or.inl ⟨by rfl, ?hfz916⟩) hH0 ?rfz916
      case hfz916 => (intro w hSw; clear hSw; go_simp; (try with_reducible rfl))
      case rfz916 =>
      try simp only [Act.put, List.setIfInBounds_toArray, List.set_cons_zero, List.set_cons_succ]
      refine takeH 16 142 (v := ?vfz917) rfl rfl (by kernel_rfl) (by kernel_rfl) (by kernel_rfl) (fun _ _ _ h => h) (Or.inl ⟨by rfl, ?hfz917⟩) hH0 ?rfz917
      case hfz917 => (intro w hSw; obtain ⟨s0, s1, s2, s3, s4, s5, s6, s7, s8, s9, s10⟩ := hSw; go_simp; (try with_reducible rfl))
      case rfz917 =>
      try simp only [Act.put, List.setIfInBounds_toArray, List.set_cons_zero, List.set_cons_succ]
      refine takeH 17 143 (v := ?vfz918) rfl rfl (by kernel_rfl) (by kernel_rfl) (by kernel_rfl) (fun _ _ _ h => h) (Or.inl ⟨by rfl, ?hfz918⟩) hH0 ?rfz918
      case hfz918 => (intro w hSw; obtain ⟨s0, s1, s2, s3, s4, s5, s6, s7, s8, s9, s10⟩ := hSw; go_simp; (try with_reducible rfl))
      case rfz918 =>
      try simp only [Act.put, List.setIfInBounds_toArray, List.set_cons_zero, List.set_cons_succ]
      refine takeH 18 144 (v := ?vfz919) rfl rfl (by kernel_rfl) (by kernel_rfl) (by kernel_rfl) (fun _ _ _ h => h) (Or.inl ⟨by rfl, ?hfz919⟩) hH0 ?rfz919
      case hfz919 => (intro w hSw; clear hSw; go_simp; (try with_reducible rfl))
      case rfz919 =>
      try simp only [Act.put, List.setIfInBounds_toArray, List.set_cons_zero, List.set_cons_succ]
      refine takeH 19 145 (v := ?vfz920) rfl rfl (by kernel_rfl) (by kernel_rfl) (by kernel_rfl) (fun _ _ _ h => h) (Or.inl ⟨by rfl, ?hfz920⟩) hH0 ?rfz920
      case hfz920 => (intro w hSw; obtain ⟨s0, s1, s2, s3, s4, s5, s6, s7, s8, s9, s10⟩ := hSw; go_simp; (try with_reducible rfl))
      case rfz920 =>
      try simp only [Act.put, List.setIfInBounds_toArray, List.set_cons_zero, List.set_cons_succ]
      refine callH 20 (by kernel_rfl) rfl 146 rfl rfl 170 Tryz.func170 (by kernel_rfl) (by kernel_rfl) #[.tmp 135, .tmp 142, .tmp 143, .tmp 145] #[48, 3, 44, 46] rfl #[.slice za zn zc, .int .i64 (pk : Int), .agg #[.int .i64 10, .int .i64 (s : Int), .int .i64 ob, .int .i64 oc, .string os, .string ot], .int .i64 an.e] (by simp [Act.eval]) (R := fun v w' => v = .bool true ∧ Only (fun _ => False) we.drew w') ((unhide CR).mono (by rintro en w' ⟨rfl, o⟩; exact ⟨_, rfl, rfl, o⟩)) ?kfz9
      case kfz9 =>
      rintro _ w6 ⟨rfl, o6⟩
      have S6 : w6.cell? ⟨k, 2 + s, none⟩ = some (.slice (some ⟨gp, 0, none⟩) n cp) ∧ w6.cell? ⟨gp, t, none⟩ = some (.slice za zn zc) ∧ w6.cell? ⟨k, 1, none⟩ = some (.slice (some ⟨gk, 0, none⟩) n ck) ∧ w6.cell? ⟨gk, t, none⟩ = some (.int .i64 (pk : Int)) ∧ w6.cell? ⟨ka + 1, 0, none⟩ = some (.int .i64 an.e) ∧ w6.cell? ⟨ka, 0, none⟩ = some (.int .i64 10) ∧ w6.cell? ⟨ka, 1, none⟩ = some (.int .i64 (s : Int)) ∧ w6.cell? ⟨ka, 2, none⟩ = some (.int .i64 ob) ∧ w6.cell? ⟨ka, 3, none⟩ = some (.int .i64 oc) ∧ w6.cell? ⟨ka, 4, none⟩ = some (.string os) ∧ w6.cell? ⟨ka, 5, none⟩ = some (.string ot) := ⟨o6.cellF hH0.1, o6.cellF hH0.2.1, o6.cellF hH0.2.2.1, o6.cellF hH0.2.2.2.1, o6.cellF hH0.2.2.2.2.1, o6.cellF hH0.2.2.2.2.2.1, o6.cellF hH0.2.2.2.2.2.2.1, o6.cellF hH0.2.2.2.2.2.2.2.1, o6.cellF hH0.2.2.2.2.2.2.2.2.1, o6.cellF hH0.2.2.2.2.2.2.2.2.2.1, o6.cellF hH0.2.2.2.2.2.2.2.2.2.2⟩
      refine ⟨S6, ?_⟩
      try simp only [Act.put, List.setIfInBounds_toArray, List.set_cons_zero, List.set_cons_succ]
      refine takeH 21 147 (v := ?vfz921) rfl rfl (by kernel_rfl) (by kernel_rfl) (by kernel_rfl) (fun _ _ _ h => h) (Or.inl ⟨by rfl, ?hfz921⟩) S6 ?rfz921
      case hfz921 => (intro w hSw; clear hSw; go_simp; (try with_reducible rfl))
      case rfz921 =>
      try simp only [Act.put, List.setIfInBounds_toArray, List.set_cons_zero, List.set_cons_succ]
      refine wpAnyH_done (by kernel_rfl) ?_ _
      have oD : Only (fun _ => False) we w6 := (Only.refl _ we).drew.trans o6 (fun _ _ e => e)
      have HF := hide oD
      clear hH0 S6 o6 oD
      have HA := hide ((unhide HAe).keep (unhide HF) (fun e => e))
      have HA2 := hide ((unhide HAe2).keep (unhide HF) (fun e => e))
      have HFx := hide ((unhide HFe).trans (unhide HF) (fun _ _ e => e))
      have HO := hide ((unhide HH).2.2.1.trans (unhide HFx) (fun _ _ e => e))
      clear CR r1' r2' u1 u2 a0 a1 a2 a3 a4 a5 b0 HF HFe HAe HAe2
      have a0 : w6.cell? ⟨ka, 0, none⟩ = some (.int .i64 10) := (unhide HA).cell 0
      have b0 : w6.cell? ⟨ka + 1, 0, none⟩ = some (.int .i64 an.e) := (unhide HA2).cell 0
      have hka := (unhide HA).lt
      have hkb := (unhide HA2).lt
      go_wp2_with fail
      go_ret
      exact ⟨rfl, unhide HO⟩
end
end Go.Proofs.Qxb6500414aGreat
