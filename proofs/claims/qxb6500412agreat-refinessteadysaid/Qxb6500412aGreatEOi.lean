/-
  OWN WORK. TABLE: Insert. (written by tools/gen_eops.py)
-/
import Derived.Test.Qxb6500412aGreatELk
import Derived.Test.Qxb6500412aGreatEOb
namespace Go.Proofs.Qxb6500412aGreat
open Go.RowKit Go.PlainAid
set_option linter.unusedSimpArgs false
set_option linter.unusedVariables false

section
variable {q : Gnd} {w : World} {x : Nat} {op : Bool} {S S1 : Vu} {T : List (Tb × Hd)} {t : Tb} {h : Hd}
set_option maxRecDepth 100000 in
set_option maxHeartbeats 8000000 in
theorem einsert_in (H : ST q w x true S) (L : Lay S T) (hx : (t, h) ∈ T) {rv : Value} {row : List Vl} (hr : OwnV w rv row) (hrq : ∀ k, rv.ownBlock = some k → ¬ q.S k) (hw : ∀ v ∈ row, v.wf) (hl : row.length ≤ 4) (Z : Int) (hZ : (insR t row).2 = Z) : Calls Tryz.prog 228 #[.pointer (some ⟨x, 0, none⟩), .string t.nm, rv] w fun e w' => e = .returned (.int .i64 Z) ∧ OpP q w x S (putBy (fun x : Tb × Hd => x.1.nm) (withR t (putBy (pkK t.pk) row t.rows), h) T) Z w' := by
  have CL := hide (eloadTxn_yes H L hx)
  have ok := L.tb _ hx
  have epk : h.pk = t.pk := (L.hd _ hx).pk
  have HX := hide (And.intro L (And.intro hx (And.intro epk (And.intro ok hZ))))
  have H0 := H
  obtain ⟨ra, rc, rfl⟩ := hr.shape
  have HR := hide (And.intro hr (And.intro hrq hw))
  clear L hx epk ok hZ hr hrq hw H
  go_enter Tryz.func228, Tryz.ntmps228
  go_wp2_with fail
  refine (unhide CL).mono ?_
  rintro e w1 ⟨cv, rfl, hoc, nc, st1, o1⟩
  obtain ⟨ca, cc, rfl⟩ := hoc.shape
  have I2 := OpI.start (t := t) (h := h) o1.size st1 o1 hoc nc
  clear CL hoc nc st1 o1
  unfold hdC scC at I2
  unfold hdC scC
  go_upto_region 4 with fail
  generalize (w1.alloc (.cells #[.int .i64 (h.n : Int), .int .i64 (h.pk : Int), .int .i64 (ixI h.ix), .int .i64 (h.rows : Int), .int .i64 (ixI h.idx)] 275)).alloc (.cells #[.string t.nm, .slice ca t.cols.length cc, .int .i64 (t.pk : Int), .int .i64 (ixI t.ix)] 79) = w2 at *
  generalize w1.heap.size = g at *
  have a0 := I2.ha.cell 0
  have a1 := I2.ha.cell 1
  have a2 := I2.ha.cell 2
  have a3 := I2.ha.cell 3
  have a4 := I2.ha.cell 4
  have b0 := I2.hb.cell 0
  have b1 := I2.hb.cell 1
  have b2 := I2.hb.cell 2
  have b3 := I2.hb.cell 3
  simp [hdC] at a0 a1 a2 a3 a4
  simp [scC] at b0 b1 b2 b3
  have R2 : OwnV w2 (.slice ra row.length rc) row := (unhide HR).1.keep I2.on (unhide HR).2.1
  have CC := hide (eCheckRow_any I2.oc R2 (by omega) t.nm (t.pk : Int) (ixI t.ix))
  have HI := hide I2
  clear I2 R2
  obtain ⟨z, hz⟩ : ∃ z, chkRow t.cols row = z := ⟨_, rfl⟩
  rw [hz] at CC
  have HZ := hide hz
  clear hz
  unfold schA at CC
  go_wp2_with fail
  refine (unhide CC).mono ?_
  rintro e w3 ⟨rfl, o3⟩
  have I3 := (unhide HI).quiet o3
  clear a0 a1 a2 a3 a4 b0 b1 b2 b3 HI CC o3
  by_cases h0 : z = 0
  · subst h0
    have hrok := chkRow_ok (unhide HZ) (unhide HR).2.2
    have hlen := hrok.len
    have hpn : h.pk < row.length := by rw [hlen, (unhide HX).2.2.1]; exact (unhide HX).2.2.2.1.pkn
    obtain ⟨v, hv⟩ := getE hpn
    have R3 : OwnV w3 (.slice ra row.length rc) row := (unhide HR).1.keep I3.on (unhide HR).2.1
    obtain ⟨rg, rc2, hre, e0, e1, e2⟩ := getv_at R3 hv
    simp only [Value.slice.injEq] at hre
    obtain ⟨rfl, _, rfl⟩ := hre
    have hK : pkK t.pk row = cV v := by unfold pkK kyR; rw [← (unhide HX).2.2.1, hv]; rfl
    have CK := ecodeVal_any v (hrok.2 v (List.mem_of_getElem? hv)) w3
    rw [← hK] at CK
    unfold vlA at CK
    have CK := hide CK
    have ipk : (h.pk : Int) < (row.length : Int) := by omega
    have HB := hide (And.intro hrok (And.intro hpn hlen))
    have a0 := I3.ha.cell 0
    have a1 := I3.ha.cell 1
    have a2 := I3.ha.cell 2
    have a3 := I3.ha.cell 3
    have a4 := I3.ha.cell 4
    have b0 := I3.hb.cell 0
    have b1 := I3.hb.cell 1
    have b2 := I3.hb.cell 2
    have b3 := I3.hb.cell 3
    simp [hdC] at a0 a1 a2 a3 a4
    simp [scC] at b0 b1 b2 b3
    have HI := hide I3
    clear I3 R3 hv hK hrok hpn hlen
    go_wp2_with fail
    refine (unhide CK).mono ?_
    rintro e w4 ⟨rfl, o4⟩
    have I4 := (unhide HI).quiet o4
    clear a0 a1 a2 a3 a4 b0 b1 b2 b3 HI CK o4 e0 e1 e2 ipk
    have a0 := I4.ha.cell 0
    have a1 := I4.ha.cell 1
    have a2 := I4.ha.cell 2
    have a3 := I4.ha.cell 3
    have a4 := I4.ha.cell 4
    have b0 := I4.hb.cell 0
    have b1 := I4.hb.cell 1
    have b2 := I4.hb.cell 2
    have b3 := I4.hb.cell 3
    simp [hdC] at a0 a1 a2 a3 a4
    simp [scC] at b0 b1 b2 b3
    obtain ⟨o, ho⟩ : ∃ o, fndR t (pkK t.pk row) = o := ⟨_, rfl⟩
    have CF := efetch_o I4.st (unhide HX).1 (unhide HX).2.1 I4.oc (I4.notS H0) t.nm (ixI t.ix) (pkK t.pk row) o ho
    unfold hdA schA at CF
    have CF := hide CF
    have HI := hide I4
    have HO := hide ho
    clear I4 ho
    go_wp2_with fail
    refine (unhide CF).mono ?_
    rintro e w5 ⟨vv, c5, rfl, hvv, nvv, hc5, st5, o5⟩
    have I5 := (unhide HI).go H0 st5 o5
    obtain ⟨fa, fc, rfl⟩ := hvv.shape
    clear a0 a1 a2 a3 a4 b0 b1 b2 b3 HI CF st5 o5 nvv
    clear hvv
    cases o with
    | some r0 =>
      obtain rfl : c5 = 0 := hc5
      have HF := hide (show OpP q w x S (putBy (fun x : Tb × Hd => x.1.nm) (withR t (putBy (pkK t.pk) row t.rows), h) T) Z w5 ∧ (17 : Int) = Z from by
        have e : (17 : Int) = Z := by rw [← (unhide HX).2.2.2.2]; unfold insR; rw [if_neg (by simpa using unhide HZ), show fndK t (pkK t.pk row) = some r0 from unhide HO]
        exact ⟨OpP.same (by omega) I5.st I5.on, e⟩)
      clear I5
      go_wp2_with fail
      go_ret
      exact ⟨by rw [← (unhide HF).2]; rfl, (unhide HF).1⟩
    | none =>
      obtain rfl : c5 = 9 := hc5
      have a0 := I5.ha.cell 0
      have a1 := I5.ha.cell 1
      have a2 := I5.ha.cell 2
      have a3 := I5.ha.cell 3
      have a4 := I5.ha.cell 4
      have b0 := I5.hb.cell 0
      have b1 := I5.hb.cell 1
      have b2 := I5.hb.cell 2
      have b3 := I5.hb.cell 3
      simp [hdC] at a0 a1 a2 a3 a4
      simp [scC] at b0 b1 b2 b3
      have CA := eall_any I5.st (h.rows : Int)
      rw [Lz_nat ((unhide HX).1.hd _ (unhide HX).2.1).ok.r8 ((unhide HX).1.rows _ (unhide HX).2.1)] at CA
      have CA := hide CA
      have HI := hide I5
      clear I5
      go_wp2_with fail
      refine (unhide CA).mono ?_
      rintro e w6 ⟨va, rfl, hva, nva, st6, o6⟩
      have I6 := (unhide HI).go H0 st6 o6
      have hvl : (rowsL t.pk t.rows).length = t.rows.length := by simp [rowsL, kvsOf]
      obtain ⟨la, lc, rfl⟩ : ∃ a c, va = .slice a t.rows.length c := by obtain ⟨a, c, e⟩ := ownsRow_shape hva; exact ⟨a, c, by rw [e]; show Value.slice a (rowsL t.pk t.rows).length c = _; rw [hvl]⟩
      clear a0 a1 a2 a3 a4 b0 b1 b2 b3 HI CA st6 o6 nva hva hvl
      by_cases h8 : 8 ≤ t.rows.length
      · have b8 : decide ((t.rows.length : Int) ≥ 8) = true := decide_eq_true (by omega)
        have b8' : decide (8 ≤ (t.rows.length : Int)) = true := decide_eq_true (by omega)
        have b8n : decide (8 ≤ t.rows.length) = true := decide_eq_true h8
        have HF := hide (show OpP q w x S (putBy (fun x : Tb × Hd => x.1.nm) (withR t (putBy (pkK t.pk) row t.rows), h) T) Z w6 ∧ (6 : Int) = Z from by
          have e : (6 : Int) = Z := by rw [← (unhide HX).2.2.2.2]; unfold insR; rw [if_neg (by simpa using unhide HZ), show fndK t (pkK t.pk row) = none from unhide HO]; simp only; rw [if_pos h8]
          exact ⟨OpP.same (by omega) I6.st I6.on, e⟩)
        clear I6
        go_wp2_with fail
        go_ret
        exact ⟨by rw [← (unhide HF).2]; rfl, (unhide HF).1⟩
      · have b8 : decide ((t.rows.length : Int) ≥ 8) = false := decide_eq_false (by omega)
        have b8' : decide (8 ≤ (t.rows.length : Int)) = false := decide_eq_false (by omega)
        have b8n : decide (8 ≤ t.rows.length) = false := decide_eq_false h8
        obtain ⟨S1, hp1, hlay1, hlay2⟩ := (unhide HX).1.ins (unhide HX).2.1 (unhide HB).1 (fndR_none (unhide HO)) (by omega)
        have HZ0 := hide (show (0 : Int) = Z from by rw [← (unhide HX).2.2.2.2]; unfold insR; rw [if_neg (by simpa using unhide HZ), show fndK t (pkK t.pk row) = none from unhide HO]; simp only; rw [if_neg h8])
        have HL := hide (And.intro hp1 (And.intro hlay1 hlay2))
        clear hp1 hlay1 hlay2
        have a0 := I6.ha.cell 0
        have a1 := I6.ha.cell 1
        have a2 := I6.ha.cell 2
        have a3 := I6.ha.cell 3
        have a4 := I6.ha.cell 4
        have b0 := I6.hb.cell 0
        have b1 := I6.hb.cell 1
        have b2 := I6.hb.cell 2
        have b3 := I6.hb.cell 3
        simp [hdC] at a0 a1 a2 a3 a4
        simp [scC] at b0 b1 b2 b3
        have R6 : OwnV w6 (.slice (some ⟨rg, 0, none⟩) row.length rc) row := (unhide HR).1.keep I6.on (unhide HR).2.1
        have CR := erestOf_any R6 (by omega) (unhide HB).2.1 (unhide HB).1.2
        rw [show restP row h.pk = restP row t.pk from by rw [(unhide HX).2.2.1]] at CR
        have CR := hide CR
        have HI := hide I6
        clear I6 R6
        go_wp2_with fail
        refine (unhide CR).mono ?_
        rintro e w7 ⟨rfl, o7⟩
        have I7 := (unhide HI).quiet o7
        clear a0 a1 a2 a3 a4 b0 b1 b2 b3 HI CR o7
        have a0 := I7.ha.cell 0
        have a1 := I7.ha.cell 1
        have a2 := I7.ha.cell 2
        have a3 := I7.ha.cell 3
        have a4 := I7.ha.cell 4
        have b0 := I7.hb.cell 0
        have b1 := I7.hb.cell 1
        have b2 := I7.hb.cell 2
        have b3 := I7.hb.cell 3
        simp [hdC] at a0 a1 a2 a3 a4
        simp [scC] at b0 b1 b2 b3
        have CP := hide (eput_any (I7.st.quiet ((Only.refl _ w7).drew)) (unhide HL).1)
        have HI := hide I7
        have xc := I7.st.c0
        clear I7
        go_upto_region 16 with fail
        go_cut [12] (fun gv wx => gv = .int .i64 0 ∧ ST q wx x true S1 ∧ Only q.S w7 wx)
        case first =>
          go_region_with (go_at_call 237; refine (unhide CP).mono ?_; rintro e w9 ⟨rfl, st9, o9⟩; have HF := hide (And.intro st9 ((Only.refl q.S w7).drew.ss o9)); clear st9 o9)
          all_goals
            go_wp2_with fail
            go_meet
            exact ⟨rfl, unhide HF⟩
        case rest =>
        obtain ⟨rfl, st9, o9⟩ := hcut
        generalize wc = w8 at *
        clear a0 a1 a2 a3 a4 b0 b1 b2 b3 xc CP
        have I9 := (unhide HI).go H0 st9 o9
        clear HI st9 o9
        have CFo := hide (efold_ok w8)
        have HI := hide I9
        clear I9
        go_wp2_with fail
        refine (unhide CFo).mono ?_
        rintro e w9 ⟨rfl, rfl⟩
        have I9 := unhide HI
        clear HI CFo
        have a0 := I9.ha.cell 0
        have a1 := I9.ha.cell 1
        have a2 := I9.ha.cell 2
        have a3 := I9.ha.cell 3
        have a4 := I9.ha.cell 4
        have b0 := I9.hb.cell 0
        have b1 := I9.hb.cell 1
        have b2 := I9.hb.cell 2
        have b3 := I9.hb.cell 3
        simp [hdC] at a0 a1 a2 a3 a4
        simp [scC] at b0 b1 b2 b3
        cases hi : h.idx with
        | none =>
          rw [hi] at a4
          simp only [ixI] at a4
          have HF := hide (OpP.turn (S := S) (unhide HZ0).symm I9.st ((unhide HL).2.1 hi) I9.on)
          clear I9 hi
          go_wp2_with fail
          go_ret
          exact ⟨by rw [← unhide HZ0]; rfl, unhide HF⟩
        | some ib =>
          obtain ⟨c, hc1, hc2, hc3, _, _, _⟩ := (unhide HX).1.both (unhide HX).2.1 hi
          rw [hi] at a4
          rw [hc2] at a2
          simp only [ixI] at a4 a2
          obtain ⟨S2, hp2, hlay⟩ := (unhide HL).2.2 ib c hi hc1
          have bi : decide ((ib : Int) ≥ 0) = true := decide_eq_true (by omega)
          have bi' : decide (0 ≤ (ib : Int)) = true := decide_eq_true (by omega)
          have R9 : OwnV w8 (.slice (some ⟨rg, 0, none⟩) row.length rc) row := (unhide HR).1.keep I9.on (unhide HR).2.1
          have CX := eidxKey_any R9 (by omega) (col := c) (pk := h.pk) (by rw [(unhide HB).2.2]; exact hc3) (unhide HB).2.1 (unhide HB).1.2
          rw [show idxK row c h.pk = idxK row c t.pk from by rw [(unhide HX).2.2.1]] at CX
          have CX := hide CX
          have HL2 := hide (And.intro hp2 hlay)
          have HIB := hide hi
          have HI := hide I9
          clear I9 R9 hp2 hlay hi hc1 hc2 hc3
          go_wp2_with fail
          refine (unhide CX).mono ?_
          rintro e w10 ⟨rfl, o10⟩
          have I10 := (unhide HI).quiet o10
          clear a0 a1 a2 a3 a4 b0 b1 b2 b3 HI CX o10
          have a0 := I10.ha.cell 0
          have a1 := I10.ha.cell 1
          have a2 := I10.ha.cell 2
          have a3 := I10.ha.cell 3
          have a4 := I10.ha.cell 4
          have b0 := I10.hb.cell 0
          have b1 := I10.hb.cell 1
          have b2 := I10.hb.cell 2
          have b3 := I10.hb.cell 3
          simp [hdC] at a0 a1 a2 a3 a4
          simp [scC] at b0 b1 b2 b3
          have hib := unhide HIB
          rw [hib] at a4
          simp only [ixI] at a4
          clear hib
          have CP := hide (eput_any (I10.st.quiet ((Only.refl _ w10).drew)) (unhide HL2).1)
          have HI := hide I10
          have xc := I10.st.c0
          clear I10
          go_upto_region 20 with fail
          go_cut [12] (fun gv wx => gv = .int .i64 0 ∧ ST q wx x true S2 ∧ Only q.S w10 wx)
          case first =>
            go_region_with (go_at_call 237; refine (unhide CP).mono ?_; rintro e w9 ⟨rfl, st9, o9⟩; have HF := hide (And.intro st9 ((Only.refl q.S w10).drew.ss o9)); clear st9 o9)
            all_goals
              go_wp2_with fail
              go_meet
              exact ⟨rfl, unhide HF⟩
          case rest =>
          obtain ⟨rfl, st9, o9⟩ := hcut
          generalize wc = w11 at *
          clear a0 a1 a2 a3 a4 b0 b1 b2 b3 xc CP
          have I9 := (unhide HI).go H0 st9 o9
          clear HI st9 o9
          have CFo := hide (efold_ok w11)
          have HF := hide (OpP.turn (S := S) (unhide HZ0).symm I9.st (unhide HL2).2 I9.on)
          clear I9
          go_wp2_with fail
          refine (unhide CFo).mono ?_
          rintro e w12 ⟨rfl, rfl⟩
          clear CFo
          go_wp2_with fail
          go_ret
          exact ⟨by rw [← unhide HZ0]; rfl, unhide HF⟩
  · have hzb : (z != 0) = true := by simpa using h0
    have HF := hide (show OpP q w x S (putBy (fun x : Tb × Hd => x.1.nm) (withR t (putBy (pkK t.pk) row t.rows), h) T) Z w3 ∧ z = Z from by
      have e : z = Z := by rw [← (unhide HX).2.2.2.2]; unfold insR; rw [unhide HZ, if_pos h0]
      exact ⟨OpP.same (fun e2 => h0 (e.trans e2)) I3.st I3.on, e⟩)
    clear I3 h0
    go_wp2_with fail
    go_ret
    exact ⟨by rw [← (unhide HF).2]; rfl, (unhide HF).1⟩
end
end Go.Proofs.Qxb6500412aGreat
