/-
  OWN WORK. TABLE: Delete. (written by tools/gen_eops.py)
-/
import Derived.Test.Qxb6500412aGreatELk
import Derived.Test.Qxb6500412aGreatEOb
namespace Go.Proofs.Qxb6500412aGreat
open Go.RowKit Go.PlainAid
set_option linter.unusedSimpArgs false
set_option linter.unusedVariables false

section
variable {q : Gnd} {w : World} {x : Nat} {op : Bool} {S S1 : Vu} {T : List (Tb × Hd)} {t : Tb} {h : Hd}
set_option maxRecDepth 100000 in
set_option maxHeartbeats 8000000 in
theorem edelete_in (H : ST q w x true S) (L : Lay S T) (hx : (t, h) ∈ T) (key : Vl) (hkw : key.wf) (Z : Int) (hZ : (delR t key).2 = Z) : Calls Tryz.prog 225 #[.pointer (some ⟨x, 0, none⟩), .string t.nm, vlA key] w fun e w' => e = .returned (.int .i64 Z) ∧ OpP q w x S (putBy (fun x : Tb × Hd => x.1.nm) (withR t (t.rows.filter (fun r => decide (pkK t.pk r ≠ cV key))), h) T) Z w' := by
  have o0 : Only (fun _ => False) w (w.alloc (.cells #[.bool key.str, .int .i64 key.i, .string key.s] 152)) := (Only.refl _ w).alloc _
  have K0 := Has.new w #[.bool key.str, .int .i64 key.i, .string key.s] 152
  have H0 := H.quiet o0
  have CL := hide (eloadTxn_yes H0 L hx)
  have ok := L.tb _ hx
  have epk : h.pk = t.pk := (L.hd _ hx).pk
  obtain ⟨c0, hc0⟩ := pk_col ok
  have HX := hide (And.intro L (And.intro hx (And.intro epk (And.intro ok hZ))))
  have HC0 := hide (And.intro hc0 (chkKey_eq hc0 key))
  clear L hx epk ok hZ hc0
  unfold vlA
  go_enter Tryz.func225, Tryz.ntmps225
  go_upto_region 1 with fail
  generalize w.alloc (.cells #[.bool key.str, .int .i64 key.i, .string key.s] 152) = w0 at *
  go_wp2_with fail
  refine (unhide CL).mono ?_
  rintro e w1 ⟨cv, rfl, hoc, nc, st1, o1⟩
  obtain ⟨ca, cc, rfl⟩ := hoc.shape
  have I2 := OpI.start (t := t) (h := h) o1.size st1 o1 hoc nc
  have K1 := K0.keep o1 (H.new (Nat.le_refl _))
  have oB : Only (fun _ => False) w1 ((w1.alloc (.cells (hdC h) 275)).alloc (.cells (scC t.nm (.slice ca t.cols.length cc) (t.pk : Int) (ixI t.ix)) 79)) := ((Only.refl _ w1).alloc _).alloc _
  have K2 := K1.keep oB (fun e => e)
  clear K1 oB K0
  unfold hdC scC at K2
  clear CL hoc nc st1 o1
  unfold hdC scC at I2
  unfold hdC scC
  go_upto_region 4 with fail
  generalize (w1.alloc (.cells #[.int .i64 (h.n : Int), .int .i64 (h.pk : Int), .int .i64 (ixI h.ix), .int .i64 (h.rows : Int), .int .i64 (ixI h.idx)] 275)).alloc (.cells #[.string t.nm, .slice ca t.cols.length cc, .int .i64 (t.pk : Int), .int .i64 (ixI t.ix)] 79) = w2 at *
  generalize w1.heap.size = g at *
  have a0 := I2.ha.cell 0
  have a1 := I2.ha.cell 1
  have a2 := I2.ha.cell 2
  have a3 := I2.ha.cell 3
  have a4 := I2.ha.cell 4
  have b0 := I2.hb.cell 0
  have b1 := I2.hb.cell 1
  have b2 := I2.hb.cell 2
  have b3 := I2.hb.cell 3
  simp [hdC] at a0 a1 a2 a3 a4
  simp [scC] at b0 b1 b2 b3
  have k0 := K2.cell 0
  have k1 := K2.cell 1
  have k2 := K2.cell 2
  simp at k0 k1 k2
  have CC := eCheckVal_any I2.oc t.nm (t.pk : Int) (ixI t.ix) h.pk (x := c0) (by rw [(unhide HX).2.2.1]; exact (unhide HC0).1) key
  obtain ⟨z, hz⟩ : ∃ z, chkVal c0 key = z := ⟨_, rfl⟩
  rw [hz] at CC
  have HZ := hide (And.intro ((unhide HC0).2.trans hz) hz)
  clear hz
  unfold schA vlA at CC
  have CC := hide CC
  have HI := hide (And.intro I2 K2)
  clear I2 K2
  go_wp2_with fail
  refine (unhide CC).mono ?_
  rintro e w3 ⟨rfl, o3⟩
  have I3 := (unhide HI).1.quiet o3
  have K3 := (unhide HI).2.keep o3 (fun e => e)
  clear a0 a1 a2 a3 a4 b0 b1 b2 b3 HI CC o3 k0 k1 k2
  by_cases h0 : z = 0
  · subst h0
    have hfit := (chkVal_ok (unhide HZ).2 hkw).1
    have a0 := I3.ha.cell 0
    have a1 := I3.ha.cell 1
    have a2 := I3.ha.cell 2
    have a3 := I3.ha.cell 3
    have a4 := I3.ha.cell 4
    have b0 := I3.hb.cell 0
    have b1 := I3.hb.cell 1
    have b2 := I3.hb.cell 2
    have b3 := I3.hb.cell 3
    simp [hdC] at a0 a1 a2 a3 a4
    simp [scC] at b0 b1 b2 b3
    have k0 := K3.cell 0
    have k1 := K3.cell 1
    have k2 := K3.cell 2
    simp at k0 k1 k2
    have CK := ecodeVal_any key hfit w3
    unfold vlA at CK
    have CK := hide CK
    have HI := hide I3
    clear I3 K3 hfit
    go_wp2_with fail
    refine (unhide CK).mono ?_
    rintro e w4 ⟨rfl, o4⟩
    have I4 := (unhide HI).quiet o4
    clear a0 a1 a2 a3 a4 b0 b1 b2 b3 HI CK o4 k0 k1 k2
    have a0 := I4.ha.cell 0
    have a1 := I4.ha.cell 1
    have a2 := I4.ha.cell 2
    have a3 := I4.ha.cell 3
    have a4 := I4.ha.cell 4
    have b0 := I4.hb.cell 0
    have b1 := I4.hb.cell 1
    have b2 := I4.hb.cell 2
    have b3 := I4.hb.cell 3
    simp [hdC] at a0 a1 a2 a3 a4
    simp [scC] at b0 b1 b2 b3
    obtain ⟨o, ho⟩ : ∃ o, fndR t (cV key) = o := ⟨_, rfl⟩
    have CF := efetch_o I4.st (unhide HX).1 (unhide HX).2.1 I4.oc (I4.notS H0) t.nm (ixI t.ix) (cV key) o ho
    unfold hdA schA at CF
    have CF := hide CF
    have HI := hide I4
    have HO := hide ho
    clear I4 ho
    go_wp2_with fail
    refine (unhide CF).mono ?_
    rintro e w5 ⟨vv, c5, rfl, hvv, nvv, hc5, st5, o5⟩
    have I5 := (unhide HI).go H0 st5 o5
    have sz4 := (unhide HI).on.size
    clear a0 a1 a2 a3 a4 b0 b1 b2 b3 HI CF st5 o5
    cases o with
    | none =>
      obtain rfl : c5 = 9 := hc5
      obtain ⟨fa, fc, rfl⟩ := hvv.shape
      clear hvv nvv
      have HF := hide (show OpP q w0 x S (putBy (fun x : Tb × Hd => x.1.nm) (withR t (t.rows.filter (fun r => decide (pkK t.pk r ≠ cV key))), h) T) Z w5 ∧ (9 : Int) = Z from by
        have e : (9 : Int) = Z := by rw [← (unhide HX).2.2.2.2]; unfold delR; rw [if_neg (by simpa using (unhide HZ).1), show fndK t (cV key) = none from unhide HO]
        exact ⟨OpP.same (by omega) I5.st I5.on, e⟩)
      clear I5
      go_wp2_with fail
      go_ret
      exact ⟨by rw [← (unhide HF).2]; rfl, OpP.pre o0 (unhide HF).1⟩
    | some r0 =>
      obtain rfl : c5 = 0 := hc5
      have hvv : OwnV w5 vv r0 := hvv
      obtain ⟨fa, fc, rfl⟩ := hvv.shape
      have HV := hide (show OwnV w5 (.slice fa r0.length fc) r0 ∧ (∀ k, (Value.slice fa r0.length fc).ownBlock = some k → ¬ q.S k) from ⟨hvv, fun k hk => H0.new (Nat.le_trans sz4 (nvv k hk))⟩)
      clear hvv nvv sz4
      obtain ⟨hr0m, hr0k⟩ := fndR_some (unhide HO)
      have HR0 := hide (And.intro ((unhide HX).2.2.2.1.row r0 hr0m) hr0m)
      obtain ⟨S1, hp1, hlay1, hlay2⟩ := (unhide HX).1.del (unhide HX).2.1 hr0m
      rw [hr0k] at hp1 hlay1 hlay2
      have HZ0 := hide (show (0 : Int) = Z from by rw [← (unhide HX).2.2.2.2]; unfold delR; rw [if_neg (by simpa using (unhide HZ).1), show fndK t (cV key) = some r0 from unhide HO])
      have HL := hide (And.intro hp1 (And.intro hlay1 hlay2))
      clear hp1 hlay1 hlay2 hr0m hr0k
      have a0 := I5.ha.cell 0
      have a1 := I5.ha.cell 1
      have a2 := I5.ha.cell 2
      have a3 := I5.ha.cell 3
      have a4 := I5.ha.cell 4
      have b0 := I5.hb.cell 0
      have b1 := I5.hb.cell 1
      have b2 := I5.hb.cell 2
      have b3 := I5.hb.cell 3
      simp [hdC] at a0 a1 a2 a3 a4
      simp [scC] at b0 b1 b2 b3
      have CP := hide (edelt_any (I5.st.quiet ((Only.refl _ w5).drew)) (unhide HL).1)
      have HI := hide I5
      have xc := I5.st.c0
      clear I5
      go_upto_region 11 with fail
      go_cut [12] (fun gv wx => gv = .int .i64 0 ∧ ST q wx x true S1 ∧ Only q.S w5 wx)
      case first =>
        go_region_with (go_at_call 242; refine (unhide CP).mono ?_; rintro e w9 ⟨rfl, st9, o9⟩; have HF := hide (And.intro st9 ((Only.refl q.S w5).drew.ss o9)); clear st9 o9)
        all_goals
          go_wp2_with fail
          go_meet
          exact ⟨rfl, unhide HF⟩
      case rest =>
      obtain ⟨rfl, st9, o9⟩ := hcut
      generalize wc = w8 at *
      clear a0 a1 a2 a3 a4 b0 b1 b2 b3 xc CP
      have I9 := (unhide HI).go H0 st9 o9
      have HOO := hide o9
      clear HI st9 o9
      have CFo := hide (efold_ok w8)
      have HI := hide I9
      clear I9
      go_wp2_with fail
      refine (unhide CFo).mono ?_
      rintro e w9 ⟨rfl, rfl⟩
      have I9 := unhide HI
      clear HI CFo
      have a0 := I9.ha.cell 0
      have a1 := I9.ha.cell 1
      have a2 := I9.ha.cell 2
      have a3 := I9.ha.cell 3
      have a4 := I9.ha.cell 4
      have b0 := I9.hb.cell 0
      have b1 := I9.hb.cell 1
      have b2 := I9.hb.cell 2
      have b3 := I9.hb.cell 3
      simp [hdC] at a0 a1 a2 a3 a4
      simp [scC] at b0 b1 b2 b3
      cases hi : h.idx with
      | none =>
        rw [hi] at a4
        simp only [ixI] at a4
        have HF := hide (OpP.turn (S := S) (unhide HZ0).symm I9.st ((unhide HL).2.1 hi) I9.on)
        clear I9 hi
        go_wp2_with fail
        go_ret
        exact ⟨by rw [← unhide HZ0]; rfl, OpP.pre o0 (unhide HF)⟩
      | some ib =>
        obtain ⟨c, hc1, hc2, hc3, _, _, _⟩ := (unhide HX).1.both (unhide HX).2.1 hi
        rw [hi] at a4
        rw [hc2] at a2
        simp only [ixI] at a4 a2
        obtain ⟨S2, hp2, hlay⟩ := (unhide HL).2.2 ib c hi hc1
        have bi : decide ((ib : Int) ≥ 0) = true := decide_eq_true (by omega)
        have bi' : decide (0 ≤ (ib : Int)) = true := decide_eq_true (by omega)
        have V9 : OwnV w8 (.slice fa r0.length fc) r0 := (unhide HV).1.keep (unhide HOO) (unhide HV).2
        have CX := eidxKey_any V9 (by rw [(unhide HR0).1.len]; have := (unhide HX).2.2.2.1.n3; omega) (col := c) (pk := h.pk) (by rw [(unhide HR0).1.len]; exact hc3) (by rw [(unhide HR0).1.len, (unhide HX).2.2.1]; exact (unhide HX).2.2.2.1.pkn) (unhide HR0).1.2
        rw [show idxK r0 c h.pk = idxK r0 c t.pk from by rw [(unhide HX).2.2.1]] at CX
        have CX := hide CX
        have HL2 := hide (And.intro hp2 hlay)
        have HIB := hide hi
        have HI := hide I9
        clear I9 V9 hp2 hlay hi hc1 hc2 hc3
        go_wp2_with fail
        refine (unhide CX).mono ?_
        rintro e w10 ⟨rfl, o10⟩
        have I10 := (unhide HI).quiet o10
        clear a0 a1 a2 a3 a4 b0 b1 b2 b3 HI CX o10
        have a0 := I10.ha.cell 0
        have a1 := I10.ha.cell 1
        have a2 := I10.ha.cell 2
        have a3 := I10.ha.cell 3
        have a4 := I10.ha.cell 4
        have b0 := I10.hb.cell 0
        have b1 := I10.hb.cell 1
        have b2 := I10.hb.cell 2
        have b3 := I10.hb.cell 3
        simp [hdC] at a0 a1 a2 a3 a4
        simp [scC] at b0 b1 b2 b3
        rw [unhide HIB] at a4
        simp only [ixI] at a4
        generalize idxK r0 c t.pk = X1 at *
        have CP := hide (edelt_any (I10.st.quiet ((Only.refl _ w10).drew)) (unhide HL2).1)
        have HI := hide I10
        have xc := I10.st.c0
        clear I10
        go_upto_region 15 with fail
        go_cut [12] (fun gv wx => gv = .int .i64 0 ∧ ST q wx x true S2 ∧ Only q.S w10 wx)
        case first =>
          go_region_with (go_at_call 242; refine (unhide CP).mono ?_; rintro e w9 ⟨rfl, st9, o9⟩; have HF := hide (And.intro st9 ((Only.refl q.S w10).drew.ss o9)); clear st9 o9)
          all_goals
            go_wp2_with fail
            go_meet
            exact ⟨rfl, unhide HF⟩
        case rest =>
        obtain ⟨rfl, st9, o9⟩ := hcut
        generalize wc = w11 at *
        clear a0 a1 a2 a3 a4 b0 b1 b2 b3 xc CP
        have I9 := (unhide HI).go H0 st9 o9
        clear HI st9 o9
        have CFo := hide (efold_ok w11)
        have HF := hide (OpP.turn (S := S) (unhide HZ0).symm I9.st (unhide HL2).2 I9.on)
        clear I9
        go_wp2_with fail
        refine (unhide CFo).mono ?_
        rintro e w12 ⟨rfl, rfl⟩
        clear CFo
        go_wp2_with fail
        go_ret
        exact ⟨by rw [← unhide HZ0]; rfl, OpP.pre o0 (unhide HF)⟩
  · have hzb : (z != 0) = true := by simpa using h0
    have HF := hide (show OpP q w0 x S (putBy (fun x : Tb × Hd => x.1.nm) (withR t (t.rows.filter (fun r => decide (pkK t.pk r ≠ cV key))), h) T) Z w3 ∧ z = Z from by
      have e : z = Z := by rw [← (unhide HX).2.2.2.2]; unfold delR; rw [(unhide HZ).1, if_pos h0]
      exact ⟨OpP.same (fun e2 => h0 (e.trans e2)) I3.st I3.on, e⟩)
    clear I3 K3 h0
    go_wp2_with fail
    go_ret
    exact ⟨by rw [← (unhide HF).2]; rfl, OpP.pre o0 (unhide HF).1⟩
end
end Go.Proofs.Qxb6500412aGreat
