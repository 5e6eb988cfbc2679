/-
  OWN WORK. THE TABLE LAW's MODEL: Update.
-/
import Derived.Test.Qxb6500412aGreatMM8
namespace Go.Proofs.Qxb6500412aGreat
open Go.RowKit Go.PlainAid
set_option linter.unusedSimpArgs false
set_option linter.unusedVariables false

theorem keyrow {t : Tb} (ok : TbOk t) {row : List Vl} (hw : ∀ v ∈ row, v.wf) (hc : chkRow t.cols row = 0) : RowOk t.cols row ∧ (kyR t.pk row).fit ∧ ∀ x, t.cols[t.pk]? = some x → (kyR t.pk row).str = x.2 := (GT.refl t).keyrow ok hw hc
theorem pkK_row (t : Tb) (row : List Vl) : pkK t.pk row = cV (kyR t.pk row) := rfl
section
variable {ty : TypeId} {w w' : World} {dk o : Nat} {cs : Array Value} {v : Value} {l : List GE} {D : Db}
set_option maxRecDepth 100000 in
set_option maxHeartbeats 4000000 in
theorem mdbUpdate_any (M : MDc ty w dk o cs v l D) (nm : ByteArray) {rv : Value} {row : List Vl} (O : OwnV w rv row) (hw : ∀ v ∈ row, v.wf) (h4 : row.length ≤ 200) : Calls Tryz.prog 334 #[.pointer (some ⟨dk, o, none⟩), .string nm, rv] w (MdP ty w dk o cs v l (updD D nm row).1 (updD D nm row).2) := by
  obtain ⟨D', zz, hDz⟩ : ∃ D' zz, updD D nm row = (D', zz) := ⟨_, _, rfl⟩
  rw [hDz]
  have HDZ := hide hDz
  have CF := hide (mfind_any M.db.c0 M.db.ml nm)
  have c0 := M.db.c0
  obtain ⟨ua, uc, hus⟩ := O.shape
  subst hus
  have HM := hide (And.intro M (And.intro O (And.intro hw h4)))
  clear M hDz O hw h4
  obtain ⟨rn, hrn⟩ : ∃ rn, row.length = rn := ⟨_, rfl⟩
  rw [hrn] at HM ⊢
  have HRN := hide hrn
  clear hrn
  go_enter Tryz.func334, Tryz.ntmps334
  go_wp2_with fail
  refine (unhide CF).mono ?_
  rintro x w2 ⟨r, rfl, hr, rfl⟩
  clear CF
  by_cases r0 : r < 0
  · have dr : decide (r < 0) = true := decide_eq_true r0
    have HP := hide (show MdP ty w dk o cs v l D' zz (.returned (.int .i64 10)) w from by
      have h := unhide HDZ
      unfold updD at h
      rw [onT_no (hr.mno (unhide HM).1.tt (unhide HM).1.ok r0)] at h
      cases h
      exact MdP.same (unhide HM).1 (Only.refl _ _))
    clear hr r0
    go_wp2_with fail
    go_ret
    exact unhide HP
  have dr : decide (r < 0) = false := decide_eq_false r0
  obtain ⟨i, e, rfl, hi, hn, hf, hm⟩ := hr.myes (unhide HM).1.tt (unhide HM).1.ok (by omega)
  have HC := hide (show (if (updR e.t row).2 = 0 then putT (updR e.t row).1 D else D, (updR e.t row).2) = (D', zz) from by
    have h := unhide HDZ
    unfold updD at h
    rw [onT_yes hf] at h
    exact h)
  have HS := hide (fun (z : Int) (z0 : z ≠ 0) (hz : updR e.t row = (e.t, z)) (w9 : World) (o9 : Only (fun _ => False) w w9) => show MdP ty w dk o cs v l D' zz (.returned (.int .i64 z)) w9 from by
    have h := unhide HC
    rw [hz] at h
    simp only [if_neg z0] at h
    cases h
    exact MdP.same (unhide HM).1 o9)
  obtain ⟨b, cap, hvx, P2, E2⟩ := (unhide HM).1.ml.pt hi
  have il : (i : Int) < (l.length : Int) := by have := (List.getElem?_eq_some_iff.mp hi).1; omega
  have h3 := (unhide HM).1.ml.len
  rw [hvx] at c0
  have p0 := P2.c0
  have p1 := P2.c1
  have p2 := P2.c2
  have p3 := P2.c3
  obtain ⟨ca, cc, hcc⟩ := E2.col.shape
  have tok := (unhide HM).1.ok.tb e.t hm
  have CV := eCheckRow_any E2.col (unhide HM).2.1 (by rw [unhide HRN]; exact (unhide HM).2.2.2) e.t.nm (e.t.pk : Int) (ixI e.t.ix)
  obtain ⟨zc, hzc⟩ : ∃ zc, chkRow e.t.cols row = zc := ⟨_, rfl⟩
  rw [hzc] at CV
  have HZC := hide hzc
  unfold schA at CV
  rw [hcc] at p1 CV
  have CV := hide CV
  have HPE := hide (And.intro P2 (And.intro E2 (And.intro tok (And.intro hi hvx))))
  obtain ⟨ln, hln⟩ : ∃ ln, l.length = ln := ⟨_, rfl⟩
  rw [hln] at il h3 c0
  clear P2 E2 hi hn hf hm hcc hr r0 hvx hln tok hzc
  go_wp2_with fail
  refine (unhide CV).mono ?_
  rintro x w4 ⟨rfl, o4⟩
  have HO4 := hide o4
  clear CV p0 p1 p2 p3 c0 o4 dr
  by_cases z0 : zc = 0
  · have d : (zc != 0) = false := by rw [z0]; rfl
    have HCK := hide (show chkRow e.t.cols row = 0 from by rw [unhide HZC]; exact z0)
    obtain ⟨RO, kf, ks⟩ := keyrow (unhide HPE).2.2.1 (unhide HM).2.2.1 (unhide HCK)
    have U4 := (unhide HM).2.1.keep (unhide HO4) (fun _ _ e => e)
    obtain ⟨kv, hkv⟩ := getE (l := row) (i := e.t.pk) (by rw [RO.len]; exact (unhide HPE).2.2.1.pkn)
    obtain ⟨ug, uc', hue, e0, e1, e2⟩ := getv_at U4 hkv
    rw [unhide HRN] at hue
    simp only [Value.slice.injEq] at hue
    obtain ⟨rfl, _, rfl⟩ := hue
    have hpkI : (e.t.pk : Int) < (rn : Int) := by rw [← unhide HRN]; have := (List.getElem?_eq_some_iff.mp hkv).1; omega
    have hky : kyR e.t.pk row = kv := by unfold kyR; rw [hkv]; rfl
    rw [hky] at kf ks
    have P4 := (unhide HPE).1.keep (unhide HO4) (fun e => e)
    have E4 := (unhide HPE).2.1.keep (unhide HO4) (fun _ _ e => e) (fun _ _ e => e)
    have q2 := P4.c2
    have CP := mplace_any P4 E4 kv
    unfold vlA at CP
    have CP := hide CP
    have HK := hide (And.intro hky (And.intro kf (And.intro ks RO)))
    clear z0 P4 E4 hky kf ks RO hkv
    obtain ⟨pk, hpk⟩ : ∃ pk, e.t.pk = pk := ⟨_, rfl⟩
    rw [hpk] at q2 e0 e1 e2 hpkI
    clear hpk
    go_wp2_with fail
    refine (unhide CP).mono ?_
    rintro x w5 ⟨p, hit, rfl, hpl, o5⟩
    have HO5 := hide ((unhide HO4).trans o5 (fun _ _ e => e))
    clear CP o5 q2 e0 e1 e2 d U4
    cases hit with
    | false =>
      have HP := hide (unhide HS 9 (by omega) (by
        unfold updR
        rw [if_neg (by simpa using unhide HCK), pkK_row e.t row, (unhide HK).1, (hpl.no (unhide HPE).2.2.1 (unhide HK).2.1 (unhide HK).2.2.1).1]) w5 (unhide HO5))
      clear hpl
      go_wp2_with fail
      go_ret
      exact unhide HP
    | true =>
      obtain ⟨rr, hrr, hek, hfk⟩ := hpl.yes (unhide HPE).2.2.1 (unhide HK).2.1 (unhide HK).2.2.1
      have hpb : putBy (pkK e.t.pk) row e.t.rows = e.t.rows.set p row := putBy_on (pkK e.t.pk) row e.t.rows p (fun j x hj hx => by rw [pkK_row e.t row, (unhide HK).1]; exact (hpl.codes (unhide HPE).2.2.1 (unhide HK).2.1 (unhide HK).2.2.1).1 j x hj hx) ⟨rr, hrr, by rw [hek, pkK_row e.t row, (unhide HK).1]⟩
      have hup : updR e.t row = (withR e.t (e.t.rows.set p row), 0) := by
        unfold updR
        rw [if_neg (by simpa using unhide HCK), pkK_row e.t row, (unhide HK).1, hfk, hpb]
      have hok : TbOk (withR e.t (e.t.rows.set p row)) := by
        rw [← hpb]
        exact (unhide HPE).2.2.1.put (unhide HK).2.2.2 (by rw [hpb, List.length_set]; exact (unhide HPE).2.2.1.len)
      have E5 := (unhide HPE).2.1.keep (unhide HO5) (fun _ _ e => e) (fun _ _ e => e)
      have P5 := (unhide HPE).1.keep (unhide HO5) (fun e => e)
      obtain ⟨tg, tu, tcap, he, _, tc, TU⟩ := E5.at_ hrr
      have p4 := P5.c4
      rw [he] at p4
      have hpl' := (List.getElem?_eq_some_iff.mp hrr).1
      have hpn : (p : Int) < (e.t.rows.length : Int) := by omega
      have hn8 := E5.ok.len
      have U5 := (unhide HM).2.1.keep (unhide HO5) (fun _ _ e => e)
      have CC := hide (mcloneRow_any (U5.keep ((Only.refl (fun _ => False) w5).drew) (fun _ _ e => e)) (by rw [unhide HRN]; have := (unhide HM).2.2.2; omega))
      have HD := hide (fun (w6 : World) (z : Nat) (O6 : OwnV w6 (.slice (some ⟨z, 0, none⟩) row.length row.length) row) (hz : w5.heap.size ≤ z) (o6 : Only (fun _ => False) w5 w6) => show w6.cell? ⟨b, i * 5 + 4, none⟩ = some (.slice (some ⟨tg, 0, none⟩) e.t.rows.length tcap) ∧ w6.cell? ⟨tg, p, none⟩ = some tu ∧ w6.frozen? ⟨tg, p, none⟩ = false ∧ MdP ty w dk o cs v l D' zz (.returned (.int .i64 0)) (w6.setCell ⟨tg, p, none⟩ (.slice (some ⟨z, 0, none⟩) row.length row.length)) from by
        have ow6 := (unhide HO5).trans o6 (fun _ _ e => e)
        have G6 := (unhide HM).1.ml.quiet ow6
        rw [(unhide HPE).2.2.2.2] at G6
        obtain ⟨a1, a2⟩ := G6.setRow (unhide HPE).2.2.2.1 he hpl' O6 ((GT.refl _).ok hok)
        have h := unhide HC
        rw [hup] at h
        simp only [if_true] at h
        cases h
        refine ⟨o6.cellF p4, o6.cellF tc, gownFree (by have R := (E5.keep o6 (fun _ _ e => e) (fun _ _ e => e)).rs; rw [he, E5.n] at R; exact R) p, (MdP.upd ow6 ((unhide HM).1.quiet ow6) (unhide HPE).2.2.2.2 (unhide HPE).2.2.2.1 a1 rfl hok rfl a2 ⟨fun k hk => .inl hk, fun k hk => ?_⟩)⟩
        rcases hk with hk | ⟨x, hx, hk⟩
        · exact .inl (.inl hk)
        · rcases List.mem_or_eq_of_mem_set hx with hx | rfl
          · exact .inl (.inr ⟨x, hx, hk⟩)
          · simp [Value.ownBlock] at hk
            have := (unhide HO5).size
            exact .inr (by omega))
      obtain ⟨n, hn⟩ : ∃ n, e.t.rows.length = n := ⟨_, rfl⟩
      rw [hn] at p4 hpn hn8 HD
      clear hn
      rw [unhide HRN] at CC HD
      obtain ⟨ta, tcp, htu⟩ := TU.shape
      subst htu
      clear hpl hrr hek hfk hpb hup hok E5 P5 he TU hpl' U5
      go_upto_region 11 with fail
      go_region_with (go_at_call 260; refine (unhide CC).mono ?_; rintro x w6 ⟨z, rfl, O6, hz, o6⟩; obtain ⟨s1, s2, s3, HP⟩ := unhide HD w6 z O6 (by simpa using hz) ((Only.refl (fun _ => False) w5).drew.trans o6 (fun _ _ e => e)); have HQ := hide HP; clear O6 hz o6 HP)
      all_goals
        go_wp2_with fail
        go_ret
        exact unhide HQ
  · have d : (zc != 0) = true := by simpa using z0
    have HP := hide (unhide HS zc z0 (by unfold updR; rw [unhide HZC, if_pos z0]) w4 (unhide HO4))
    clear z0
    go_wp2_with fail
    go_ret
    exact unhide HP
end
end Go.Proofs.Qxb6500412aGreat
