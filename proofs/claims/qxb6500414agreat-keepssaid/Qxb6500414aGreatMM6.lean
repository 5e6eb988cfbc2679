/-
  OWN WORK. THE TABLE LAW's MODEL: Lookup, SchemaOf, Names (written by tools/gen_mm6.py).
-/
import Derived.Test.Qxb6500414aGreatMP1
import Derived.Test.Qxb6500414aGreatETab
namespace Go.Proofs.Qxb6500414aGreat
open Go.RowKit Go.PlainAid
set_option linter.unusedSimpArgs false
set_option linter.unusedVariables false

/-- A database of the model, at a pointer. -/
structure MDb (w : World) (dk o : Nat) (v : Value) (l : List GE) (D : Db) : Prop where
  c0 : w.cell? ⟨dk, o, none⟩ = some v
  ml : ML w v l
  tt : l.map (·.t) = D
  ok : DOk D
theorem MDb.quiet {w w' : World} {dk o : Nat} {v : Value} {l : List GE} {D : Db} (h : MDb w dk o v l D) (ho : Only (fun _ => False) w w') : MDb w' dk o v l D := ⟨cell_keep h.c0 ho (fun e => e), h.ml.quiet ho, h.tt, h.ok⟩
/-- A row made anew. -/
def FrV (w : World) (r : List Vl) (z : Int) (x : Ending) (w' : World) : Prop := ∃ v, x = .returned (.tuple #[v, .int .i64 z]) ∧ OwnV w' v r ∧ Newer w v ∧ Only (fun _ => False) w w'
theorem FrV.none {w w' : World} {z : Int} (ho : Only (fun _ => False) w w') : FrV w [] z (.returned (.tuple #[.slice none 0 0, .int .i64 z])) w' := ⟨_, rfl, World.ownsRow_nil _ _ _ _, fun k hk => by simp [Value.ownBlock] at hk, ho⟩
section
variable {w : World} {dk o : Nat} {v : Value} {l : List GE} {D : Db}
set_option maxRecDepth 100000 in
set_option maxHeartbeats 4000000 in
theorem mdbLookup_any (M : MDb w dk o v l D) (nm : ByteArray) (key : Vl) (hw : key.wf) : Calls Tryz.prog 150 #[.pointer (some ⟨dk, o, none⟩), .string nm, vlA key] w (FrV w (lkpD D nm key).1 (lkpD D nm key).2) := by
  have o1 : Only (fun _ => False) w (w.alloc (.cells #[.bool key.str, .int .i64 key.i, .string key.s] 106)) := (Only.refl _ w).alloc _
  have A1 : Has (w.alloc (.cells #[.bool key.str, .int .i64 key.i, .string key.s] 106)) w.heap.size #[.bool key.str, .int .i64 key.i, .string key.s] 106 := Has.new w _ _
  have M1 := M.quiet o1
  have CF := hide (mfind_any M1.c0 M1.ml nm)
  have HX := hide (And.intro o1 (And.intro A1 (And.intro M1 hw)))
  obtain ⟨RR, zz, hRR⟩ : ∃ RR zz, lkpD D nm key = (RR, zz) := ⟨_, _, rfl⟩
  rw [hRR]
  have HRR := hide hRR
  unfold vlA
  clear M M1 o1 A1 hRR hw
  go_enter Tryz.func150, Tryz.ntmps150
  go_wp2_with fail
  refine (unhide CF).mono ?_
  rintro x w2 ⟨r, rfl, hr, rfl⟩
  clear CF
  generalize w.alloc (.cells #[.bool key.str, .int .i64 key.i, .string key.s] 106) = w1 at *
  generalize w.heap.size = kb at *
  by_cases r0 : r < 0
  · have dr : decide (r < 0) = true := decide_eq_true r0
    have HP := hide (show FrV w RR zz (.returned (.tuple #[.slice none 0 0, .int .i64 10])) w1 from by
      have h := unhide HRR
      unfold lkpD at h
      rw [hr.mno (unhide HX).2.2.1.tt (unhide HX).2.2.1.ok r0] at h
      cases h
      exact FrV.none (unhide HX).1)
    clear hr r0
    go_wp2_with fail
    go_ret2
    exact unhide HP
  have dr : decide (r < 0) = false := decide_eq_false r0
  obtain ⟨i, e, rfl, hi, hn, hf, hm⟩ := hr.myes (unhide HX).2.2.1.tt (unhide HX).2.2.1.ok (by omega)
  have ok := (unhide HX).2.2.1.ok.tb e.t hm
  have HL := hide (show lkpR e.t key = (RR, zz) from by
    have h := unhide HRR
    unfold lkpD at h
    rw [hf] at h
    exact h)
  obtain ⟨b, cap, hvx, P2, E2⟩ := (unhide HX).2.2.1.ml.pt hi
  have il : (i : Int) < (l.length : Int) := by have := (List.getElem?_eq_some_iff.mp hi).1; omega
  have h3 := (unhide HX).2.2.1.ml.len
  have c0 := (unhide HX).2.2.1.c0
  rw [hvx] at c0
  obtain ⟨ln, hln⟩ : ∃ ln, l.length = ln := ⟨_, rfl⟩
  rw [hln] at il h3 c0
  clear hln hvx
  have p0 := P2.c0
  have p1 := P2.c1
  have p2 := P2.c2
  have p3 := P2.c3
  obtain ⟨ca, cc, hcc⟩ := E2.col.shape
  have k0 := (unhide HX).2.1.cell 0
  have k1 := (unhide HX).2.1.cell 1
  have k2 := (unhide HX).2.1.cell 2
  simp at k0 k1 k2
  obtain ⟨xc, hxc⟩ := getE (l := e.t.cols) (i := e.t.pk) E2.ok.pkn
  have CV := eCheckVal_any (E2.col.keep ((Only.refl (fun _ => False) w1).drew) (fun _ _ e => e)) e.t.nm (e.t.pk : Int) (ixI e.t.ix) e.t.pk hxc key
  obtain ⟨zc, hzc⟩ : ∃ zc, chkVal xc key = zc := ⟨_, rfl⟩
  rw [hzc] at CV
  have HZC := hide (show chkKey e.t key = zc from by unfold chkKey; rw [hxc]; exact hzc)
  unfold vlA schA at CV
  rw [hcc] at CV p1
  have HPE := hide (And.intro P2 (And.intro E2 ok))
  clear P2 E2 hi hn hf hm hxc hzc hcc ok
  obtain ⟨cn, hcn⟩ : ∃ cn, e.t.cols.length = cn := ⟨_, rfl⟩
  rw [hcn] at CV p1
  clear hcn
  obtain ⟨pk, hpk⟩ : ∃ pk, e.t.pk = pk := ⟨_, rfl⟩
  rw [hpk] at CV p2
  clear hpk
  obtain ⟨ix, hix⟩ : ∃ ix, ixI e.t.ix = ix := ⟨_, rfl⟩
  rw [hix] at CV p3
  clear hix
  obtain ⟨en, hen⟩ : ∃ en, e.t.nm = en := ⟨_, rfl⟩
  rw [hen] at CV p0
  clear hen
  have CV := hide CV
  go_upto_region 5 with fail
  go_cut [10] (fun zv wx => zv = .int .i64 zc ∧ Only (fun _ => False) w1 wx)
  case first =>
    refine wp_region_held_drew (S := (fun w' => w'.cell? ⟨kb, 0, none⟩ = some (.bool key.str) ∧ w'.cell? ⟨kb, 1, none⟩ = some (.int .i64 key.i) ∧ w'.cell? ⟨kb, 2, none⟩ = some (.string key.s) ∧ w'.cell? ⟨b, i * 5, none⟩ = some (.string en) ∧ w'.cell? ⟨b, i * 5 + 1, none⟩ = some (.slice ca cn cc) ∧ w'.cell? ⟨b, i * 5 + 2, none⟩ = some (.int .i64 (pk : Int)) ∧ w'.cell? ⟨b, i * 5 + 3, none⟩ = some (.int .i64 ix))) (by kernel_rfl) ⟨k0, k1, k2, p0, p1, p2, p3⟩ (fun hH0 => ?_)
    refine takeH 0 24 (v := ?va1) rfl rfl (by kernel_rfl) (by kernel_rfl) (by kernel_rfl) (fun _ _ _ h => h) (Or.inl ⟨by rfl, ?ha1⟩) hH0 ?ra1
    case ha1 => (intro w hSw; clear hSw; go_simp; (try with_reducible rfl))
    case ra1 =>
    try simp only [Act.put, List.setIfInBounds_toArray, List.set_cons_zero, List.set_cons_succ]
    refine takeH 1 25 (v := ?va2) rfl rfl (by kernel_rfl) (by kernel_rfl) (by kernel_rfl) (fun _ _ _ h => h) (Or.inl ⟨by rfl, ?ha2⟩) hH0 ?ra2
    case ha2 => (intro w hSw; clear hSw; go_simp; (try with_reducible rfl))
    case ra2 =>
    try simp only [Act.put, List.setIfInBounds_toArray, List.set_cons_zero, List.set_cons_succ]
    refine takeH 2 26 (v := ?va3) rfl rfl (by kernel_rfl) (by kernel_rfl) (by kernel_rfl) (fun _ _ _ h => h) (Or.inl ⟨by rfl, ?ha3⟩) hH0 ?ra3
    case ha3 => (intro w hSw; clear hSw; go_simp; (try with_reducible rfl))
    case ra3 =>
    try simp only [Act.put, List.setIfInBounds_toArray, List.set_cons_zero, List.set_cons_succ]
    refine takeH 3 27 (v := ?va4) rfl rfl (by kernel_rfl) (by kernel_rfl) (by kernel_rfl) (fun _ _ _ h => h) (Or.inl ⟨by rfl, ?ha4⟩) hH0 ?ra4
    case ha4 => (intro w hSw; obtain ⟨s0, s1, s2, s3, s4, s5, s6⟩ := hSw; go_simp; (try with_reducible rfl))
    case ra4 =>
    try simp only [Act.put, List.setIfInBounds_toArray, List.set_cons_zero, List.set_cons_succ]
    refine takeH 4 28 (v := ?va5) rfl rfl (by kernel_rfl) (by kernel_rfl) (by kernel_rfl) (fun _ _ _ h => h) (Or.inl ⟨by rfl, ?ha5⟩) hH0 ?ra5
    case ha5 => (intro w hSw; clear hSw; go_simp; (try with_reducible rfl))
    case ra5 =>
    try simp only [Act.put, List.setIfInBounds_toArray, List.set_cons_zero, List.set_cons_succ]
    refine takeH 5 29 (v := ?va6) rfl rfl (by kernel_rfl) (by kernel_rfl) (by kernel_rfl) (fun _ _ _ h => h) (Or.inl ⟨by rfl, ?ha6⟩) hH0 ?ra6
    case ha6 => (intro w hSw; clear hSw; go_simp; (try with_reducible rfl))
    case ra6 =>
    try simp only [Act.put, List.setIfInBounds_toArray, List.set_cons_zero, List.set_cons_succ]
    refine takeH 6 30 (v := ?va7) rfl rfl (by kernel_rfl) (by kernel_rfl) (by kernel_rfl) (fun _ _ _ h => h) (Or.inl ⟨by rfl, ?ha7⟩) hH0 ?ra7
    case ha7 => (intro w hSw; clear hSw; go_simp; (try with_reducible rfl))
    case ra7 =>
    try simp only [Act.put, List.setIfInBounds_toArray, List.set_cons_zero, List.set_cons_succ]
    refine takeH 7 31 (v := ?va8) rfl rfl (by kernel_rfl) (by kernel_rfl) (by kernel_rfl) (fun _ _ _ h => h) (Or.inl ⟨by rfl, ?ha8⟩) hH0 ?ra8
    case ha8 => (intro w hSw; clear hSw; go_simp; (try with_reducible rfl))
    case ra8 =>
    try simp only [Act.put, List.setIfInBounds_toArray, List.set_cons_zero, List.set_cons_succ]
    refine takeH 8 32 (v := ?va9) rfl rfl (by kernel_rfl) (by kernel_rfl) (by kernel_rfl) (fun _ _ _ h => h) (Or.inl ⟨by rfl, ?ha9⟩) hH0 ?ra9
    case ha9 => (intro w hSw; obtain ⟨s0, s1, s2, s3, s4, s5, s6⟩ := hSw; go_simp; (try with_reducible rfl))
    case ra9 =>
    try simp only [Act.put, List.setIfInBounds_toArray, List.set_cons_zero, List.set_cons_succ]
    refine takeH 9 33 (v := ?va10) rfl rfl (by kernel_rfl) (by kernel_rfl) (by kernel_rfl) (fun _ _ _ h => h) (Or.inl ⟨by rfl, ?ha10⟩) hH0 ?ra10
    case ha10 => (intro w hSw; obtain ⟨s0, s1, s2, s3, s4, s5, s6⟩ := hSw; go_simp; (try with_reducible rfl))
    case ra10 =>
    try simp only [Act.put, List.setIfInBounds_toArray, List.set_cons_zero, List.set_cons_succ]
    refine callH 10 (by kernel_rfl) rfl 34 rfl rfl 131 Tryz.func131 (by kernel_rfl) (by kernel_rfl) #[.tmp 27, .tmp 32, .tmp 33] #[51, 3, 106] rfl #[.agg #[.string en, .slice ca cn cc, .int .i64 (pk : Int), .int .i64 ix], .int .i64 (pk : Int), .agg #[.bool key.str, .int .i64 key.i, .string key.s]] (by simp [Act.eval]) (R := fun v w' => v = .int .i64 zc ∧ Only (fun _ => False) w1.drew w') ((unhide CV).mono (by rintro en w' ⟨rfl, o⟩; exact ⟨_, rfl, rfl, o⟩)) ?ka
    case ka =>
    rintro _ w6 ⟨rfl, o6⟩
    have S6 : w6.cell? ⟨kb, 0, none⟩ = some (.bool key.str) ∧ w6.cell? ⟨kb, 1, none⟩ = some (.int .i64 key.i) ∧ w6.cell? ⟨kb, 2, none⟩ = some (.string key.s) ∧ w6.cell? ⟨b, i * 5, none⟩ = some (.string en) ∧ w6.cell? ⟨b, i * 5 + 1, none⟩ = some (.slice ca cn cc) ∧ w6.cell? ⟨b, i * 5 + 2, none⟩ = some (.int .i64 (pk : Int)) ∧ w6.cell? ⟨b, i * 5 + 3, none⟩ = some (.int .i64 ix) := ⟨o6.cellF hH0.1, o6.cellF hH0.2.1, o6.cellF hH0.2.2.1, o6.cellF hH0.2.2.2.1, o6.cellF hH0.2.2.2.2.1, o6.cellF hH0.2.2.2.2.2.1, o6.cellF hH0.2.2.2.2.2.2⟩
    refine ⟨S6, ?_⟩
    try simp only [Act.put, List.setIfInBounds_toArray, List.set_cons_zero, List.set_cons_succ]
    refine takeH 11 10 (v := ?va11) rfl rfl (by kernel_rfl) (by kernel_rfl) (by kernel_rfl) (fun _ _ _ h => h) (Or.inl ⟨by rfl, ?ha11⟩) S6 ?ra11
    case ha11 => (intro w hSw; clear hSw; go_simp; (try with_reducible rfl))
    case ra11 =>
    try simp only [Act.put, List.setIfInBounds_toArray, List.set_cons_zero, List.set_cons_succ]
    refine wpAnyH_done (by kernel_rfl) ?_ _
    have oD : Only (fun _ => False) w1 w6 := (Only.refl _ w1).drew.trans o6 (fun _ _ e => e)
    have HF := hide oD
    clear hH0 S6 o6 oD
    go_wp2_with fail
    go_meet
    exact ⟨rfl, unhide HF⟩
  case rest =>
  obtain ⟨rfl, o4⟩ := hcut
  generalize wc = w4 at *
  have HO4 := hide o4
  have k0 := o4.cellF k0
  have k1 := o4.cellF k1
  have k2 := o4.cellF k2
  clear o4 p0 p1 p2 p3 CV dr c0
  by_cases z0 : zc = 0
  · have d2 : (zc != 0) = false := by rw [z0]; rfl
    have CP := mplace_any ((unhide HPE).1.keep (unhide HO4) (fun e => e)) ((unhide HPE).2.1.keep (unhide HO4) (fun _ _ e => e) (fun _ _ e => e)) key
    unfold vlA at CP
    have CP := hide CP
    have HCK := hide (show chkKey e.t key = 0 from by rw [unhide HZC]; exact z0)
    have HKO := hide (show key.fit ∧ ∀ x, e.t.cols[e.t.pk]? = some x → key.str = x.2 from GT.keyOk (t := e.t) (t0 := e.t) ⟨rfl, rfl, rfl, rfl, List.Perm.refl _⟩ (unhide HPE).2.2 (unhide HX).2.2.2 (unhide HCK))
    clear z0
    go_wp2_with fail
    refine (unhide CP).mono ?_
    rintro x w5 ⟨p, hit, rfl, hpl, o5⟩
    have HO5 := hide ((unhide HO4).trans o5 (fun _ _ e => e))
    clear CP o5 k0 k1 k2 d2
    cases hit with
    | false =>
      have HP := hide (show FrV w RR zz (.returned (.tuple #[.slice none 0 0, .int .i64 9])) w5 from by
        have h := unhide HL
        unfold lkpR at h
        rw [if_neg (by simpa using unhide HCK), (hpl.no (unhide HPE).2.2 (unhide HKO).1 (unhide HKO).2).1] at h
        cases h
        exact FrV.none ((unhide HX).1.trans (unhide HO5) (fun _ _ e => e)))
      clear hpl
      go_wp2_with fail
      go_ret2
      exact unhide HP
    | true =>
      obtain ⟨rr, hrr, _, hfk⟩ := hpl.yes (unhide HPE).2.2 (unhide HKO).1 (unhide HKO).2
      have hRz : rr = RR ∧ (0 : Int) = zz := by
        have h := unhide HL
        unfold lkpR at h
        rw [if_neg (by simpa using unhide HCK), hfk] at h
        cases h
        exact ⟨rfl, rfl⟩
      obtain ⟨rfl, rfl⟩ := hRz
      have E5 := (unhide HPE).2.1.keep (unhide HO5) (fun _ _ e => e) (fun _ _ e => e)
      have p4 := ((unhide HPE).1.keep (unhide HO5) (fun e => e)).c4
      obtain ⟨tg, tu, tcap, he, _, tc, TU⟩ := E5.at_ hrr
      rw [he] at p4
      have hpn : (p : Int) < (e.t.rows.length : Int) := by have := (List.getElem?_eq_some_iff.mp hrr).1; omega
      have hn8 := E5.ok.len
      have CC := hide (mcloneRow_any TU (by rw [(E5.ok.row rr (List.mem_of_getElem? hrr)).len]; have := E5.ok.n3; omega))
      obtain ⟨n, hn⟩ : ∃ n, e.t.rows.length = n := ⟨_, rfl⟩
      rw [hn] at p4 hpn hn8
      clear hn
      obtain ⟨ta, tcp, htu⟩ := TU.shape
      subst htu
      have hw5 := (unhide HX).1.size
      have z5 := (unhide HO5).size
      clear E5 he TU hrr hfk hpl
      go_wp2_with fail
      refine (unhide CC).mono ?_
      rintro x w6 ⟨z, rfl, O6, hz, o6⟩
      have HP := hide (show FrV w rr 0 (.returned (.tuple #[.slice (some ⟨z, 0, none⟩) rr.length rr.length, .int .i64 0])) w6 from ⟨_, rfl, O6, fun k hk => by simp [Value.ownBlock] at hk; omega, ((unhide HX).1.trans (unhide HO5) (fun _ _ e => e)).trans o6 (fun _ _ e => e)⟩)
      clear O6 hz o6 CC
      go_wp2_with fail
      go_ret2
      exact unhide HP
  · have d2 : (zc != 0) = true := by simpa using z0
    have HP := hide (show FrV w RR zz (.returned (.tuple #[.slice none 0 0, .int .i64 zc])) w4 from by
      have h := unhide HL
      unfold lkpR at h
      rw [unhide HZC, if_pos z0] at h
      cases h
      exact FrV.none ((unhide HX).1.trans (unhide HO4) (fun _ _ e => e)))
    clear z0 k0 k1 k2
    go_wp2_with fail
    go_ret2
    exact unhide HP
end
end Go.Proofs.Qxb6500414aGreat
