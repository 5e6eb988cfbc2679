/-
  OWN WORK. THE TABLE LAW: KeptLookup (written by tools/gen_js3.py).
-/
import Derived.Test.Qxb6500413aGreatJS2
import Derived.Test.Qxb6500413aGreatELk
namespace Go.Proofs.Qxb6500413aGreat
open Go.RowKit Go.PlainAid
set_option linter.unusedSimpArgs false
set_option linter.unusedVariables false

section
variable {q : Gnd} {w w' : World} {x : Nat} {op : Bool} {S : Vu} {T : List (Tb × Hd)} {v : Value} {l : List GE} {D : Db} {nm : ByteArray} {key : Vl}
theorem lkp_len {D : Db} (d : DOk D) : (lkpD D nm key).1.length ≤ 1000 := by
  unfold lkpD
  cases hf : findD D nm with
  | none => simp
  | some t0 =>
    have ok := d.tb t0 (by unfold findD at hf; exact List.mem_of_find?_eq_some hf)
    simp only
    unfold lkpR
    split
    · simp
    · cases hk : fndK t0 (cV key) with
      | none => simp
      | some r =>
        unfold fndK at hk
        simp only
        rw [(ok.row r (List.mem_of_find?_eq_some hk)).len]
        have := ok.n3
        omega
theorem lkp_no (h : ∀ e ∈ l, e.t.nm ≠ nm) (P : GP (l.map (·.t)) D) : lkpD D nm key = ([], 10) := by
  unfold lkpD
  rw [P.no (fun t ht => by obtain ⟨e, he, rfl⟩ := List.mem_map.mp ht; exact h e he)]
theorem lkp_chk {e : GE} (he : e ∈ l) (hn : e.t.nm = nm) (hc : chkKey e.t key ≠ 0) (P : GP (l.map (·.t)) D) : lkpD D nm key = ([], chkKey e.t key) := by
  obtain ⟨t0, h1, h2, h3⟩ := P.yes (List.mem_map.mpr ⟨e, he, rfl⟩) hn
  have : chkKey e.t key = chkKey t0 key := by unfold chkKey; rw [h3.cols, h3.pk]
  unfold lkpD lkpR
  rw [h1]
  simp only
  rw [← this, if_pos hc]
theorem lkp_row {e : GE} (d : DOk D) (he : e ∈ l) (hn : e.t.nm = nm) (hw : key.wf) (hc : chkKey e.t key = 0) {z : Int} (hr : GRR e.t key z) (P : GP (l.map (·.t)) D) : (z = -1 → lkpD D nm key = ([], 9)) ∧ ∀ (i : Nat) (r : List Vl), z = i → e.t.rows[i]? = some r → lkpD D nm key = (r, 0) := by
  obtain ⟨t0, h1, h2, h3⟩ := P.yes (List.mem_map.mpr ⟨e, he, rfl⟩) hn
  have ok := d.tb t0 h2
  have hc0 : chkKey t0 key = 0 := by unfold chkKey at hc ⊢; rw [h3.cols, h3.pk] at hc; exact hc
  obtain ⟨kf, ks⟩ := h3.keyOk ok hw hc
  unfold lkpD lkpR
  rw [h1]
  simp only
  rw [if_neg (by simpa using hc0)]
  rcases h3.find ok kf ks hr with ⟨rfl, hf, _⟩ | ⟨i, r, hi, rfl, _, hf⟩
  · exact ⟨fun _ => by rw [hf], fun i r e => by omega⟩
  · refine ⟨fun e => by omega, fun j r' e hr' => ?_⟩
    obtain rfl : i = j := by omega
    rw [hi] at hr'
    cases hr'
    rw [hf]
set_option maxRecDepth 100000 in
set_option maxHeartbeats 16000000 in
theorem jkeptLookup_any (H : ST q w x op S) (L : Lay S T) (G : GL w v l) (hq : ∀ k, GLm v l k ∨ GLi l k → ¬ q.S k) (nm : ByteArray) (key : Vl) (hw : key.wf) : Calls Tryz.prog 38 #[.pointer (some ⟨x, 0, none⟩), v, .string nm, vlA key] w (KsP q w x op S (fun bb => GP (l.map (·.t)) (dbOf T) → bb = true)) := by
  have o1 : Only (fun _ => False) w (w.alloc (.cells #[.bool key.str, .int .i64 key.i, .string key.s] 72)) := (Only.refl _ w).alloc _
  have A1 : Has (w.alloc (.cells #[.bool key.str, .int .i64 key.i, .string key.s] 72)) w.heap.size #[.bool key.str, .int .i64 key.i, .string key.s] 72 := Has.new w _ _
  have CL := elookup_any (H.quiet o1) L nm key hw
  obtain ⟨va, vc, hvs⟩ := G.shape
  subst hvs
  have nA : ¬ q.S w.heap.size := H.new (Nat.le_refl _)
  have HH := hide (And.intro L (And.intro (G.quiet o1) (And.intro hq hw)))
  have HA := hide (And.intro A1 nA)
  have k0 := A1.cell 0
  have k1 := A1.cell 1
  have k2 := A1.cell 2
  simp at k0 k1 k2
  unfold vlA at CL ⊢
  have CL := hide CL
  have HO1 := hide o1
  clear H L G hq o1 A1 nA hw
  go_enter Tryz.func38, Tryz.ntmps38
  go_wp2_with fail
  refine (unhide CL).mono ?_
  rintro y w2 ⟨rv, rfl, hrv, _, st2, o2⟩
  generalize (w.alloc (.cells #[.bool key.str, .int .i64 key.i, .string key.s] 72)) = w1 at *
  generalize w.heap.size = kb at *
  obtain ⟨Rw, ze, hRz⟩ : ∃ Rw ze, lkpD (dbOf T) nm key = (Rw, ze) := ⟨_, _, rfl⟩
  rw [hRz] at hrv ⊢
  have HRZ := hide hRz
  have h4 : Rw.length ≤ 1000 := by
    have : (lkpD (dbOf T) nm key).1.length ≤ 1000 := lkp_len (unhide HH).1.dok
    rw [hRz] at this
    exact this
  clear hRz
  obtain ⟨ra, rc, hrs⟩ := hrv.shape
  subst hrs
  have G2 := (unhide HH).2.1.keep o2 (fun k hk => (unhide HH).2.2.1 k (.inl hk)) (fun k hk => (unhide HH).2.2.1 k (.inr hk))
  have A2 := (unhide HA).1.keep o2 (unhide HA).2
  have CG := hide (jgfind_any G2 nm)
  have HX := hide (And.intro st2 (And.intro (((unhide HO1).mono (fun _ _ e => e.elim)).trans o2 (fun _ _ e => e) : Only q.S w w2) (And.intro hrv (And.intro G2 A2))))
  clear st2 o2 hrv G2 A2 k0 k1 k2 CL HA HO1
  obtain ⟨rl, hrl⟩ : ∃ rl, Rw.length = rl := ⟨_, rfl⟩
  rw [hrl] at h4 ⊢
  have HRL := hide hrl
  clear hrl
  go_wp2_with fail
  refine (unhide CG).mono ?_
  rintro y w3 ⟨r, rfl, hr, rfl⟩
  clear CG
  have HE := hide (fun (bb : Bool) (w9 : World) (o9 : Only (fun _ => False) w2 w9) (hb : GP (l.map (·.t)) (dbOf T) → bb = true) => show KsP q w x op S (fun bb => GP (l.map (·.t)) (dbOf T) → bb = true) (.returned (.bool bb)) w9 from ⟨bb, rfl, hb, (unhide HX).1.quiet o9, (unhide HX).2.1.trans (o9.mono (fun _ _ e => e.elim)) (fun _ _ e => e)⟩)
  rcases hr with ⟨rfl, hno⟩ | ⟨i, e, hi, rfl, hn⟩
  · skip
    have HD := hide (show GP (l.map (·.t)) (dbOf T) → ze = 10 ∧ rl = 0 from fun P => by
      have := lkp_no (key := key) hno P
      rw [unhide HRZ] at this
      have h1 := congrArg Prod.fst this
      have h2 := congrArg Prod.snd this
      simp only at h1 h2
      exact ⟨h2, by rw [← unhide HRL, h1]; rfl⟩)
    clear hno
    by_cases he : ze = 10
    · have e1 : (ze == 10) = true := by simpa using he
      by_cases hl0 : rl = 0
      · have e2 : ((rl : Int) == 0) = true := by rw [hl0]; rfl
        have e2n : (rl == 0) = true := by rw [hl0]; rfl
        have HP := hide (unhide HE true w2 (Only.refl _ _) (fun _ => rfl))
        clear he
        subst hl0
        go_wp2_with fail
        go_ret
        exact unhide HP
      · have e2 : ((rl : Int) == 0) = false := by simp; omega
        have e2n : (rl == 0) = false := by simpa using hl0
        have HP := hide (unhide HE false w2 (Only.refl _ _) (fun P => absurd (unhide HD P).2 hl0))
        clear he hl0
        go_wp2_with fail
        go_ret
        exact unhide HP
    · have e1 : (ze == 10) = false := by simpa using he
      have HP := hide (unhide HE false w2 (Only.refl _ _) (fun P => absurd (unhide HD P).1 he))
      clear he
      go_wp2_with fail
      go_ret
      exact unhide HP
  have il : (i : Int) < (l.length : Int) := by have := (List.getElem?_eq_some_iff.mp hi).1; omega
  have dr : decide ((i : Int) < 0) = false := decide_eq_false (by omega)
  obtain ⟨b, cap, hvx, P2, E2⟩ := (unhide HX).2.2.2.1.pt hi
  simp only [Value.slice.injEq] at hvx
  obtain ⟨rfl, _, rfl⟩ := hvx
  have h3 := (unhide HX).2.2.2.1.len
  obtain ⟨ln, hln⟩ : ∃ ln, l.length = ln := ⟨_, rfl⟩
  rw [hln] at il h3 ⊢
  clear hln
  have p0 := P2.c0
  have p1 := P2.c1
  have p2 := P2.c2
  have p3 := P2.c3
  obtain ⟨ca, cc, hcc⟩ := E2.col.shape
  have k0 := (unhide HX).2.2.2.2.cell 0
  have k1 := (unhide HX).2.2.2.2.cell 1
  have k2 := (unhide HX).2.2.2.2.cell 2
  simp at k0 k1 k2
  obtain ⟨xc, hxc⟩ := getE (l := e.t.cols) (i := e.t.pk) E2.ok.pkn
  have CV := eCheckVal_any (E2.col.keep ((Only.refl (fun _ => False) w2).drew) (fun _ _ e => e)) e.t.nm (e.t.pk : Int) (ixI e.t.ix) e.t.pk hxc key
  obtain ⟨zc, hzc⟩ : ∃ zc, chkVal xc key = zc := ⟨_, rfl⟩
  rw [hzc] at CV
  have HZC := hide (show chkKey e.t key = zc from by unfold chkKey; rw [hxc]; exact hzc)
  unfold vlA schA at CV
  rw [hcc] at CV p1
  have HPE := hide (And.intro P2 E2)
  have HEM := hide (And.intro (List.mem_of_getElem? hi) hn)
  clear P2 E2 hi hxc hzc hcc
  obtain ⟨cn, hcn⟩ : ∃ cn, e.t.cols.length = cn := ⟨_, rfl⟩
  rw [hcn] at CV p1
  clear hcn
  obtain ⟨pk, hpk⟩ : ∃ pk, e.t.pk = pk := ⟨_, rfl⟩
  rw [hpk] at CV p2
  have HPK := hide hpk
  clear hpk
  obtain ⟨ix, hix⟩ : ∃ ix, ixI e.t.ix = ix := ⟨_, rfl⟩
  rw [hix] at CV p3
  clear hix
  obtain ⟨en, hen⟩ : ∃ en, e.t.nm = en := ⟨_, rfl⟩
  rw [hen] at CV p0
  clear hen hn
  have CV := hide CV
  go_upto_region 5 with fail
  go_cut [12] (fun zv wx => zv = .int .i64 zc ∧ Only (fun _ => False) w2 wx)
  case first =>
    refine wp_region_held_drew (S := (fun w' => w'.cell? ⟨kb, 0, none⟩ = some (.bool key.str) ∧ w'.cell? ⟨kb, 1, none⟩ = some (.int .i64 key.i) ∧ w'.cell? ⟨kb, 2, none⟩ = some (.string key.s) ∧ w'.cell? ⟨b, i * 5, none⟩ = some (.string en) ∧ w'.cell? ⟨b, i * 5 + 1, none⟩ = some (.slice ca cn cc) ∧ w'.cell? ⟨b, i * 5 + 2, none⟩ = some (.int .i64 (pk : Int)) ∧ w'.cell? ⟨b, i * 5 + 3, none⟩ = some (.int .i64 ix))) (by kernel_rfl) ⟨k0, k1, k2, p0, p1, p2, p3⟩ (fun hH0 => ?_)
    refine takeH 0 33 (v := ?va1) rfl rfl (by kernel_rfl) (by kernel_rfl) (by kernel_rfl) (fun _ _ _ h => h) (Or.inl ⟨by rfl, ?ha1⟩) hH0 ?ra1
    case ha1 => (intro w hSw; clear hSw; go_simp; (try with_reducible rfl))
    case ra1 =>
    try simp only [Act.put, List.setIfInBounds_toArray, List.set_cons_zero, List.set_cons_succ]
    refine takeH 1 34 (v := ?va2) rfl rfl (by kernel_rfl) (by kernel_rfl) (by kernel_rfl) (fun _ _ _ h => h) (Or.inl ⟨by rfl, ?ha2⟩) hH0 ?ra2
    case ha2 => (intro w hSw; clear hSw; go_simp; (try with_reducible rfl))
    case ra2 =>
    try simp only [Act.put, List.setIfInBounds_toArray, List.set_cons_zero, List.set_cons_succ]
    refine takeH 2 35 (v := ?va3) rfl rfl (by kernel_rfl) (by kernel_rfl) (by kernel_rfl) (fun _ _ _ h => h) (Or.inl ⟨by rfl, ?ha3⟩) hH0 ?ra3
    case ha3 => (intro w hSw; clear hSw; go_simp; (try with_reducible rfl))
    case ra3 =>
    try simp only [Act.put, List.setIfInBounds_toArray, List.set_cons_zero, List.set_cons_succ]
    refine takeH 3 36 (v := ?va4) rfl rfl (by kernel_rfl) (by kernel_rfl) (by kernel_rfl) (fun _ _ _ h => h) (Or.inl ⟨by rfl, ?ha4⟩) hH0 ?ra4
    case ha4 => (intro w hSw; clear hSw; go_simp; (try with_reducible rfl))
    case ra4 =>
    try simp only [Act.put, List.setIfInBounds_toArray, List.set_cons_zero, List.set_cons_succ]
    refine takeH 4 37 (v := ?va5) rfl rfl (by kernel_rfl) (by kernel_rfl) (by kernel_rfl) (fun _ _ _ h => h) (Or.inl ⟨by rfl, ?ha5⟩) hH0 ?ra5
    case ha5 => (intro w hSw; obtain ⟨s0, s1, s2, s3, s4, s5, s6⟩ := hSw; go_simp; (try with_reducible rfl))
    case ra5 =>
    try simp only [Act.put, List.setIfInBounds_toArray, List.set_cons_zero, List.set_cons_succ]
    refine takeH 5 38 (v := ?va6) rfl rfl (by kernel_rfl) (by kernel_rfl) (by kernel_rfl) (fun _ _ _ h => h) (Or.inl ⟨by rfl, ?ha6⟩) hH0 ?ra6
    case ha6 => (intro w hSw; clear hSw; go_simp; (try with_reducible rfl))
    case ra6 =>
    try simp only [Act.put, List.setIfInBounds_toArray, List.set_cons_zero, List.set_cons_succ]
    refine takeH 6 39 (v := ?va7) rfl rfl (by kernel_rfl) (by kernel_rfl) (by kernel_rfl) (fun _ _ _ h => h) (Or.inl ⟨by rfl, ?ha7⟩) hH0 ?ra7
    case ha7 => (intro w hSw; clear hSw; go_simp; (try with_reducible rfl))
    case ra7 =>
    try simp only [Act.put, List.setIfInBounds_toArray, List.set_cons_zero, List.set_cons_succ]
    refine takeH 7 40 (v := ?va8) rfl rfl (by kernel_rfl) (by kernel_rfl) (by kernel_rfl) (fun _ _ _ h => h) (Or.inl ⟨by rfl, ?ha8⟩) hH0 ?ra8
    case ha8 => (intro w hSw; clear hSw; go_simp; (try with_reducible rfl))
    case ra8 =>
    try simp only [Act.put, List.setIfInBounds_toArray, List.set_cons_zero, List.set_cons_succ]
    refine takeH 8 41 (v := ?va9) rfl rfl (by kernel_rfl) (by kernel_rfl) (by kernel_rfl) (fun _ _ _ h => h) (Or.inl ⟨by rfl, ?ha9⟩) hH0 ?ra9
    case ha9 => (intro w hSw; clear hSw; go_simp; (try with_reducible rfl))
    case ra9 =>
    try simp only [Act.put, List.setIfInBounds_toArray, List.set_cons_zero, List.set_cons_succ]
    refine takeH 9 42 (v := ?va10) rfl rfl (by kernel_rfl) (by kernel_rfl) (by kernel_rfl) (fun _ _ _ h => h) (Or.inl ⟨by rfl, ?ha10⟩) hH0 ?ra10
    case ha10 => (intro w hSw; clear hSw; go_simp; (try with_reducible rfl))
    case ra10 =>
    try simp only [Act.put, List.setIfInBounds_toArray, List.set_cons_zero, List.set_cons_succ]
    refine takeH 10 43 (v := ?va11) rfl rfl (by kernel_rfl) (by kernel_rfl) (by kernel_rfl) (fun _ _ _ h => h) (Or.inl ⟨by rfl, ?ha11⟩) hH0 ?ra11
    case ha11 => (intro w hSw; obtain ⟨s0, s1, s2, s3, s4, s5, s6⟩ := hSw; go_simp; (try with_reducible rfl))
    case ra11 =>
    try simp only [Act.put, List.setIfInBounds_toArray, List.set_cons_zero, List.set_cons_succ]
    refine takeH 11 44 (v := ?va12) rfl rfl (by kernel_rfl) (by kernel_rfl) (by kernel_rfl) (fun _ _ _ h => h) (Or.inl ⟨by rfl, ?ha12⟩) hH0 ?ra12
    case ha12 => (intro w hSw; obtain ⟨s0, s1, s2, s3, s4, s5, s6⟩ := hSw; go_simp; (try with_reducible rfl))
    case ra12 =>
    try simp only [Act.put, List.setIfInBounds_toArray, List.set_cons_zero, List.set_cons_succ]
    refine callH 12 (by kernel_rfl) rfl 45 rfl rfl 101 Tryz.func101 (by kernel_rfl) (by kernel_rfl) #[.tmp 37, .tmp 43, .tmp 44] #[65, 3, 72] rfl #[.agg #[.string en, .slice ca cn cc, .int .i64 (pk : Int), .int .i64 ix], .int .i64 (pk : Int), .agg #[.bool key.str, .int .i64 key.i, .string key.s]] (by simp [Act.eval]) (R := fun v w' => v = .int .i64 zc ∧ Only (fun _ => False) w2.drew w') ((unhide CV).mono (by rintro en w' ⟨rfl, o⟩; exact ⟨_, rfl, rfl, o⟩)) ?ka
    case ka =>
    rintro _ w6 ⟨rfl, o6⟩
    have S6 : w6.cell? ⟨kb, 0, none⟩ = some (.bool key.str) ∧ w6.cell? ⟨kb, 1, none⟩ = some (.int .i64 key.i) ∧ w6.cell? ⟨kb, 2, none⟩ = some (.string key.s) ∧ w6.cell? ⟨b, i * 5, none⟩ = some (.string en) ∧ w6.cell? ⟨b, i * 5 + 1, none⟩ = some (.slice ca cn cc) ∧ w6.cell? ⟨b, i * 5 + 2, none⟩ = some (.int .i64 (pk : Int)) ∧ w6.cell? ⟨b, i * 5 + 3, none⟩ = some (.int .i64 ix) := ⟨o6.cellF hH0.1, o6.cellF hH0.2.1, o6.cellF hH0.2.2.1, o6.cellF hH0.2.2.2.1, o6.cellF hH0.2.2.2.2.1, o6.cellF hH0.2.2.2.2.2.1, o6.cellF hH0.2.2.2.2.2.2⟩
    refine ⟨S6, ?_⟩
    try simp only [Act.put, List.setIfInBounds_toArray, List.set_cons_zero, List.set_cons_succ]
    refine takeH 13 12 (v := ?va13) rfl rfl (by kernel_rfl) (by kernel_rfl) (by kernel_rfl) (fun _ _ _ h => h) (Or.inl ⟨by rfl, ?ha13⟩) S6 ?ra13
    case ha13 => (intro w hSw; clear hSw; go_simp; (try with_reducible rfl))
    case ra13 =>
    try simp only [Act.put, List.setIfInBounds_toArray, List.set_cons_zero, List.set_cons_succ]
    refine wpAnyH_done (by kernel_rfl) ?_ _
    have oD : Only (fun _ => False) w2 w6 := (Only.refl _ w2).drew.trans o6 (fun _ _ e => e)
    have HF := hide oD
    clear hH0 S6 o6 oD
    go_wp2_with fail
    go_meet
    exact ⟨rfl, unhide HF⟩
  case rest =>
  obtain ⟨rfl, o4⟩ := hcut
  generalize wc = w4 at *
  have HO4 := hide o4
  have k0 := o4.cellF k0
  have k1 := o4.cellF k1
  have k2 := o4.cellF k2
  clear o4 p0 p1 p2 p3 CV dr
  by_cases z0 : zc = 0
  · have d2 : (zc != 0) = false := by rw [z0]; rfl
    have HZ0 := hide z0
    clear z0
    have CR := jgrow_any (((unhide HPE).1.keep (unhide HO4) (fun e => e)).keep ((Only.refl (fun _ => False) w4).drew) (fun e => e)) (((unhide HPE).2.keep (unhide HO4) (fun _ _ e => e) (fun _ _ e => e)).keep ((Only.refl (fun _ => False) w4).drew) (fun _ _ e => e) (fun _ _ e => e)) key
    unfold vlA at CR
    have CR := hide CR
    go_upto_region 8 with fail
    go_cut [13] (fun pv wx => ∃ z, pv = .int .i64 z ∧ GRR e.t key z ∧ Only (fun _ => False) w4 wx)
    case first =>
      refine wp_region_held_drew (S := (fun w' => w'.cell? ⟨kb, 0, none⟩ = some (.bool key.str) ∧ w'.cell? ⟨kb, 1, none⟩ = some (.int .i64 key.i) ∧ w'.cell? ⟨kb, 2, none⟩ = some (.string key.s))) (by kernel_rfl) ⟨k0, k1, k2⟩ (fun hH0 => ?_)
      refine takeH 0 56 (v := ?vg1) rfl rfl (by kernel_rfl) (by kernel_rfl) (by kernel_rfl) (fun _ _ _ h => h) (Or.inl ⟨by rfl, ?hg1⟩) hH0 ?rg1
      case hg1 => (intro w hSw; clear hSw; go_simp; (try with_reducible rfl))
      case rg1 =>
      try simp only [Act.put, List.setIfInBounds_toArray, List.set_cons_zero, List.set_cons_succ]
      refine takeH 1 57 (v := ?vg2) rfl rfl (by kernel_rfl) (by kernel_rfl) (by kernel_rfl) (fun _ _ _ h => h) (Or.inl ⟨by rfl, ?hg2⟩) hH0 ?rg2
      case hg2 => (intro w hSw; clear hSw; go_simp; (try with_reducible rfl))
      case rg2 =>
      try simp only [Act.put, List.setIfInBounds_toArray, List.set_cons_zero, List.set_cons_succ]
      refine takeH 2 58 (v := ?vg3) rfl rfl (by kernel_rfl) (by kernel_rfl) (by kernel_rfl) (fun _ _ _ h => h) (Or.inl ⟨by rfl, ?hg3⟩) hH0 ?rg3
      case hg3 => (intro w hSw; clear hSw; go_simp; (try with_reducible rfl))
      case rg3 =>
      try simp only [Act.put, List.setIfInBounds_toArray, List.set_cons_zero, List.set_cons_succ]
      refine takeH 3 59 (v := ?vg4) rfl rfl (by kernel_rfl) (by kernel_rfl) (by kernel_rfl) (fun _ _ _ h => h) (Or.inl ⟨by rfl, ?hg4⟩) hH0 ?rg4
      case hg4 => (intro w hSw; obtain ⟨s0, s1, s2⟩ := hSw; go_simp; (try with_reducible rfl))
      case rg4 =>
      try simp only [Act.put, List.setIfInBounds_toArray, List.set_cons_zero, List.set_cons_succ]
      refine callH 4 (by kernel_rfl) rfl 60 rfl rfl 102 Tryz.func102 (by kernel_rfl) (by kernel_rfl) #[.tmp 58, .tmp 59] #[136, 72] rfl #[.pointer (some ⟨b, i * 5, none⟩), .agg #[.bool key.str, .int .i64 key.i, .string key.s]] (by simp [Act.eval]) (R := fun v w' => ∃ z, v = .int .i64 z ∧ GRR e.t key z ∧ Only (fun _ => False) w4.drew w') ((unhide CR).mono (by rintro en w' ⟨z, rfl, hz, o⟩; exact ⟨_, rfl, z, rfl, hz, o⟩)) ?kg
      case kg =>
      rintro _ w6 ⟨z, rfl, hz, o6⟩
      have S6 : w6.cell? ⟨kb, 0, none⟩ = some (.bool key.str) ∧ w6.cell? ⟨kb, 1, none⟩ = some (.int .i64 key.i) ∧ w6.cell? ⟨kb, 2, none⟩ = some (.string key.s) := ⟨o6.cellF hH0.1, o6.cellF hH0.2.1, o6.cellF hH0.2.2⟩
      refine ⟨S6, ?_⟩
      try simp only [Act.put, List.setIfInBounds_toArray, List.set_cons_zero, List.set_cons_succ]
      refine takeH 5 13 (v := ?vg5) rfl rfl (by kernel_rfl) (by kernel_rfl) (by kernel_rfl) (fun _ _ _ h => h) (Or.inl ⟨by rfl, ?hg5⟩) S6 ?rg5
      case hg5 => (intro w hSw; clear hSw; go_simp; (try with_reducible rfl))
      case rg5 =>
      try simp only [Act.put, List.setIfInBounds_toArray, List.set_cons_zero, List.set_cons_succ]
      refine wpAnyH_done (by kernel_rfl) ?_ _
      have oD : Only (fun _ => False) w4 w6 := (Only.refl _ w4).drew.trans o6 (fun _ _ e => e)
      have HF := hide oD
      clear hH0 S6 o6 oD
      have HZ := hide hz
      clear hz
      go_wp2_with fail
      go_meet
      exact ⟨z, rfl, unhide HZ, unhide HF⟩
    case rest =>
    obtain ⟨z, rfl, hz, o5⟩ := hcut
    generalize wc = w5 at *
    have HO5 := hide ((unhide HO4).trans o5 (fun _ _ e => e))
    clear o5 k0 k1 k2 CR d2
    have HLK := hide (fun (P : GP (l.map (·.t)) (dbOf T)) => lkp_row (D := dbOf T) (unhide HH).1.dok (unhide HEM).1 (unhide HEM).2 (unhide HH).2.2.2 (by rw [unhide HZC, unhide HZ0]) hz P)
    rcases hz with ⟨rfl, hno⟩ | ⟨p, xr, hxr, rfl, _⟩
    · skip
      have HD := hide (show GP (l.map (·.t)) (dbOf T) → ze = 9 ∧ rl = 0 from fun P => by
        have := (unhide HLK P).1 rfl
        rw [unhide HRZ] at this
        have h1 := congrArg Prod.fst this
        have h2 := congrArg Prod.snd this
        simp only at h1 h2
        exact ⟨h2, by rw [← unhide HRL, h1]; rfl⟩)
      clear hno
      by_cases he : ze = 9
      · have e1 : (ze == 9) = true := by simpa using he
        by_cases hl0 : rl = 0
        · have e2 : ((rl : Int) == 0) = true := by rw [hl0]; rfl
          have e2n : (rl == 0) = true := by rw [hl0]; rfl
          have HP := hide (unhide HE true w5 (unhide HO5) (fun _ => rfl))
          clear he
          subst hl0
          go_wp2_with fail
          go_ret
          exact unhide HP
        · have e2 : ((rl : Int) == 0) = false := by simp; omega
          have e2n : (rl == 0) = false := by simpa using hl0
          have HP := hide (unhide HE false w5 (unhide HO5) (fun P => absurd (unhide HD P).2 hl0))
          clear he hl0
          go_wp2_with fail
          go_ret
          exact unhide HP
      · have e1 : (ze == 9) = false := by simpa using he
        have HP := hide (unhide HE false w5 (unhide HO5) (fun P => absurd (unhide HD P).1 he))
        clear he
        go_wp2_with fail
        go_ret
        exact unhide HP
    have dp : decide ((p : Int) < 0) = false := decide_eq_false (by omega)
    have E5 := (unhide HPE).2.keep (unhide HO5) (fun _ _ e => e) (fun _ _ e => e)
    have p4 := ((unhide HPE).1.keep (unhide HO5) (fun e => e)).c4
    obtain ⟨tg, tu, tcap, he, _, tc, TU⟩ := E5.at_ hxr
    rw [he] at p4
    have hpn : (p : Int) < (e.t.rows.length : Int) := by have := (List.getElem?_eq_some_iff.mp hxr).1; omega
    have hn8 := E5.ok.len
    obtain ⟨n, hn⟩ : ∃ n, e.t.rows.length = n := ⟨_, rfl⟩
    rw [hn] at p4 hpn hn8
    clear hn
    obtain ⟨ta, tcp, htu⟩ := TU.shape
    subst htu
    have OR := (unhide HX).2.2.1.keep (unhide HO5) (fun _ _ e => e)
    have CS := jsameRow_any OR TU (by rw [unhide HRL]; exact h4)
    rw [unhide HRL] at CS
    have HD := hide (show GP (l.map (·.t)) (dbOf T) → ze = 0 ∧ Rw = xr from fun P => by
      have := (unhide HLK P).2 p xr rfl hxr
      rw [unhide HRZ] at this
      have h1 := congrArg Prod.fst this
      have h2 := congrArg Prod.snd this
      simp only at h1 h2
      exact ⟨h2, h1⟩)
    obtain ⟨xn, hxn⟩ : ∃ xn, xr.length = xn := ⟨_, rfl⟩
    rw [hxn] at tc CS
    clear hxn
    obtain ⟨zs, hzs⟩ : ∃ zs, decide (Rw = xr) = zs := ⟨_, rfl⟩
    rw [hzs] at CS
    have CS := hide CS
    clear E5 he TU OR hxr
    by_cases he : ze = 0
    · have e1 : (ze == 0) = true := by simpa using he
      have HP := hide (fun w9 o9 => unhide HE zs w9 o9 (fun P => by rw [← hzs]; exact decide_eq_true (unhide HD P).2))
      clear he hzs
      go_wp2_with fail
      refine (unhide CS).mono ?_
      rintro y w6 ⟨rfl, o6⟩
      have HQ := hide (unhide HP w6 ((unhide HO5).trans o6 (fun _ _ e => e)))
      clear o6 CS
      go_wp2_with fail
      go_ret
      exact unhide HQ
    · have e1 : (ze == 0) = false := by simpa using he
      have HP := hide (unhide HE false w5 (unhide HO5) (fun P => absurd (unhide HD P).1 he))
      clear he hzs
      go_wp2_with fail
      go_ret
      exact unhide HP
  · have d2 : (zc != 0) = true := by simpa using z0
    clear k0 k1 k2
    have HD := hide (show GP (l.map (·.t)) (dbOf T) → ze = zc ∧ rl = 0 from fun P => by
      have := lkp_chk (D := dbOf T) (key := key) (unhide HEM).1 (unhide HEM).2 (by rw [unhide HZC]; exact z0) P
      rw [unhide HRZ, unhide HZC] at this
      have h1 := congrArg Prod.fst this
      have h2 := congrArg Prod.snd this
      simp only at h1 h2
      exact ⟨h2, by rw [← unhide HRL, h1]; rfl⟩)
    clear z0
    by_cases he : ze = zc
    · have e1 : (ze == zc) = true := by simpa using he
      have e1' : (zc == zc) = true := by simp
      by_cases hl0 : rl = 0
      · have e2 : ((rl : Int) == 0) = true := by rw [hl0]; rfl
        have HP := hide (unhide HE true w4 (unhide HO4) (fun _ => rfl))
        subst he
        subst hl0
        go_wp2_with fail
        go_ret
        exact unhide HP
      · have e2 : ((rl : Int) == 0) = false := by simp; omega
        have e2n : (rl == 0) = false := by simpa using hl0
        have HP := hide (unhide HE false w4 (unhide HO4) (fun P => absurd (unhide HD P).2 hl0))
        subst he
        clear hl0
        go_wp2_with fail
        go_ret
        exact unhide HP
    · have e1 : (ze == zc) = false := by simpa using he
      have HP := hide (unhide HE false w4 (unhide HO4) (fun P => absurd (unhide HD P).1 he))
      clear he
      go_wp2_with fail
      go_ret
      exact unhide HP
end
end Go.Proofs.Qxb6500413aGreat
