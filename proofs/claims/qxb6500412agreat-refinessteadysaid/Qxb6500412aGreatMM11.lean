/-
  OWN WORK. THE TABLE LAW's MODEL: Delete (written by tools/gen_mm11.py).
-/
import Derived.Test.Qxb6500412aGreatMM10
namespace Go.Proofs.Qxb6500412aGreat
open Go.RowKit Go.PlainAid
set_option linter.unusedSimpArgs false
set_option linter.unusedVariables false

theorem cutp_get {α : Type} {l : List α} {p : Nat} (hp : p < l.length) (j : Nat) : (l.take p ++ l.drop (p + 1))[j]? = if j < p then l[j]? else l[j + 1]? := by
  have hl : (l.take p).length = p := by rw [List.length_take]; omega
  by_cases c : j < p
  · rw [if_pos c, List.getElem?_append_left (by omega), List.getElem?_take, if_pos c]
  · rw [if_neg c, List.getElem?_append_right (by omega), hl, List.getElem?_drop]
    rw [show p + 1 + (j - p) = j + 1 by omega]
theorem cutp_len {α : Type} {l : List α} {p : Nat} (hp : p < l.length) : (l.take p ++ l.drop (p + 1)).length = l.length - 1 := by simp; omega
/-- The rows while those behind p move down: j of them are through. -/
def Shf {α : Type} (l : List α) (p j : Nat) (X : List α) : Prop := X.length = l.length ∧ ∀ q, q < l.length → X[q]? = if p ≤ q ∧ q < j then l[q + 1]? else l[q]?
theorem Shf.start {α : Type} (l : List α) (p : Nat) : Shf l p p l := ⟨rfl, fun q _ => by rw [if_neg (by omega)]⟩
theorem Shf.step {α : Type} {l X : List α} {p j : Nat} {x : α} (h : Shf l p j X) (hp : p ≤ j) (hj : j + 1 < l.length) (hx : l[j + 1]? = some x) : Shf l p (j + 1) (X.set j x) := by
  refine ⟨by rw [List.length_set]; exact h.1, fun q hq => ?_⟩
  by_cases c : j = q
  · subst c
    rw [List.getElem?_set_self (by rw [h.1]; omega), if_pos (by omega), hx]
  · rw [List.getElem?_set_ne c, h.2 q hq]
    by_cases c2 : p ≤ q ∧ q < j
    · rw [if_pos c2, if_pos (by omega)]
    · rw [if_neg c2, if_neg (by omega)]
theorem Shf.done {α : Type} {l X : List α} {p j : Nat} (h : Shf l p j X) (hp : p < l.length) (hj : j + 1 = l.length) : X.take (l.length - 1) = l.take p ++ l.drop (p + 1) := by
  apply List.ext_getElem?
  intro q
  rw [List.getElem?_take, cutp_get hp]
  by_cases c : q < l.length - 1
  · rw [if_pos c, h.2 q (by omega)]
    by_cases c2 : q < p
    · rw [if_neg (by omega), if_pos c2]
    · rw [if_pos (by omega), if_neg c2]
  · rw [if_neg c]
    by_cases c2 : q < p
    · omega
    · rw [if_neg c2, List.getElem?_eq_none (by omega)]
section
variable {ty : TypeId} {w w' : World} {dk o : Nat} {cs : Array Value} {v : Value} {l : List GE} {D : Db}
set_option maxRecDepth 100000 in
set_option maxHeartbeats 4000000 in
theorem mdbDelete_any (M : MDc ty w dk o cs v l D) (nm : ByteArray) (key : Vl) (hw : key.wf) : Calls Tryz.prog 333 #[.pointer (some ⟨dk, o, none⟩), .string nm, vlA key] w (MdP ty w dk o cs v l (delD D nm key).1 (delD D nm key).2) := by
  obtain ⟨D', zz, hDz⟩ : ∃ D' zz, delD D nm key = (D', zz) := ⟨_, _, rfl⟩
  rw [hDz]
  have HDZ := hide hDz
  have o1 : Only (fun _ => False) w (w.alloc (.cells #[.bool key.str, .int .i64 key.i, .string key.s] 152)) := (Only.refl _ w).alloc _
  have A1 : Has (w.alloc (.cells #[.bool key.str, .int .i64 key.i, .string key.s] 152)) w.heap.size #[.bool key.str, .int .i64 key.i, .string key.s] 152 := Has.new w _ _
  have M1 := M.quiet o1
  have CF := hide (mfind_any M1.db.c0 M1.db.ml nm)
  have HX := hide (And.intro o1 (And.intro A1 (And.intro M1 (And.intro hw M))))
  unfold vlA
  clear M M1 o1 A1 hDz hw
  go_enter Tryz.func333, Tryz.ntmps333
  go_wp2_with fail
  refine (unhide CF).mono ?_
  rintro x w2 ⟨r, rfl, hr, rfl⟩
  clear CF
  generalize w.alloc (.cells #[.bool key.str, .int .i64 key.i, .string key.s] 152) = w1 at *
  generalize w.heap.size = kb at *
  by_cases r0 : r < 0
  · have dr : decide (r < 0) = true := decide_eq_true r0
    have HP := hide (show MdP ty w dk o cs v l D' zz (.returned (.int .i64 10)) w1 from by
      have h := unhide HDZ
      unfold delD at h
      rw [onT_no (hr.mno (unhide HX).2.2.1.tt (unhide HX).2.2.1.ok r0)] at h
      cases h
      exact MdP.same (unhide HX).2.2.2.2 (unhide HX).1)
    clear hr r0
    go_wp2_with fail
    go_ret
    exact unhide HP
  have dr : decide (r < 0) = false := decide_eq_false r0
  obtain ⟨i, e, rfl, hi, hn, hf, hm⟩ := hr.myes (unhide HX).2.2.1.tt (unhide HX).2.2.1.ok (by omega)
  have ok := (unhide HX).2.2.1.ok.tb e.t hm
  have HC := hide (show (if (delR e.t key).2 = 0 then putT (delR e.t key).1 D else D, (delR e.t key).2) = (D', zz) from by
    have h := unhide HDZ
    unfold delD at h
    rw [onT_yes hf] at h
    exact h)
  have HS := hide (fun (z : Int) (z0 : z ≠ 0) (hz : delR e.t key = (e.t, z)) (w9 : World) (o9 : Only (fun _ => False) w1 w9) => show MdP ty w dk o cs v l D' zz (.returned (.int .i64 z)) w9 from by
    have h := unhide HC
    rw [hz] at h
    simp only [if_neg z0] at h
    cases h
    exact MdP.same (unhide HX).2.2.2.2 ((unhide HX).1.trans o9 (fun _ _ e => e)))
  obtain ⟨b, cap, hvx, P2, E2⟩ := (unhide HX).2.2.1.ml.pt hi
  have il : (i : Int) < (l.length : Int) := by have := (List.getElem?_eq_some_iff.mp hi).1; omega
  have h3 := (unhide HX).2.2.1.ml.len
  have c0 := (unhide HX).2.2.1.db.c0
  rw [hvx] at c0
  obtain ⟨ln, hln⟩ : ∃ ln, l.length = ln := ⟨_, rfl⟩
  rw [hln] at il h3 c0
  clear hln
  have p0 := P2.c0
  have p1 := P2.c1
  have p2 := P2.c2
  have p3 := P2.c3
  obtain ⟨ca, cc, hcc⟩ := E2.col.shape
  have k0 := (unhide HX).2.1.cell 0
  have k1 := (unhide HX).2.1.cell 1
  have k2 := (unhide HX).2.1.cell 2
  simp at k0 k1 k2
  obtain ⟨xc, hxc⟩ := getE (l := e.t.cols) (i := e.t.pk) E2.ok.pkn
  have CV := eCheckVal_any (E2.col.keep ((Only.refl (fun _ => False) w1).drew) (fun _ _ e => e)) e.t.nm (e.t.pk : Int) (ixI e.t.ix) e.t.pk hxc key
  obtain ⟨zc, hzc⟩ : ∃ zc, chkVal xc key = zc := ⟨_, rfl⟩
  rw [hzc] at CV
  have HZC := hide (show chkKey e.t key = zc from by unfold chkKey; rw [hxc]; exact hzc)
  unfold vlA schA at CV
  rw [hcc] at CV p1
  have HPE := hide (And.intro P2 (And.intro E2 (And.intro ok (And.intro hi hvx))))
  clear P2 E2 hi hn hf hm hxc hzc hcc ok hvx
  obtain ⟨cn, hcn⟩ : ∃ cn, e.t.cols.length = cn := ⟨_, rfl⟩
  rw [hcn] at CV p1
  clear hcn
  obtain ⟨pk, hpk⟩ : ∃ pk, e.t.pk = pk := ⟨_, rfl⟩
  rw [hpk] at CV p2
  clear hpk
  obtain ⟨ix, hix⟩ : ∃ ix, ixI e.t.ix = ix := ⟨_, rfl⟩
  rw [hix] at CV p3
  clear hix
  obtain ⟨en, hen⟩ : ∃ en, e.t.nm = en := ⟨_, rfl⟩
  rw [hen] at CV p0
  clear hen
  have CV := hide CV
  go_upto_region 5 with fail
  go_cut [9] (fun zv wx => zv = .int .i64 zc ∧ Only (fun _ => False) w1 wx)
  case first =>
    refine wp_region_held_drew (S := (fun w' => w'.cell? ⟨kb, 0, none⟩ = some (.bool key.str) ∧ w'.cell? ⟨kb, 1, none⟩ = some (.int .i64 key.i) ∧ w'.cell? ⟨kb, 2, none⟩ = some (.string key.s) ∧ w'.cell? ⟨b, i * 5, none⟩ = some (.string en) ∧ w'.cell? ⟨b, i * 5 + 1, none⟩ = some (.slice ca cn cc) ∧ w'.cell? ⟨b, i * 5 + 2, none⟩ = some (.int .i64 (pk : Int)) ∧ w'.cell? ⟨b, i * 5 + 3, none⟩ = some (.int .i64 ix))) (by kernel_rfl) ⟨k0, k1, k2, p0, p1, p2, p3⟩ (fun hH0 => ?_)
    refine takeH 0 24 (v := ?va1) rfl rfl (by kernel_rfl) (by kernel_rfl) (by kernel_rfl) (fun _ _ _ h => h) (Or.inl ⟨by rfl, ?ha1⟩) hH0 ?ra1
    case ha1 => (intro w hSw; clear hSw; go_simp; (try with_reducible rfl))
    case ra1 =>
    try simp only [Act.put, List.setIfInBounds_toArray, List.set_cons_zero, List.set_cons_succ]
    refine takeH 1 25 (v := ?va2) rfl rfl (by kernel_rfl) (by kernel_rfl) (by kernel_rfl) (fun _ _ _ h => h) (Or.inl ⟨by rfl, ?ha2⟩) hH0 ?ra2
    case ha2 => (intro w hSw; clear hSw; go_simp; (try with_reducible rfl))
    case ra2 =>
    try simp only [Act.put, List.setIfInBounds_toArray, List.set_cons_zero, List.set_cons_succ]
    refine takeH 2 26 (v := ?va3) rfl rfl (by kernel_rfl) (by kernel_rfl) (by kernel_rfl) (fun _ _ _ h => h) (Or.inl ⟨by rfl, ?ha3⟩) hH0 ?ra3
    case ha3 => (intro w hSw; clear hSw; go_simp; (try with_reducible rfl))
    case ra3 =>
    try simp only [Act.put, List.setIfInBounds_toArray, List.set_cons_zero, List.set_cons_succ]
    refine takeH 3 27 (v := ?va4) rfl rfl (by kernel_rfl) (by kernel_rfl) (by kernel_rfl) (fun _ _ _ h => h) (Or.inl ⟨by rfl, ?ha4⟩) hH0 ?ra4
    case ha4 => (intro w hSw; obtain ⟨s0, s1, s2, s3, s4, s5, s6⟩ := hSw; go_simp; (try with_reducible rfl))
    case ra4 =>
    try simp only [Act.put, List.setIfInBounds_toArray, List.set_cons_zero, List.set_cons_succ]
    refine takeH 4 28 (v := ?va5) rfl rfl (by kernel_rfl) (by kernel_rfl) (by kernel_rfl) (fun _ _ _ h => h) (Or.inl ⟨by rfl, ?ha5⟩) hH0 ?ra5
    case ha5 => (intro w hSw; clear hSw; go_simp; (try with_reducible rfl))
    case ra5 =>
    try simp only [Act.put, List.setIfInBounds_toArray, List.set_cons_zero, List.set_cons_succ]
    refine takeH 5 29 (v := ?va6) rfl rfl (by kernel_rfl) (by kernel_rfl) (by kernel_rfl) (fun _ _ _ h => h) (Or.inl ⟨by rfl, ?ha6⟩) hH0 ?ra6
    case ha6 => (intro w hSw; clear hSw; go_simp; (try with_reducible rfl))
    case ra6 =>
    try simp only [Act.put, List.setIfInBounds_toArray, List.set_cons_zero, List.set_cons_succ]
    refine takeH 6 30 (v := ?va7) rfl rfl (by kernel_rfl) (by kernel_rfl) (by kernel_rfl) (fun _ _ _ h => h) (Or.inl ⟨by rfl, ?ha7⟩) hH0 ?ra7
    case ha7 => (intro w hSw; clear hSw; go_simp; (try with_reducible rfl))
    case ra7 =>
    try simp only [Act.put, List.setIfInBounds_toArray, List.set_cons_zero, List.set_cons_succ]
    refine takeH 7 31 (v := ?va8) rfl rfl (by kernel_rfl) (by kernel_rfl) (by kernel_rfl) (fun _ _ _ h => h) (Or.inl ⟨by rfl, ?ha8⟩) hH0 ?ra8
    case ha8 => (intro w hSw; clear hSw; go_simp; (try with_reducible rfl))
    case ra8 =>
    try simp only [Act.put, List.setIfInBounds_toArray, List.set_cons_zero, List.set_cons_succ]
    refine takeH 8 32 (v := ?va9) rfl rfl (by kernel_rfl) (by kernel_rfl) (by kernel_rfl) (fun _ _ _ h => h) (Or.inl ⟨by rfl, ?ha9⟩) hH0 ?ra9
    case ha9 => (intro w hSw; obtain ⟨s0, s1, s2, s3, s4, s5, s6⟩ := hSw; go_simp; (try with_reducible rfl))
    case ra9 =>
    try simp only [Act.put, List.setIfInBounds_toArray, List.set_cons_zero, List.set_cons_succ]
    refine takeH 9 33 (v := ?va10) rfl rfl (by kernel_rfl) (by kernel_rfl) (by kernel_rfl) (fun _ _ _ h => h) (Or.inl ⟨by rfl, ?ha10⟩) hH0 ?ra10
    case ha10 => (intro w hSw; obtain ⟨s0, s1, s2, s3, s4, s5, s6⟩ := hSw; go_simp; (try with_reducible rfl))
    case ra10 =>
    try simp only [Act.put, List.setIfInBounds_toArray, List.set_cons_zero, List.set_cons_succ]
    refine callH 10 (by kernel_rfl) rfl 34 rfl rfl 296 Tryz.func296 (by kernel_rfl) (by kernel_rfl) #[.tmp 27, .tmp 32, .tmp 33] #[79, 3, 152] rfl #[.agg #[.string en, .slice ca cn cc, .int .i64 (pk : Int), .int .i64 ix], .int .i64 (pk : Int), .agg #[.bool key.str, .int .i64 key.i, .string key.s]] (by simp [Act.eval]) (R := fun v w' => v = .int .i64 zc ∧ Only (fun _ => False) w1.drew w') ((unhide CV).mono (by rintro en w' ⟨rfl, o⟩; exact ⟨_, rfl, rfl, o⟩)) ?ka
    case ka =>
    rintro _ w6 ⟨rfl, o6⟩
    have S6 : w6.cell? ⟨kb, 0, none⟩ = some (.bool key.str) ∧ w6.cell? ⟨kb, 1, none⟩ = some (.int .i64 key.i) ∧ w6.cell? ⟨kb, 2, none⟩ = some (.string key.s) ∧ w6.cell? ⟨b, i * 5, none⟩ = some (.string en) ∧ w6.cell? ⟨b, i * 5 + 1, none⟩ = some (.slice ca cn cc) ∧ w6.cell? ⟨b, i * 5 + 2, none⟩ = some (.int .i64 (pk : Int)) ∧ w6.cell? ⟨b, i * 5 + 3, none⟩ = some (.int .i64 ix) := ⟨o6.cellF hH0.1, o6.cellF hH0.2.1, o6.cellF hH0.2.2.1, o6.cellF hH0.2.2.2.1, o6.cellF hH0.2.2.2.2.1, o6.cellF hH0.2.2.2.2.2.1, o6.cellF hH0.2.2.2.2.2.2⟩
    refine ⟨S6, ?_⟩
    try simp only [Act.put, List.setIfInBounds_toArray, List.set_cons_zero, List.set_cons_succ]
    refine takeH 11 9 (v := ?va11) rfl rfl (by kernel_rfl) (by kernel_rfl) (by kernel_rfl) (fun _ _ _ h => h) (Or.inl ⟨by rfl, ?ha11⟩) S6 ?ra11
    case ha11 => (intro w hSw; clear hSw; go_simp; (try with_reducible rfl))
    case ra11 =>
    try simp only [Act.put, List.setIfInBounds_toArray, List.set_cons_zero, List.set_cons_succ]
    refine wpAnyH_done (by kernel_rfl) ?_ _
    have oD : Only (fun _ => False) w1 w6 := (Only.refl _ w1).drew.trans o6 (fun _ _ e => e)
    have HF := hide oD
    clear hH0 S6 o6 oD
    go_wp2_with fail
    go_meet
    exact ⟨rfl, unhide HF⟩
  case rest =>
  obtain ⟨rfl, o4⟩ := hcut
  generalize wc = w4 at *
  have HO4 := hide o4
  have k0 := o4.cellF k0
  have k1 := o4.cellF k1
  have k2 := o4.cellF k2
  clear o4 p0 p1 p2 p3 CV dr c0
  by_cases z0 : zc = 0
  · have d2 : (zc != 0) = false := by rw [z0]; rfl
    have CP := mplace_any ((unhide HPE).1.keep (unhide HO4) (fun e => e)) ((unhide HPE).2.1.keep (unhide HO4) (fun _ _ e => e) (fun _ _ e => e)) key
    unfold vlA at CP
    have CP := hide CP
    have HCK := hide (show chkKey e.t key = 0 from by rw [unhide HZC]; exact z0)
    have HKO := hide (show key.fit ∧ ∀ x, e.t.cols[e.t.pk]? = some x → key.str = x.2 from GT.keyOk (t := e.t) (t0 := e.t) (GT.refl _) (unhide HPE).2.2.1 (unhide HX).2.2.2.1 (unhide HCK))
    clear z0
    go_wp2_with fail
    refine (unhide CP).mono ?_
    rintro x w5 ⟨p, hit, rfl, hpl, o5⟩
    have HO5 := hide ((unhide HO4).trans o5 (fun _ _ e => e))
    clear CP o5 k0 k1 k2 d2
    cases hit with
    | false =>
      have HP := hide (unhide HS 9 (by omega) (by
        unfold delR
        rw [if_neg (by simpa using unhide HCK), (hpl.no (unhide HPE).2.2.1 (unhide HKO).1 (unhide HKO).2).1]) w5 (unhide HO5))
      clear hpl
      go_wp2_with fail
      go_ret
      exact unhide HP
    | true =>
      obtain ⟨rr, hrr, hek, hfk⟩ := hpl.yes (unhide HPE).2.2.1 (unhide HKO).1 (unhide HKO).2
      have hplt := (List.getElem?_eq_some_iff.mp hrr).1
      have hfl : e.t.rows.filter (fun r => decide (pkK e.t.pk r ≠ cV key)) = e.t.rows.take p ++ e.t.rows.drop (p + 1) := by
        classical
        rw [← hek]
        exact drop_at (f := pkK e.t.pk) (unhide HPE).2.2.1.srt hrr
      have hdl : delR e.t key = (withR e.t (e.t.rows.take p ++ e.t.rows.drop (p + 1)), 0) := by
        unfold delR
        rw [if_neg (by simpa using unhide HCK), hfk]
        simp only [hfl]
      have hok : TbOk (withR e.t (e.t.rows.take p ++ e.t.rows.drop (p + 1))) := by
        rw [← hfl]
        exact (unhide HPE).2.2.1.del _
      have HIN := hide (And.intro hdl hok)
      have E5 := (unhide HPE).2.1.keep (unhide HO5) (fun _ _ e => e) (fun _ _ e => e)
      have P5 := (unhide HPE).1.keep (unhide HO5) (fun e => e)
      obtain ⟨tg, tu, tcap, he, _, tc, TU⟩ := E5.at_ hrr
      have p4 := P5.c4
      rw [he] at p4
      have hn8 := E5.ok.len
      have G5 := (unhide HX).2.2.1.ml.quiet (unhide HO5)
      rw [(unhide HPE).2.2.2.2] at G5
      obtain ⟨n, hn⟩ : ∃ n, e.t.rows.length = n := ⟨_, rfl⟩
      have own1 : w5.ownsRow 0 95 1 (.slice (some ⟨tg, 0, none⟩) n tcap) n e.us := by have := E5.rs; rw [he, E5.n, hn] at this; exact this
      have hbt : b ≠ tg := fun e' => G5.bne (unhide HPE).2.2.2.1 tg (.inl (by unfold GEm; rw [he]; rfl)) e'.symm
      have hul : e.us.length = n := by rw [E5.n, hn]
      have hge : GEm e tg := by unfold GEm; rw [he]; rfl
      have hcap : n ≤ tcap := by
        rcases own1.2 with ⟨h, _⟩ | ⟨g', c', cur, h, _, _, hh, _⟩
        · simp at h
        · simp at h
          omega
      have fb := gownFree G5.own (i * 5 + 4)
      rw [hn] at p4 hn8 hplt
      have HE5 := hide (And.intro E5 (And.intro G5 (And.intro hul (And.intro own1 (And.intro hge (And.intro hn (And.intro p4 hbt)))))))
      clear hpl hrr hek hfk hfl hdl hok E5 P5 he tc TU G5 own1 hul hge hn
      go_upto_region 12 with fail
      go_loopw [12] (fun jv wr => ∃ (j : Nat) (X : List Value), jv = .int .i64 j ∧ p ≤ j ∧ j < n ∧ Shf e.us p j X ∧ wr.ownsRow 0 95 1 (.slice (some ⟨tg, 0, none⟩) n tcap) n X ∧ Only (fun k => k = tg) w5 wr) (fun jv _ => n - (intOf jv).toNat)
      case atStart => exact ⟨p, e.us, rfl, Nat.le_refl _, hplt, Shf.start _ _, (unhide HE5).2.2.2.1, Only.refl _ _⟩
      case round =>
        obtain ⟨j, X, rfl, hpj, hjn, hS, R, oW⟩ := hrel
        have cW := cell_keep p4 oW (unhide HE5).2.2.2.2.2.2.2
        have hul := (unhide HE5).2.2.1
        by_cases hj : j + 1 < n
        · have dj : decide ((j : Int) + 1 < (n : Int)) = true := decide_eq_true (by omega)
          have djn : decide (j + 1 < n) = true := decide_eq_true hj
          obtain ⟨u, hu⟩ := getE (l := e.us) (i := j + 1) (by omega)
          obtain ⟨r, hr⟩ := getE (l := e.t.rows) (i := j + 1) (by rw [(unhide HE5).2.2.2.2.2.1]; exact hj)
          obtain ⟨sa, sc, hsu⟩ := ((unhide HE5).1.row (j + 1) u r hu hr).shape
          subst hsu
          have hc := World.ownsRow.cells R (g := tg) rfl
          have d0 := hc (j + 1) (.slice sa r.length sc) (by rw [hS.2 (j + 1) (by omega), if_neg (by omega)]; exact hu)
          obtain ⟨y, hy⟩ := getE (l := X) (i := j) (by rw [hS.1]; omega)
          have d1 := hc j y hy
          rw [addr_add] at d0 d1
          have f1 := gownFree R j
          have HR := hide (And.intro (hS.step hpj (by omega) hu) (And.intro (show (wr.setCell ⟨tg, j, none⟩ (.slice sa r.length sc)).drew.ownsRow 0 95 1 (.slice (some ⟨tg, 0, none⟩) n tcap) n (X.set j (.slice sa r.length sc)) from gbrowset (i := j) R (.slice sa r.length sc)) (oW.trans ((only1 (p := tg) _ _ : Only (fun k => k = tg) wr (wr.setCell ⟨tg, j, none⟩ (.slice sa r.length sc))).drew) (fun _ _ h => h))))
          obtain ⟨rl, hrl⟩ : ∃ rl, r.length = rl := ⟨_, rfl⟩
          rw [hrl] at d0 HR
          have hjI : (j : Int) < (n : Int) := by omega
          have hj1 : (j : Int) + 1 < (n : Int) := by omega
          have HJ := hide hj
          clear R oW hu hr hc hrl hS hy hj
          go_upto_region 14 with fail
          go_region
          go_wp2_with fail
          go_roundw
          case rel => exact ⟨j + 1, X.set j (.slice sa rl sc), by go_num, by omega, unhide HJ, (unhide HR).1, (unhide HR).2.1, (unhide HR).2.2⟩
          case measure => have := unhide HJ; simp [intOf]; omega
        · have dj : decide ((j : Int) + 1 < (n : Int)) = false := decide_eq_false (by omega)
          have djn : decide (j + 1 < n) = false := decide_eq_false hj
          have fW : wr.frozen? ⟨b, i * 5 + 4, none⟩ = false := gownFree (ownsRow_keep (unhide HE5).2.1.own oW (fun k hk e' => by simp [Value.ownBlock] at hk; exact (unhide HE5).2.2.2.2.2.2.2 (by omega))) _
          have HD := hide (show MdP ty w dk o cs v l D' zz (.returned (.int .i64 0)) (wr.drew.setCell ⟨b, i * 5 + 4, none⟩ (.slice (some ⟨tg, 0, none⟩) (n - 1) tcap)) from by
            have hn := (unhide HE5).2.2.2.2.2.1
            have oD : Only (fun k => k = tg) w5 wr.drew := oW.drew
            have ob : Only (fun k => k = b) wr.drew (wr.drew.setCell ⟨b, i * 5 + 4, none⟩ (.slice (some ⟨tg, 0, none⟩) (n - 1) tcap)) := only1 _ _
            have oo : Only (GUp b e) w5 (wr.drew.setCell ⟨b, i * 5 + 4, none⟩ (.slice (some ⟨tg, 0, none⟩) (n - 1) tcap)) := (oD.mono (fun k _ e' => Or.inr (by rw [e']; exact (unhide HE5).2.2.2.2.1))).trans ob (fun k _ e' => .inl e')
            have R9 : wr.drew.ownsRow 0 95 1 (.slice (some ⟨tg, 0, none⟩) n tcap) n X := R
            have RC := gcutrow R9 (show n - 1 ≤ n by omega)
            rw [Nat.mul_one, show n - 1 = e.us.length - 1 by omega, hS.done (by omega) (by omega)] at RC
            have hl' : (e.us.take p ++ e.us.drop (p + 1)).length = n - 1 := by rw [cutp_len (by omega)]; omega
            have RF : (wr.drew.setCell ⟨b, i * 5 + 4, none⟩ (.slice (some ⟨tg, 0, none⟩) (n - 1) tcap)).ownsRow 0 95 1 (.slice (some ⟨tg, 0, none⟩) (n - 1) tcap) (n - 1) (e.us.take p ++ e.us.drop (p + 1)) := by
              rw [show e.us.length - 1 = n - 1 by omega] at RC
              exact ownsRow_keep RC ob (fun k hk e' => by simp [Value.ownBlock] at hk; exact (unhide HE5).2.2.2.2.2.2.2 (by omega))
            have T0 := ownsRow_keep (unhide HE5).2.1.own oD (fun k hk e' => by simp [Value.ownBlock] at hk; exact (unhide HE5).2.2.2.2.2.2.2 (by omega))
            have TF := gbrowset (i := i * 5 + 4) T0 (.slice (some ⟨tg, 0, none⟩) (n - 1) tcap)
            have hE := (unhide HE5).1
            have imm : ∀ k, GEi e k → ¬ GUp b e k := fun k hk hk' => by
              rcases hk' with hk' | hk'
              · exact (unhide HE5).2.1.bne (unhide HPE).2.2.2.1 k (.inr hk) hk'
              · obtain ⟨c, hc⟩ := ownsRow_has hE.rs hk'
                exact hE.imm hk hc (by decide) (by decide)
            have G' := (unhide HE5).2.1.turnRows (unhide HPE).2.2.2.1 (v' := .slice (some ⟨tg, 0, none⟩) (n - 1) tcap) (us' := e.us.take p ++ e.us.drop (p + 1)) (rows' := e.t.rows.take p ++ e.t.rows.drop (p + 1)) oo TF (by rw [hl']; exact RF) (by rw [hl', cutp_len (by omega), hn]) (fun q x r hx hr => by
              rw [cutp_get (by omega)] at hx hr
              by_cases c1 : q < p
              · rw [if_pos c1] at hx hr
                exact (hE.row q x r hx hr).keep oo (fun k hk => imm k (.inr ⟨x, List.mem_of_getElem? hx, hk⟩))
              · rw [if_neg c1] at hx hr
                exact (hE.row (q + 1) x r hx hr).keep oo (fun k hk => imm k (.inr ⟨x, List.mem_of_getElem? hx, hk⟩))) ((GT.refl _).ok (unhide HIN).2) (fun k hk => by
              simp [Value.ownBlock] at hk
              subst hk
              exact .inl (unhide HE5).2.2.2.2.1)
            have h := unhide HC
            rw [(unhide HIN).1] at h
            simp only [if_true] at h
            cases h
            refine MdP.upd ((unhide HX).1.trans (unhide HO5) (fun _ _ e => e)) ((unhide HX).2.2.1.quiet (unhide HO5)) (unhide HPE).2.2.2.2 (unhide HPE).2.2.2.1 G' rfl (unhide HIN).2 rfl oo ⟨fun k hk => ?_, fun k hk => ?_⟩
            · unfold GEm at hk
              simp [Value.ownBlock] at hk
              subst hk
              exact .inl (unhide HE5).2.2.2.2.1
            · rcases hk with hk | ⟨x, hx, hk⟩
              · exact .inl (.inl hk)
              · exact .inl (.inr ⟨x, by
                  rcases List.mem_append.mp hx with hx | hx
                  · exact List.mem_of_mem_take hx
                  · exact List.mem_of_mem_drop hx, hk⟩))
          have hcI : ((n : Int) - 1) ≤ (tcap : Int) := by omega
          have hn0 : (0 : Int) ≤ (n : Int) - 1 := by omega
          have hn1 : (n : Int) - 1 < (n : Int) := by omega
          clear R oW hS hj p4
          go_upto_region 15 with fail
          go_region
          go_wp2_with fail
          go_ret
          exact unhide HD
  · have d2 : (zc != 0) = true := by simpa using z0
    have HP := hide (unhide HS zc z0 (by unfold delR; rw [unhide HZC, if_pos z0]) w4 (unhide HO4))
    clear z0 k0 k1 k2
    go_wp2_with fail
    go_ret
    exact unhide HP
end
end Go.Proofs.Qxb6500412aGreat
