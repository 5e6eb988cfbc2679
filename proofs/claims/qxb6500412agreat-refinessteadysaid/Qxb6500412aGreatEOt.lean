/-
  OWN WORK. TABLE: DropTable. (written by tools/gen_eot.py)
-/
import Derived.Test.Qxb6500412aGreatEOb
import Derived.Test.Qxb6500412aGreatELk
namespace Go.Proofs.Qxb6500412aGreat
open Go.RowKit Go.PlainAid
set_option linter.unusedSimpArgs false
set_option linter.unusedVariables false

section
variable {q : Gnd} {w : World} {x : Nat} {op : Bool} {S S1 : Vu} {T : List (Tb × Hd)} {t : Tb} {h : Hd}
/-- One tree dropped, or two. -/
theorem Lay.drop1 (L : Lay S T) (hx : (t, h) ∈ T) : dropS S (h.rows : Int) = (updV S h.rows none, 0) := drop_ok (L.hd _ hx).ok.r8 (L.rows _ hx)
theorem Lay.drop2 (L : Lay S T) (hx : (t, h) ∈ T) {i : Nat} (hi : h.idx = some i) : dropS (updV S h.rows none) (i : Int) = (updV (updV S h.rows none) i none, 0) := by
  obtain ⟨c, h1, h2, h3, h4, h5, h6⟩ := L.both hx hi
  exact drop_ok h4 (by rw [updV_ne _ _ h5]; exact L.idx _ hx c i h1 hi)
theorem Lay.mid1 (L : Lay S T) (hx : (t, h) ∈ T) (hi : h.idx = none) : DMid S T (t, h) 0 (updV S h.rows none) := by
  have hh : hnd (t, h) = [h.rows] := by unfold hnd; show h.rows :: h.idx.toList = _; rw [hi]; rfl
  have r1 : 1 ≤ h.rows := (L.hd _ hx).ok.r1
  refine DMid.start L hx (updV_ne _ _ (by omega)) (fun j hj => ?_) (fun j hj => ?_)
  · rw [hh] at hj
    have : j = h.rows := by simpa using hj
    rw [this]; exact updV_at _ _ _
  · rw [hh] at hj
    exact updV_ne _ _ (by simpa using hj)
theorem Lay.mid2 (L : Lay S T) (hx : (t, h) ∈ T) {i : Nat} (hi : h.idx = some i) : DMid S T (t, h) 0 (updV (updV S h.rows none) i none) := by
  have hh : hnd (t, h) = [h.rows, i] := by unfold hnd; show h.rows :: h.idx.toList = _; rw [hi]; rfl
  have r1 : 1 ≤ h.rows := (L.hd _ hx).ok.r1
  obtain ⟨c, h1, h2, h3, h4, h5, h6⟩ := L.both hx hi
  refine DMid.start L hx (by rw [updV_ne _ _ (by omega), updV_ne _ _ (by omega)]) (fun j hj => ?_) (fun j hj => ?_)
  · rw [hh] at hj
    by_cases d : j = i
    · rw [d]; exact updV_at _ _ _
    · rw [updV_ne _ _ d]
      have : j = h.rows := by simpa [d] using hj
      rw [this]; exact updV_at _ _ _
  · rw [hh] at hj
    have hj' : j ≠ h.rows ∧ j ≠ i := by simpa using hj
    rw [updV_ne _ _ hj'.2, updV_ne _ _ hj'.1]
set_option maxRecDepth 100000 in
set_option maxHeartbeats 8000000 in
theorem edropT_in (H : ST q w x true S) (L : Lay S T) (hx : (t, h) ∈ T) : Calls Tryz.prog 168 #[.pointer (some ⟨x, 0, none⟩), .string t.nm] w fun e w' => e = .returned (.int .i64 0) ∧ (∃ S', ST q w' x true S' ∧ Lay S' (T.filter (fun y => decide (y.1.nm ≠ t.nm)))) ∧ Only q.S w w' := by
  have CL := hide (eloadTxn_yes H L hx)
  have ok := L.tb _ hx
  have CK := hide (fun i (hi : i < 256) w => ecatKey_any t.nm i ok.nm.2 hi w)
  have hn : h.n = t.cols.length := (L.hd _ hx).n
  have n3 := ok.n3
  have HX := hide (And.intro L (And.intro hx (And.intro hn ok)))
  have H0 := H
  clear L hx ok H hn
  go_enter Tryz.func168, Tryz.ntmps168
  go_wp2_with fail
  refine (unhide CL).mono ?_
  rintro e w1 ⟨cv, rfl, hoc, nc, st1, o1⟩
  obtain ⟨ca, cc, rfl⟩ := hoc.shape
  have I2 := OpI.start (t := t) (h := h) o1.size st1 o1 hoc nc
  clear CL hoc nc st1 o1
  unfold hdC scC at I2
  unfold hdC scC
  go_upto_region 4 with fail
  generalize (w1.alloc (.cells #[.int .i64 (h.n : Int), .int .i64 (h.pk : Int), .int .i64 (ixI h.ix), .int .i64 (h.rows : Int), .int .i64 (ixI h.idx)] 275)).alloc (.cells #[.string t.nm, .slice ca t.cols.length cc, .int .i64 (t.pk : Int), .int .i64 (ixI t.ix)] 79) = w2 at *
  generalize w1.heap.size = g at *
  have a0 := I2.ha.cell 0
  have a1 := I2.ha.cell 1
  have a2 := I2.ha.cell 2
  have a3 := I2.ha.cell 3
  have a4 := I2.ha.cell 4
  have b0 := I2.hb.cell 0
  have b1 := I2.hb.cell 1
  have b2 := I2.hb.cell 2
  have b3 := I2.hb.cell 3
  simp [hdC] at a0 a1 a2 a3 a4
  simp [scC] at b0 b1 b2 b3
  have CP := hide (edrop_any (I2.st.quiet ((Only.refl _ w2).drew)) ((unhide HX).1.drop1 (unhide HX).2.1))
  have HI := hide I2
  have xc := I2.st.c0
  clear I2
  go_upto_region 4 with fail
  go_cut [8] (fun gv wx => gv = .int .i64 0 ∧ ST q wx x true (updV S h.rows none) ∧ Only q.S w2 wx)
  case first =>
    go_region_with (go_at_call 241; refine (unhide CP).mono ?_; rintro e w9 ⟨rfl, st9, o9⟩; have HF := hide (And.intro st9 ((Only.refl q.S w2).drew.ss o9)); clear st9 o9)
    all_goals
      go_wp2_with fail
      go_meet
      exact ⟨rfl, unhide HF⟩
  case rest =>
  obtain ⟨rfl, st9, o9⟩ := hcut
  generalize wc = w3 at *
  clear a0 a1 a2 a3 a4 b0 b1 b2 b3 xc CP
  have I9 := (unhide HI).go H0 st9 o9
  clear HI st9 o9
  have CFo := hide (efold_ok w3)
  have HI := hide I9
  clear I9
  go_wp2_with fail
  refine (unhide CFo).mono ?_
  rintro e wf ⟨rfl, rfl⟩
  have I9 := unhide HI
  clear HI CFo
  have a0 := I9.ha.cell 0
  have a1 := I9.ha.cell 1
  have a2 := I9.ha.cell 2
  have a3 := I9.ha.cell 3
  have a4 := I9.ha.cell 4
  have b0 := I9.hb.cell 0
  have b1 := I9.hb.cell 1
  have b2 := I9.hb.cell 2
  have b3 := I9.hb.cell 3
  simp [hdC] at a0 a1 a2 a3 a4
  simp [scC] at b0 b1 b2 b3
  have HM : ∃ R, DMid S T (t, h) 0 R ∧ (h.idx = none → R = updV S h.rows none) ∧ (∀ i, h.idx = some i → dropS (updV S h.rows none) (i : Int) = (R, 0)) := by
    cases hi : h.idx with
    | none => exact ⟨_, (unhide HX).1.mid1 (unhide HX).2.1 hi, (fun _ => rfl), (fun i e => nomatch e)⟩
    | some i => exact ⟨_, (unhide HX).1.mid2 (unhide HX).2.1 hi, (fun e => nomatch e), (fun j e => by cases e; exact (unhide HX).1.drop2 (unhide HX).2.1 hi)⟩
  obtain ⟨R, hM, hR1, hR2⟩ := HM
  have HM := hide (And.intro hM (And.intro hR1 hR2))
  clear hM hR1 hR2
  go_upto_region 6 with fail
  cases hi : h.idx with
  | none =>
    obtain rfl := (unhide HM).2.1 hi
    rw [hi] at a4
    simp only [ixI] at a4
    have I5 := I9
    clear I9
    have HI0 := hide I5
    clear I5
    go_upto_region 10 with fail
    clear a0 a1 a2 a3 a4 b0 b1 b2 b3 
    go_loopw [7, 8, 9, 10] (fun ev gv iv kv wr => ∃ (i : Nat) (R : Vu), ev = .int .i64 0 ∧ iv = .int .i64 i ∧ i ≤ 1 + t.cols.length ∧ DMid S T (t, h) i R ∧ OpI q w x true R t h g (g + 1) (.slice ca t.cols.length cc) wr) (fun _ _ iv _ _ => 2 + t.cols.length - (intOf iv).toNat)
    case atStart => exact ⟨0, _, rfl, rfl, Nat.zero_le _, (unhide HM).1, unhide HI0⟩
    case round =>
      clear HI0
      obtain ⟨i, R2, rfl, rfl, hi, M, I⟩ := hrel
      have a0 := I.ha.cell 0
      simp [hdC] at a0
      rw [(unhide HX).2.2.1] at a0
      by_cases hi2 : i ≤ t.cols.length
      · have a1 : decide ((i : Int) ≤ (t.cols.length : Int)) = true := decide_eq_true (by omega)
        have a1n : decide (i ≤ t.cols.length) = true := decide_eq_true (by omega)
        obtain ⟨R3, hd3, M3⟩ := M.step (unhide HX).1 (unhide HX).2.1 hi2
        have hd3 : delS R2 0 (catK t.nm i) = (R3, 0) := hd3
        have CK1 := hide (unhide CK i (by omega) wr)
        have HI := hide I
        have HM3 := hide (And.intro hd3 M3)
        clear I M hd3 M3
        go_wp2_with fail
        refine (unhide CK1).mono ?_
        rintro e w6 ⟨rfl, o6⟩
        have I6 := (unhide HI).quiet o6
        have CD := hide (edelt_any I6.st (unhide HM3).1)
        have xc := I6.st.c0
        have HI6 := hide I6
        clear I6 HI CK1 o6 a0
        generalize catK t.nm i = K at *
        go_wp2_with fail
        refine (unhide CD).mono ?_
        rintro e w7 ⟨rfl, st7, o7⟩
        have I7 := (unhide HI6).go H0 st7 o7
        have HI7 := hide I7
        have CFo := hide (efold_ok w7)
        clear I7 HI6 CD xc st7 o7
        go_wp2_with fail
        refine (unhide CFo).mono ?_
        rintro e wf ⟨rfl, rfl⟩
        clear CFo
        go_wp2_with fail
        go_roundw
        case rel => exact ⟨i + 1, R3, rfl, by go_num, by omega, (unhide HM3).2, unhide HI7⟩
        case measure => simp [intOf]; omega
      · obtain rfl : i = 1 + t.cols.length := by omega
        have a1 : decide (((1 + t.cols.length : Nat) : Int) ≤ (t.cols.length : Int)) = false := decide_eq_false (by omega)
        have a1n : decide (1 + t.cols.length ≤ t.cols.length) = false := decide_eq_false (by omega)
        have a1m : decide (1 + (t.cols.length : Int) ≤ (t.cols.length : Int)) = false := decide_eq_false (by omega)
        have HF := hide (show (∃ S', ST q wr x true S' ∧ Lay S' (T.filter (fun y => decide (y.1.nm ≠ t.nm)))) ∧ Only q.S w wr from ⟨⟨R2, I.st, M.done (unhide HX).1 (unhide HX).2.1⟩, I.on⟩)
        clear I M
        go_wp2_with fail
        go_ret
        exact ⟨rfl, unhide HF⟩
  | some ib =>
    rw [hi] at a4
    simp only [ixI] at a4
    have bi : decide ((ib : Int) ≥ 0) = true := decide_eq_true (by omega)
    have bi' : decide (0 ≤ (ib : Int)) = true := decide_eq_true (by omega)
    have hdr := (unhide HM).2.2 ib hi
    have HDR := hide hdr
    clear hdr hi
    have CP := hide (edrop_any (I9.st.quiet ((Only.refl _ w3).drew)) (unhide HDR))
    have HI := hide I9
    have xc := I9.st.c0
    clear I9
    go_upto_region 7 with fail
    go_cut [8] (fun gv wx => gv = .int .i64 0 ∧ ST q wx x true R ∧ Only q.S w3 wx)
    case first =>
      go_region_with (go_at_call 241; refine (unhide CP).mono ?_; rintro e w9 ⟨rfl, st9, o9⟩; have HF := hide (And.intro st9 ((Only.refl q.S w3).drew.ss o9)); clear st9 o9)
      all_goals
        go_wp2_with fail
        go_meet
        exact ⟨rfl, unhide HF⟩
    case rest =>
    obtain ⟨rfl, st9, o9⟩ := hcut
    generalize wc = w4 at *
    clear a0 a1 a2 a3 a4 b0 b1 b2 b3 xc CP
    have I9 := (unhide HI).go H0 st9 o9
    clear HI st9 o9
    have CFo := hide (efold_ok w4)
    have HI := hide I9
    clear I9
    go_wp2_with fail
    refine (unhide CFo).mono ?_
    rintro e wf ⟨rfl, rfl⟩
    have I9 := unhide HI
    clear HI CFo
    have HI0 := hide I9
    clear I9
    go_upto_region 10 with fail
    skip
    go_loopw [7, 8, 9, 10] (fun ev gv iv kv wr => ∃ (i : Nat) (R : Vu), ev = .int .i64 0 ∧ iv = .int .i64 i ∧ i ≤ 1 + t.cols.length ∧ DMid S T (t, h) i R ∧ OpI q w x true R t h g (g + 1) (.slice ca t.cols.length cc) wr) (fun _ _ iv _ _ => 2 + t.cols.length - (intOf iv).toNat)
    case atStart => exact ⟨0, _, rfl, rfl, Nat.zero_le _, (unhide HM).1, unhide HI0⟩
    case round =>
      clear HI0
      obtain ⟨i, R2, rfl, rfl, hi, M, I⟩ := hrel
      have a0 := I.ha.cell 0
      simp [hdC] at a0
      rw [(unhide HX).2.2.1] at a0
      by_cases hi2 : i ≤ t.cols.length
      · have a1 : decide ((i : Int) ≤ (t.cols.length : Int)) = true := decide_eq_true (by omega)
        have a1n : decide (i ≤ t.cols.length) = true := decide_eq_true (by omega)
        obtain ⟨R3, hd3, M3⟩ := M.step (unhide HX).1 (unhide HX).2.1 hi2
        have hd3 : delS R2 0 (catK t.nm i) = (R3, 0) := hd3
        have CK1 := hide (unhide CK i (by omega) wr)
        have HI := hide I
        have HM3 := hide (And.intro hd3 M3)
        clear I M hd3 M3
        go_wp2_with fail
        refine (unhide CK1).mono ?_
        rintro e w6 ⟨rfl, o6⟩
        have I6 := (unhide HI).quiet o6
        have CD := hide (edelt_any I6.st (unhide HM3).1)
        have xc := I6.st.c0
        have HI6 := hide I6
        clear I6 HI CK1 o6 a0
        generalize catK t.nm i = K at *
        go_wp2_with fail
        refine (unhide CD).mono ?_
        rintro e w7 ⟨rfl, st7, o7⟩
        have I7 := (unhide HI6).go H0 st7 o7
        have HI7 := hide I7
        have CFo := hide (efold_ok w7)
        clear I7 HI6 CD xc st7 o7
        go_wp2_with fail
        refine (unhide CFo).mono ?_
        rintro e wf ⟨rfl, rfl⟩
        clear CFo
        go_wp2_with fail
        go_roundw
        case rel => exact ⟨i + 1, R3, rfl, by go_num, by omega, (unhide HM3).2, unhide HI7⟩
        case measure => simp [intOf]; omega
      · obtain rfl : i = 1 + t.cols.length := by omega
        have a1 : decide (((1 + t.cols.length : Nat) : Int) ≤ (t.cols.length : Int)) = false := decide_eq_false (by omega)
        have a1n : decide (1 + t.cols.length ≤ t.cols.length) = false := decide_eq_false (by omega)
        have a1m : decide (1 + (t.cols.length : Int) ≤ (t.cols.length : Int)) = false := decide_eq_false (by omega)
        have HF := hide (show (∃ S', ST q wr x true S' ∧ Lay S' (T.filter (fun y => decide (y.1.nm ≠ t.nm)))) ∧ Only q.S w wr from ⟨⟨R2, I.st, M.done (unhide HX).1 (unhide HX).2.1⟩, I.on⟩)
        clear I M
        go_wp2_with fail
        go_ret
        exact ⟨rfl, unhide HF⟩
end
end Go.Proofs.Qxb6500412aGreat
