/-
  OWN WORK. TABLE: Scan by no such column. (written by tools/gen_escn.py)
-/
import Derived.Test.Qxb6500412aGreatERr
import Derived.Test.Qxb6500412aGreatELk
namespace Go.Proofs.Qxb6500412aGreat
open Go.RowKit Go.PlainAid
set_option linter.unusedSimpArgs false
set_option linter.unusedVariables false

section
variable {q : Gnd} {w : World} {x : Nat} {op : Bool} {S S1 : Vu} {T : List (Tb × Hd)} {t : Tb} {h : Hd}
set_option maxRecDepth 100000 in
set_option maxHeartbeats 16000000 in
theorem escan_bad (H : ST q w x op S) (L : Lay S T) (hx : (t, h) ∈ T) (col : Int) (lh hh : Bool) (hb : col < 0 ∨ (t.cols.length : Int) ≤ col ∨ (col ≠ (t.pk : Int) ∧ col ≠ ixI t.ix)) (lv hv : Vl)  (Z : Int) (hZ : scnE t col (bndOf lh lv) (bndOf hh hv) = Z) (RR : List (List Vl)) (hRR : (if scnE t col (bndOf lh lv) (bndOf hh hv) = 0 then scnL t (col).toNat (bndOf lh lv) (bndOf hh hv) else []) = RR) : Calls Tryz.prog 175 #[.pointer (some ⟨x, 0, none⟩), .string t.nm, .int .i64 col, bdA lh lv, bdA hh hv] w fun e w' => ∃ v, e = .returned (.tuple #[v, .int .i64 Z]) ∧ OwnRR w.heap.size w' v RR ∧ ST q w' x op S ∧ Only q.S w w' := by
  have o0 : Only (fun _ => False) w ((w.alloc (.cells #[.bool lh, .bool lv.str, .int .i64 lv.i, .string lv.s] 244)).alloc (.cells #[.bool hh, .bool hv.str, .int .i64 hv.i, .string hv.s] 244)) := ((Only.refl _ w).alloc _).alloc _
  have KL : Has ((w.alloc (.cells #[.bool lh, .bool lv.str, .int .i64 lv.i, .string lv.s] 244)).alloc (.cells #[.bool hh, .bool hv.str, .int .i64 hv.i, .string hv.s] 244)) w.heap.size #[.bool lh, .bool lv.str, .int .i64 lv.i, .string lv.s] 244 := (Has.new w _ _).alloc _
  have KH : Has ((w.alloc (.cells #[.bool lh, .bool lv.str, .int .i64 lv.i, .string lv.s] 244)).alloc (.cells #[.bool hh, .bool hv.str, .int .i64 hv.i, .string hv.s] 244)) (w.heap.size + 1) #[.bool hh, .bool hv.str, .int .i64 hv.i, .string hv.s] 244 := Has.new' _ _ _ _ (by simp)
  have H0 := H.quiet o0
  have CL := hide (eload_yes H0 L hx)
  have ok := L.tb _ hx
  have hf := L.hd _ hx
  have hn : h.n = t.cols.length := hf.n
  have epk : h.pk = t.pk := hf.pk
  have eix : h.ix = t.ix := hf.ix
  have HX := hide (And.intro L (And.intro hx (And.intro epk (And.intro ok (And.intro hZ hRR)))))
  have HE := hide (And.intro hn eix)
  clear L hx ok hn epk eix hZ hRR hf
  unfold bdA
  go_enter Tryz.func175, Tryz.ntmps175
  go_upto_region 1 with fail
  generalize (w.alloc (.cells #[.bool lh, .bool lv.str, .int .i64 lv.i, .string lv.s] 244)).alloc (.cells #[.bool hh, .bool hv.str, .int .i64 hv.i, .string hv.s] 244) = w0 at *
  go_wp2_with fail
  refine (unhide CL).mono ?_
  rintro e w1 ⟨cv, rfl, hoc, nc, st1, o1⟩
  obtain ⟨ca, cc, rfl⟩ := hoc.shape
  have KL1 := KL.keep o1 (H.new (Nat.le_refl _))
  have KH1 := KH.keep o1 (H.new (by omega))
  have I2 := OpI.start (t := t) (h := h) o1.size st1 o1 hoc nc
  have oB : Only (fun _ => False) w1 ((w1.alloc (.cells (hdC h) 275)).alloc (.cells (scC t.nm (.slice ca t.cols.length cc) (t.pk : Int) (ixI t.ix)) 79)) := ((Only.refl _ w1).alloc _).alloc _
  have KL2 := KL1.keep oB (fun e => e)
  have KH2 := KH1.keep oB (fun e => e)
  clear CL hoc nc st1 o1 oB KL1 KH1 KL KH
  unfold hdC scC at I2 KL2 KH2
  unfold hdC scC
  go_upto_region 4 with fail
  generalize (w1.alloc (.cells #[.int .i64 (h.n : Int), .int .i64 (h.pk : Int), .int .i64 (ixI h.ix), .int .i64 (h.rows : Int), .int .i64 (ixI h.idx)] 275)).alloc (.cells #[.string t.nm, .slice ca t.cols.length cc, .int .i64 (t.pk : Int), .int .i64 (ixI t.ix)] 79) = w2 at *
  generalize w1.heap.size = g at *
  have a0 := I2.ha.cell 0
  have a1 := I2.ha.cell 1
  have a2 := I2.ha.cell 2
  have a3 := I2.ha.cell 3
  have a4 := I2.ha.cell 4
  have b0 := I2.hb.cell 0
  have b1 := I2.hb.cell 1
  have b2 := I2.hb.cell 2
  have b3 := I2.hb.cell 3
  simp [hdC] at a0 a1 a2 a3 a4
  simp [scC] at b0 b1 b2 b3
  rw [(unhide HE).1] at a0
  rw [(unhide HX).2.2.1] at a1
  rw [(unhide HE).2] at a2
  by_cases c1 : col < 0 ∨ (t.cols.length : Int) ≤ col
  · by_cases c0 : col < 0
    · have d1 : decide (col < 0) = true := decide_eq_true c0
      have HF := hide (show ST q w2 x op S ∧ Only q.S w w2 ∧ (14 : Int) = Z ∧ [] = RR from by
        have e : scnE t col (bndOf lh lv) (bndOf hh hv) = 14 := by unfold scnE; rw [if_pos c1]
        exact ⟨I2.st, (o0.toS (q := q)).ss I2.on, by rw [← (unhide HX).2.2.2.2.1, e], by rw [← (unhide HX).2.2.2.2.2, e, if_neg (by decide)]⟩)
      clear I2 KL2 KH2
      go_wp2_with fail
      go_ret2
      exact ⟨.slice none 0 0, by rw [← (unhide HF).2.2.1]; rfl, by rw [← (unhide HF).2.2.2]; exact OwnRR.nil _ _, (unhide HF).1, (unhide HF).2.1⟩
    · have d1 : decide (col < 0) = false := decide_eq_false c0
      have d2 : decide (col ≥ (t.cols.length : Int)) = true := decide_eq_true (by omega)
      have d2' : decide ((t.cols.length : Int) ≤ col) = true := decide_eq_true (by omega)
      have HF := hide (show ST q w2 x op S ∧ Only q.S w w2 ∧ (14 : Int) = Z ∧ [] = RR from by
        have e : scnE t col (bndOf lh lv) (bndOf hh hv) = 14 := by unfold scnE; rw [if_pos c1]
        exact ⟨I2.st, (o0.toS (q := q)).ss I2.on, by rw [← (unhide HX).2.2.2.2.1, e], by rw [← (unhide HX).2.2.2.2.2, e, if_neg (by decide)]⟩)
      clear I2 KL2 KH2
      go_wp2_with fail
      go_ret2
      exact ⟨.slice none 0 0, by rw [← (unhide HF).2.2.1]; rfl, by rw [← (unhide HF).2.2.2]; exact OwnRR.nil _ _, (unhide HF).1, (unhide HF).2.1⟩
  · have d1 : decide (col < 0) = false := decide_eq_false (by omega)
    have d2 : decide (col ≥ (t.cols.length : Int)) = false := decide_eq_false (by omega)
    have d2' : decide ((t.cols.length : Int) ≤ col) = false := decide_eq_false (by omega)
    have hb2 : col ≠ (t.pk : Int) ∧ col ≠ ixI t.ix := by
      rcases hb with e | e | e
      · exact absurd (.inl e) c1
      · exact absurd (.inr e) c1
      · exact e
    have d3 : (col != (t.pk : Int)) = true := by simpa using hb2.1
    have d4 : (col != ixI t.ix) = true := by simpa using hb2.2
    have HF := hide (show ST q w2 x op S ∧ Only q.S w w2 ∧ (19 : Int) = Z ∧ [] = RR from by
      have e : scnE t col (bndOf lh lv) (bndOf hh hv) = 19 := by unfold scnE; rw [if_neg c1, if_pos hb2]
      exact ⟨I2.st, (o0.toS (q := q)).ss I2.on, by rw [← (unhide HX).2.2.2.2.1, e], by rw [← (unhide HX).2.2.2.2.2, e, if_neg (by decide)]⟩)
    clear I2 KL2 KH2
    clear hb hb2 c1
    generalize ixI t.ix = X at *
    go_wp2_with fail
    go_ret2
    exact ⟨.slice none 0 0, by rw [← (unhide HF).2.2.1]; rfl, by rw [← (unhide HF).2.2.2]; exact OwnRR.nil _ _, (unhide HF).1, (unhide HF).2.1⟩
end
end Go.Proofs.Qxb6500412aGreat
