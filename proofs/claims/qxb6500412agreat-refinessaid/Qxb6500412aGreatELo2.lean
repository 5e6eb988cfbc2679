/-
  OWN WORK. TABLE: load of a table that is there; loadTxn, SchemaOf.
-/
import Derived.Test.Qxb6500412aGreatELo
import Derived.Test.Qxb6500412aGreatERg
namespace Go.Proofs.Qxb6500412aGreat
open Go.RowKit Go.PlainAid
set_option linter.unusedSimpArgs false
set_option linter.unusedVariables false

def scC (nm : ByteArray) (cv : Value) (pk ix : Int) : Array Value := #[.string nm, cv, .int .i64 pk, .int .i64 ix]
section
variable {q : Gnd} {w : World} {x : Nat} {op : Bool} {S : Vu} {T : List (Tb × Hd)} {t : Tb} {h : Hd}
/-- The columns are being read. -/
structure LdI (q : Gnd) (w : World) (x : Nat) (op : Bool) (S : Vu) (a b d g : Nat) (h : Hd) (c : List Cl) (i : Nat) (wr : World) : Prop where
  o : LdO q w x op S a b wr
  hd : Has wr d (hdC h) 275
  cw : CwI c g i wr
  dl : w.heap.size ≤ d
  gl : w.heap.size ≤ g
  da : d ≠ a
  gab : g ≠ a ∧ g ≠ b ∧ g ≠ d
theorem LdI.go {a b d g i : Nat} {c : List Cl} {wr w' : World} (H : ST q w x op S) (I : LdI q w x op S a b d g h c i wr) (st : ST q w' x op S) (o : Only q.S wr w') : LdI q w x op S a b d g h c i w' :=
  ⟨I.o.go H st o, I.hd.keep o (H.new I.dl), I.cw.keep o (H.new I.gl), I.dl, I.gl, I.da, I.gab⟩
theorem LdI.quiet {a b d g i : Nat} {c : List Cl} {wr w' : World} (I : LdI q w x op S a b d g h c i wr) (o : Only (fun _ => False) wr w') : LdI q w x op S a b d g h c i w' :=
  ⟨I.o.quiet o, I.hd.keep o (fun e => e), I.cw.keep o (fun e => e), I.dl, I.gl, I.da, I.gab⟩
theorem LdI.step {a b d g i : Nat} {c : List Cl} {v : Cl} {wr : World} (H : ST q w x op S) (I : LdI q w x op S a b d g h c i wr) (hv : c[i]? = some v) : LdI q w x op S a b d g h c (i + 1) ((wr.setCell ⟨g, i * 2, none⟩ (.string v.1)).setCell ⟨g, i * 2 + 1, none⟩ (.bool v.2)) := by
  have oo : Only (fun k => k = g) wr ((wr.setCell ⟨g, i * 2, none⟩ (.string v.1)).setCell ⟨g, i * 2 + 1, none⟩ (.bool v.2)) := (only1 _ _).trans (only1 _ _) (fun _ _ h => h)
  have hA := H.fv.Alt
  have hx := H.has.lt
  have gl := I.gl
  refine ⟨⟨I.o.st.keep oo (fun k hk e => ?_), I.o.on.trans oo (fun k hk e => by omega), I.o.ha.keep oo (fun e => I.gab.1 e.symm), I.o.hb.keep oo (fun e => I.gab.2.1 e.symm), I.o.al, I.o.bl⟩, I.hd.keep oo (fun e => I.gab.2.2 e.symm), I.cw.step hv, I.dl, I.gl, I.da, I.gab⟩
  rcases hk with d | d
  · have := hA k d; omega
  · omega
theorem LdI.done {a b d g : Nat} {c : List Cl} {wr : World} (H : ST q w x op S) (I : LdI q w x op S a b d g h c c.length wr) (hl : c.length ≤ 1000) (hn : h.n = c.length) (nm : ByteArray) (pk ix : Int) : ∃ w', w' = (((((((((wr.setCell ⟨a, 0, none⟩ (.int .i64 (c.length : Int))).setCell ⟨a, 1, none⟩ (.int .i64 (h.pk : Int))).setCell ⟨a, 2, none⟩ (.int .i64 (ixI h.ix))).setCell ⟨a, 3, none⟩ (.int .i64 (h.rows : Int))).setCell ⟨a, 4, none⟩ (.int .i64 (ixI h.idx))).setCell ⟨b, 0, none⟩ (.string nm)).setCell ⟨b, 1, none⟩ (.slice (some ⟨g, 0, none⟩) c.length c.length)).setCell ⟨b, 2, none⟩ (.int .i64 pk)).setCell ⟨b, 3, none⟩ (.int .i64 ix)).drew ∧ Has w' a (hdC h) 275 ∧ Has w' b (scC nm (.slice (some ⟨g, 0, none⟩) c.length c.length) pk ix) 79 ∧ OwnC w' (.slice (some ⟨g, 0, none⟩) c.length c.length) c ∧ ST q w' x op S ∧ Only q.S w w' := by
  have hne : b ≠ a := I.o.hb.ne I.o.ha (by decide)
  have hA := H.fv.Alt
  have hx := H.has.lt
  have al := I.o.al
  have bl := I.o.bl
  have D := CwI.done I.cw hl
  have ha := I.o.ha
  have hb := I.o.hb
  have st := I.o.st
  have on := I.o.on
  have gab := I.gab
  have oo1 : Only (fun k => k = a ∨ k = b) wr _ := (((((((((Only.refl (fun k => k = a ∨ k = b) wr).setCell (p := ⟨a, 0, none⟩) (fun _ => .inl rfl) (.int .i64 (c.length : Int))).setCell (p := ⟨a, 1, none⟩) (fun _ => .inl rfl) (.int .i64 (h.pk : Int))).setCell (p := ⟨a, 2, none⟩) (fun _ => .inl rfl) (.int .i64 (ixI h.ix))).setCell (p := ⟨a, 3, none⟩) (fun _ => .inl rfl) (.int .i64 (h.rows : Int))).setCell (p := ⟨a, 4, none⟩) (fun _ => .inl rfl) (.int .i64 (ixI h.idx))).setCell (p := ⟨b, 0, none⟩) (fun _ => .inr rfl) (.string nm)).setCell (p := ⟨b, 1, none⟩) (fun _ => .inr rfl) (.slice (some ⟨g, 0, none⟩) c.length c.length)).setCell (p := ⟨b, 2, none⟩) (fun _ => .inr rfl) (.int .i64 pk)).setCell (p := ⟨b, 3, none⟩) (fun _ => .inr rfl) (.int .i64 ix)
  have oo1 := oo1.drew
  have hdE : hdC h = #[.int .i64 (c.length : Int), .int .i64 (h.pk : Int), .int .i64 (ixI h.ix), .int .i64 (h.rows : Int), .int .i64 (ixI h.idx)] := by unfold hdC; rw [hn]
  rw [hdE]
  refine ⟨_, rfl, ?_, ?_, ?_, ?_, ?_⟩
  · exact Has.drew (((((((((ha.setCell 0 _).setCell 1 _).setCell 2 _).setCell 3 _).setCell 4 _).setCell_other (p := ⟨b, 0, none⟩) (fun e => hne e.symm) _).setCell_other (p := ⟨b, 1, none⟩) (fun e => hne e.symm) _).setCell_other (p := ⟨b, 2, none⟩) (fun e => hne e.symm) _).setCell_other (p := ⟨b, 3, none⟩) (fun e => hne e.symm) _)
  · exact Has.drew (((((((((hb.setCell_other (p := ⟨a, 0, none⟩) hne _).setCell_other (p := ⟨a, 1, none⟩) hne _).setCell_other (p := ⟨a, 2, none⟩) hne _).setCell_other (p := ⟨a, 3, none⟩) hne _).setCell_other (p := ⟨a, 4, none⟩) hne _).setCell 0 _).setCell 1 _).setCell 2 _).setCell 3 _)
  · refine D.keep oo1 (fun k hk e => ?_)
    simp [Value.ownBlock] at hk
    subst hk
    rcases e with e | e
    · exact gab.1 e
    · exact gab.2.1 e
  · refine st.keep oo1 (fun k hk e => ?_)
    rcases hk with d | d
    · have := hA k d; omega
    · omega
  · exact on.trans oo1 (fun k hk e => by omega)
set_option maxRecDepth 100000 in
set_option maxHeartbeats 4000000 in
theorem eload_yes (H : ST q w x op S) (L : Lay S T) (hx : (t, h) ∈ T) : Calls Tryz.prog 199 #[.pointer (some ⟨x, 0, none⟩), .string t.nm] w fun e w' => ∃ cv, e = .returned (.tuple #[.agg (hdC h), .agg (scC t.nm cv (t.pk : Int) (ixI t.ix)), .int .i64 0]) ∧ OwnC w' cv t.cols ∧ Newer w cv ∧ ST q w' x op S ∧ Only q.S w w' := by
  have O0 := LdO.start H
  have ok := L.tb _ hx
  have hf := L.hd _ hx
  have CG := eGoodName_any t.nm ((w.alloc (.cells hdZ 275)).alloc (.cells scZ 79))
  rw [decide_eq_true ok.nm] at CG
  have CG := hide CG
  have CK := hide (fun i (hi : i < 256) w => ecatKey_any t.nm i ok.nm.2 hi w)
  have CK0 := hide (ecatKey_any t.nm 0 ok.nm.2 (by omega) ((w.alloc (.cells hdZ 275)).alloc (.cells scZ 79)))
  have HH := hide H
  have HO := hide O0
  have CGet0 := hide (fun w1 (H1 : ST q w1 x op S) => show Calls Tryz.prog 283 #[.pointer (some ⟨q.f, 0, none⟩), .int .i64 0, .string (catK t.nm 0)] w1 fun e w' => e = .returned (.tuple #[.string (hdT h), .int .i64 0]) ∧ ST q w' x op S ∧ Only q.S w1 w' from by
    have := eget_any H1 0 (catK t.nm 0)
    rw [L.getCat hx (i := 0) (Nat.zero_le _)] at this
    exact this)
  have CGet := hide (fun i c (hc : t.cols[i]? = some c) w1 (H1 : ST q w1 x op S) => show Calls Tryz.prog 283 #[.pointer (some ⟨q.f, 0, none⟩), .int .i64 0, .string (catK t.nm (1 + i))] w1 fun e w' => e = .returned (.tuple #[.string (colT c), .int .i64 0]) ∧ ST q w' x op S ∧ Only q.S w1 w' from by
    have := eget_any H1 0 (catK t.nm (1 + i))
    have hi := (List.getElem?_eq_some_iff.mp hc).1
    rw [L.getCat hx (i := 1 + i) (by show 1 + i ≤ t.cols.length; omega)] at this
    have e : part (t, h) (1 + i) = colT c := by
      unfold part
      rw [if_neg (by omega), show 1 + i - 1 = i by omega]
      show colT (t.cols[i]?.getD _) = _
      rw [hc]
      rfl
    rw [e] at this
    exact this)
  have CHd := hide (fun w => eheadOf_any h hf.ok w)
  have CCol := hide (fun i c (hc : t.cols[i]? = some c) w => ecolOf_any c (ok.cols.2.1 c (List.mem_of_getElem? hc)) w)
  have n3 := ok.n3
  have n1 := ok.n1
  have en : h.n = t.cols.length := hf.n
  have HEq := hide (And.intro hf.pk hf.ix)
  clear O0 ok hf hx L
  generalize hnm : t.nm = nm at *
  generalize hcs : t.cols = cs at *
  have nI : (cs.length : Int) ≤ 3 := by omega
  have hdE : hdC h = #[.int .i64 (cs.length : Int), .int .i64 (h.pk : Int), .int .i64 (ixI h.ix), .int .i64 (h.rows : Int), .int .i64 (ixI h.idx)] := by unfold hdC; rw [en]
  unfold hdZ scZ at CG CK0
  go_enter Tryz.func199, Tryz.ntmps199
  go_wp2_with fail
  refine (unhide CG).mono ?_
  rintro e w1 ⟨rfl, rfl⟩
  go_wp2_with fail
  refine (unhide CK0).mono ?_
  rintro e w1 ⟨rfl, o1⟩
  have O1 := (unhide HO).quiet o1
  have c1 := O1.st.c0
  have CGet1 := hide (unhide CGet0 w1 O1.st)
  have HO1 := hide O1
  clear O1 o1 HO CG CK0 CGet0
  go_wp2_with fail
  refine (unhide CGet1).mono ?_
  rintro e w2 ⟨rfl, st2, o2⟩
  have O2 := (unhide HO1).go (unhide HH) st2 o2
  have CHd2 := hide (unhide CHd w2)
  have HO2 := hide O2
  clear O2 o2 HO1 CGet1 st2 c1 CHd
  go_wp2_with fail
  refine (unhide CHd2).mono ?_
  rintro e w3 ⟨rfl, o3⟩
  unfold hdA
  have O3 := (unhide HO2).quiet o3
  have sz3 := O3.on.size
  have O4 := O3.quiet ((Only.refl _ w3).alloc (.cells (hdC h) 275))
  have D4 := Has.new w3 (hdC h) 275
  obtain ⟨cur0, hcur, hmk⟩ := run_make_cols (w3.alloc (.cells (hdC h) 275)) cs.length (by omega)
  have O5 := O4.quiet ((Only.refl _ _).alloc (.cells cur0 149))
  have D5 : Has ((w3.alloc (.cells (hdC h) 275)).alloc (.cells cur0 149)) w3.heap.size (hdC h) 275 := D4.alloc _
  have G5 : Has ((w3.alloc (.cells (hdC h) 275)).alloc (.cells cur0 149)) (w3.heap.size + 1) cur0 149 := Has.new' _ _ _ _ (by simp)
  have al := O3.ha.lt
  have bl := O3.hb.lt
  have I0 : LdI q w x op S w.heap.size (w.heap.size + 1) w3.heap.size (w3.heap.size + 1) h cs 0 ((w3.alloc (.cells (hdC h) 275)).alloc (.cells cur0 149)) :=
    ⟨O5, D5, ⟨cur0, hcur, G5, fun j hj => by omega⟩, sz3, by omega, by omega, by omega, by omega, by omega⟩
  have DD := D5
  rw [hdE] at DD hmk
  have HI := I0
  rw [hdE] at HI
  have HI := hide (And.intro HI DD)
  clear DD
  simp only [World.size_alloc] at hmk
  rw [en]
  clear O3 O4 O5 D4 D5 G5 I0 HO2 CHd2 o3 hcur
  go_upto_region 12 with fail
  generalize (w3.alloc (.cells #[.int .i64 (cs.length : Int), .int .i64 (h.pk : Int), .int .i64 (ixI h.ix), .int .i64 (h.rows : Int), .int .i64 (ixI h.idx)] 275)).alloc (.cells cur0 149) = w4 at *
  generalize hd' : w3.heap.size = d at *
  clear hd' hmk
  have HEn := hide en
  clear en hnm hcs hdE
  have sz3' : w.heap.size ≤ d := sz3
  go_loopw [7, 8, 9, 11, 13] (fun kv vv ev okv cv wr => ∃ i : Nat, cv = .int .i64 i ∧ i ≤ cs.length ∧ LdI q w x op S w.heap.size (w.heap.size + 1) d (d + 1) h cs i wr ∧ Has wr d #[.int .i64 (cs.length : Int), .int .i64 (h.pk : Int), .int .i64 (ixI h.ix), .int .i64 (h.rows : Int), .int .i64 (ixI h.idx)] 275) (fun _ _ _ _ cv _ => cs.length - (intOf cv).toNat)
  case atStart => exact ⟨0, rfl, Nat.zero_le _, (unhide HI).1, (unhide HI).2⟩
  case round =>
    clear HI al bl sz3
    obtain ⟨i, rfl, hi, I, D⟩ := hrel
    have d0 := D.cell 0
    simp at d0
    by_cases hi2 : i < cs.length
    · have a1 : decide ((i : Int) < (cs.length : Int)) = true := decide_eq_true (by omega)
      have a1p : (i : Int) < (cs.length : Int) := by omega
      obtain ⟨c, hc⟩ := getE hi2
      have i1 : (1 : Int) + (i : Int) = ((1 + i : Nat) : Int) := by omega
      have CK1 := unhide CK (1 + i) (by omega) wr
      rw [← i1] at CK1
      have CK1 := hide CK1
      have CGt := hide (unhide CGet i c hc)
      have CC := fun w => unhide CCol i c hc w
      unfold colA at CC
      have CC := hide CC
      have HI := hide (And.intro I D)
      have HSt := hide (fun (wr : World) (I : LdI q w x op S w.heap.size (w.heap.size + 1) d (d + 1) h cs i wr) => I.step (unhide HH) hc)
      clear I D hc CK CGet CCol i1
      go_wp2_with fail
      refine (unhide CK1).mono ?_
      rintro e w5 ⟨rfl, o5⟩
      have I5 := (unhide HI).1.quiet o5
      have c1 := I5.o.st.c0
      have CGt1 := hide (unhide CGt w5 I5.o.st)
      have HI5 := hide (And.intro I5 ((unhide HI).2.keep o5 (fun e => e)))
      generalize catK nm (1 + i) = K at *
      clear I5 o5 HI CK1 CGt
      go_wp2_with fail
      refine (unhide CGt1).mono ?_
      rintro e w6 ⟨rfl, st6, o6⟩
      have I6 := (unhide HI5).1.go (unhide HH) st6 o6
      have D6 := (unhide HI5).2.keep o6 ((unhide HH).new sz3')
      have CC1 := hide (unhide CC w6)
      have HI6 := hide (And.intro I6 D6)
      clear I6 D6 o6 st6 HI5 CGt1 CC c1
      go_wp2_with fail
      refine (unhide CC1).mono ?_
      rintro e w7 ⟨rfl, o7⟩
      have I7 := (unhide HI6).1.quiet o7
      have D7 := (unhide HI6).2.keep o7 (fun e => e)
      obtain ⟨z0, z1, y0, y1, f0, f1⟩ := I7.cw.cells hi2
      have HF := hide (unhide HSt w7 I7)
      have HD := hide (D7.keep ((only1 (w := w7) (p := d + 1) (i * 2) (.string c.1)).trans (only1 (p := d + 1) (i * 2 + 1) (.bool c.2)) (fun _ _ h => h)) (fun e => by omega))
      clear I7 D7 o7 HI6 CC1 HSt
      go_wp2_with fail
      go_roundw
      case rel => exact ⟨i + 1, by go_num, by omega, unhide HF, unhide HD⟩
      case measure => simp [intOf]; omega
    · obtain rfl : i = cs.length := by omega
      have a1 : decide ((cs.length : Int) < (cs.length : Int)) = false := by simp
      have d1 := D.cell 1
      have d2 := D.cell 2
      have d3 := D.cell 3
      have d4 := D.cell 4
      simp at d1 d2 d3 d4
      have HI8 := hide I
      have HDD := hide D
      have ne1 : d ≠ w.heap.size := I.da
      have ne2 : d ≠ w.heap.size + 1 := D.ne I.o.hb (by decide)
      have ne3 : w.heap.size + 1 ≠ w.heap.size := by omega
      clear d1 d2 d3 d4 I D CK CGet CCol
      go_upto_region 19 with fail
      refine wp_region_held_drew (S := (fun w' => Has w' d #[.int .i64 (cs.length : Int), .int .i64 (h.pk : Int), .int .i64 (ixI h.ix), .int .i64 (h.rows : Int), .int .i64 (ixI h.idx)] 275)) (by kernel_rfl) (unhide HDD).drew (fun hH0 => ?_)
      refine takeH 0 85 rfl rfl (by kernel_rfl) (by kernel_rfl) (by kernel_rfl) (fun _ _ _ h => h) (yieldsIf_load_hd (by rfl) _ rfl d rfl #[.int .i64 (cs.length : Int), .int .i64 (h.pk : Int), .int .i64 (ixI h.ix), .int .i64 (h.rows : Int), .int .i64 (ixI h.idx)] rfl (fun _ h => h)) hH0 ?rd1
      case rd1 =>
      try simp only [Act.put, List.setIfInBounds_toArray, List.set_cons_zero, List.set_cons_succ]
      refine takeH 1 86 (v := ?vd2) rfl rfl (by kernel_rfl) (by kernel_rfl) (by kernel_rfl) (fun _ _ _ h => h) (Or.inl ⟨by rfl, ?hd2⟩) hH0 ?rd2
      case hd2 => (intro w hSw; clear hSw; go_simp; (try with_reducible rfl))
      case rd2 =>
      try simp only [Act.put, List.setIfInBounds_toArray, List.set_cons_zero, List.set_cons_succ]
      refine takeH 2 87 (v := ?vd3) rfl rfl (by kernel_rfl) (by kernel_rfl) (by kernel_rfl) (fun _ _ _ h => h) (Or.inl ⟨by rfl, ?hd3⟩) hH0 ?rd3
      case hd3 => (intro w hSw; clear hSw; go_simp; (try with_reducible rfl))
      case rd3 =>
      try simp only [Act.put, List.setIfInBounds_toArray, List.set_cons_zero, List.set_cons_succ]
      refine takeH 3 88 (v := ?vd4) rfl rfl (by kernel_rfl) (by kernel_rfl) (by kernel_rfl) (fun _ _ _ h => h) (Or.inl ⟨by rfl, ?hd4⟩) hH0 ?rd4
      case hd4 => (intro w hSw; clear hSw; go_simp; (try with_reducible rfl))
      case rd4 =>
      try simp only [Act.put, List.setIfInBounds_toArray, List.set_cons_zero, List.set_cons_succ]
      refine takeH 4 89 (v := ?vd5) rfl rfl (by kernel_rfl) (by kernel_rfl) (by kernel_rfl) (fun _ _ _ h => h) (Or.inl ⟨by rfl, ?hd5⟩) hH0 ?rd5
      case hd5 => (intro w hSw; have q1 := Has.cell hSw 1; have q2 := Has.cell hSw 2; simp at q1 q2; clear hSw; go_simp; (try with_reducible rfl))
      case rd5 =>
      try simp only [Act.put, List.setIfInBounds_toArray, List.set_cons_zero, List.set_cons_succ]
      refine takeH 5 90 (v := ?vd6) rfl rfl (by kernel_rfl) (by kernel_rfl) (by kernel_rfl) (fun _ _ _ h => h) (Or.inl ⟨by rfl, ?hd6⟩) hH0 ?rd6
      case hd6 => (intro w hSw; clear hSw; go_simp; (try with_reducible rfl))
      case rd6 =>
      try simp only [Act.put, List.setIfInBounds_toArray, List.set_cons_zero, List.set_cons_succ]
      refine takeH 6 91 (v := ?vd7) rfl rfl (by kernel_rfl) (by kernel_rfl) (by kernel_rfl) (fun _ _ _ h => h) (Or.inl ⟨by rfl, ?hd7⟩) hH0 ?rd7
      case hd7 => (intro w hSw; have q1 := Has.cell hSw 1; have q2 := Has.cell hSw 2; simp at q1 q2; clear hSw; go_simp; (try with_reducible rfl))
      case rd7 =>
      try simp only [Act.put, List.setIfInBounds_toArray, List.set_cons_zero, List.set_cons_succ]
      refine takeH 7 92 (v := ?vd8) rfl rfl (by kernel_rfl) (by kernel_rfl) (by kernel_rfl) (fun _ _ _ h => h) (Or.inl ⟨by rfl, ?hd8⟩) hH0 ?rd8
      case hd8 => (intro w hSw; clear hSw; go_simp; (try with_reducible rfl))
      case rd8 =>
      try simp only [Act.put, List.setIfInBounds_toArray, List.set_cons_zero, List.set_cons_succ]
      refine storeH_row 275 8 (by kernel_rfl) rfl rfl rfl _ _ rfl w.heap.size #[.int .i64 (cs.length : Int), .int .i64 (h.pk : Int), .int .i64 (ixI h.ix), .int .i64 (h.rows : Int), .int .i64 (ixI h.idx)] hdZ rfl rfl (unhide HI8).o.ha.drew Tryz.sizeEHead rfl (by kernel_rfl) ?_
      intro w9 A9 oA9
      have D9 := hH0.keep oA9 ne1
      refine ⟨D9, ?_⟩
      try simp only [Act.put, List.setIfInBounds_toArray, List.set_cons_zero, List.set_cons_succ]
      refine storeH_row 79 9 (by kernel_rfl) rfl rfl rfl _ _ rfl (w.heap.size + 1) #[.string nm, .slice (some ⟨d + 1, 0, none⟩) cs.length cs.length, .int .i64 (h.pk : Int), .int .i64 (ixI h.ix)] scZ rfl rfl ((unhide HI8).o.hb.drew.keep oA9 ne3) Tryz.sizeESch rfl (by kernel_rfl) ?_
      intro w10 B10 oB10
      have D10 := D9.keep oB10 ne2
      refine ⟨D10, ?_⟩
      try simp only [Act.put, List.setIfInBounds_toArray, List.set_cons_zero, List.set_cons_succ]
      refine takeH 10 6 (v := ?vd9) rfl rfl (by kernel_rfl) (by kernel_rfl) (by kernel_rfl) (fun _ _ _ h => h) (Or.inl ⟨by rfl, ?hd9⟩) D10 ?rd9
      case hd9 => (intro w hSw; clear hSw; go_simp; (try with_reducible rfl))
      case rd9 =>
      try simp only [Act.put, List.setIfInBounds_toArray, List.set_cons_zero, List.set_cons_succ]
      refine wpAnyH_done (by kernel_rfl) ?_ _
      have oo : Only (fun k => k = w.heap.size ∨ k = w.heap.size + 1) wr w10 := ((Only.refl _ wr).drew.trans oA9 (fun k _ e => .inl e)).trans oB10 (fun k _ e => .inr e)
      have hA := (unhide HH).fv.Alt
      have hxl := (unhide HH).has.lt
      have st10 := (unhide HI8).o.st.keep oo (fun k hk e => by
        rcases hk with z | z
        · have := hA k z; omega
        · omega)
      have on10 : Only q.S w w10 := (unhide HI8).o.on.trans oo (fun k hk e => by omega)
      have C10 := (CwI.done (unhide HI8).cw (by omega)).keep oo (fun k hk e => by
        simp [Value.ownBlock] at hk
        have := (unhide HI8).gab
        omega)
      have A10 := A9.keep oB10 (fun e => ne3 e.symm)
      have HE := hide (And.intro A10 (And.intro B10 (And.intro C10 (And.intro st10 on10))))
      clear A10 B10 C10 st10 on10 hA hxl oo A9 D9 D10 oA9 oB10 hH0
      go_wp2_with fail
      obtain ⟨A8, B8, C8, st8, on8⟩ := unhide HE
      obtain ⟨e1, e2⟩ := unhide HEq
      have e1 : h.pk = t.pk := e1
      have e2 : h.ix = t.ix := e2
      refine bodyPost_ret (res3_hs Tryz.results199 _ rfl rfl A8 rfl B8 rfl) rfl ⟨.slice (some ⟨d + 1, 0, none⟩) cs.length cs.length, ?_, C8, fun k hk => by simp [Value.ownBlock] at hk; omega, st8, on8⟩
      unfold hdC scC
      rw [unhide HEn, ← e1, ← e2]
      rfl
end
end Go.Proofs.Qxb6500412aGreat
