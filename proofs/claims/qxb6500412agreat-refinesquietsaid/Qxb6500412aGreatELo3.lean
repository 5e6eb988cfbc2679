/-
  OWN WORK. TABLE: loadTxn, SchemaOf. (written by tools/gen_elo3.py)
-/
import Derived.Test.Qxb6500412aGreatELo2
namespace Go.Proofs.Qxb6500412aGreat
open Go.RowKit Go.PlainAid
set_option linter.unusedSimpArgs false
set_option linter.unusedVariables false

section
variable {q : Gnd} {w : World} {x : Nat} {op : Bool} {S : Vu} {T : List (Tb × Hd)} {t : Tb} {h : Hd}
theorem LdO.fill {a b : Nat} {wr : World} (H : ST q w x op S) (h : LdO q w x op S a b wr) (n0 n1 n2 n3 n4 : Int) (nm : ByteArray) (cv : Value) (pk ix : Int) : ∃ w', w' = (((((((((wr.setCell ⟨a, 0, none⟩ (.int .i64 n0)).setCell ⟨a, 1, none⟩ (.int .i64 n1)).setCell ⟨a, 2, none⟩ (.int .i64 n2)).setCell ⟨a, 3, none⟩ (.int .i64 n3)).setCell ⟨a, 4, none⟩ (.int .i64 n4)).setCell ⟨b, 0, none⟩ (.string nm)).setCell ⟨b, 1, none⟩ cv).setCell ⟨b, 2, none⟩ (.int .i64 pk)).setCell ⟨b, 3, none⟩ (.int .i64 ix)) ∧ Has w' a #[.int .i64 n0, .int .i64 n1, .int .i64 n2, .int .i64 n3, .int .i64 n4] 275 ∧ Has w' b #[.string nm, cv, .int .i64 pk, .int .i64 ix] 79 ∧ ST q w' x op S ∧ Only q.S w w' ∧ Only (fun k => k = a ∨ k = b) wr w' := by
  have hne : b ≠ a := h.hb.ne h.ha (by decide)
  have hA := H.fv.Alt
  have hx := H.has.lt
  have al := h.al
  have bl := h.bl
  have oo : Only (fun k => k = a ∨ k = b) wr (((((((((wr.setCell ⟨a, 0, none⟩ (.int .i64 n0)).setCell ⟨a, 1, none⟩ (.int .i64 n1)).setCell ⟨a, 2, none⟩ (.int .i64 n2)).setCell ⟨a, 3, none⟩ (.int .i64 n3)).setCell ⟨a, 4, none⟩ (.int .i64 n4)).setCell ⟨b, 0, none⟩ (.string nm)).setCell ⟨b, 1, none⟩ cv).setCell ⟨b, 2, none⟩ (.int .i64 pk)).setCell ⟨b, 3, none⟩ (.int .i64 ix)) := ((((((((((Only.refl (fun k => k = a ∨ k = b) wr).setCell (p := ⟨a, 0, none⟩) (fun _ => .inl rfl) (.int .i64 n0)).setCell (p := ⟨a, 1, none⟩) (fun _ => .inl rfl) (.int .i64 n1)).setCell (p := ⟨a, 2, none⟩) (fun _ => .inl rfl) (.int .i64 n2)).setCell (p := ⟨a, 3, none⟩) (fun _ => .inl rfl) (.int .i64 n3)).setCell (p := ⟨a, 4, none⟩) (fun _ => .inl rfl) (.int .i64 n4)).setCell (p := ⟨b, 0, none⟩) (fun _ => .inr rfl) (.string nm)).setCell (p := ⟨b, 1, none⟩) (fun _ => .inr rfl) cv).setCell (p := ⟨b, 2, none⟩) (fun _ => .inr rfl) (.int .i64 pk)).setCell (p := ⟨b, 3, none⟩) (fun _ => .inr rfl) (.int .i64 ix))
  refine ⟨_, rfl, ?_, ?_, ?_, ?_, oo⟩
  · exact (((((((((h.ha.setCell 0 _).setCell 1 _).setCell 2 _).setCell 3 _).setCell 4 _).setCell_other (p := ⟨b, 0, none⟩) (fun e => hne e.symm) _).setCell_other (p := ⟨b, 1, none⟩) (fun e => hne e.symm) _).setCell_other (p := ⟨b, 2, none⟩) (fun e => hne e.symm) _).setCell_other (p := ⟨b, 3, none⟩) (fun e => hne e.symm) _)
  · exact (((((((((h.hb.setCell_other (p := ⟨a, 0, none⟩) hne _).setCell_other (p := ⟨a, 1, none⟩) hne _).setCell_other (p := ⟨a, 2, none⟩) hne _).setCell_other (p := ⟨a, 3, none⟩) hne _).setCell_other (p := ⟨a, 4, none⟩) hne _).setCell 0 _).setCell 1 _).setCell 2 _).setCell 3 _)
  · refine h.st.keep oo (fun k hk e => ?_)
    rcases hk with d | d
    · have := hA k d; omega
    · omega
  · exact h.on.trans oo (fun k hk e => by omega)
theorem eintxn_any (H : ST q w x op S) : Calls Tryz.prog 232 #[.pointer (some ⟨q.f, 0, none⟩)] w fun e w' => e = .returned (.bool op) ∧ w = w' := vintxn_any H.fv
set_option maxRecDepth 100000 in
set_option maxHeartbeats 4000000 in
theorem eloadTxn_shut (H : ST q w x false S) (nm : ByteArray) : Calls Tryz.prog 240 #[.pointer (some ⟨x, 0, none⟩), .string nm] w fun e w' => e = .returned (.tuple #[.agg hdZ, .agg scN, .int .i64 2]) ∧ ST q w' x false S ∧ Only q.S w w' := by
  have O0 := LdO.start H
  have HH := hide H
  have c1 := O0.st.c0
  have CI := hide (eintxn_any O0.st)
  have CL := hide (enoSchema_any ((w.alloc (.cells hdZ 275)).alloc (.cells scZ 79)))
  have HO := hide O0
  clear O0 H
  go_enter Tryz.func240, Tryz.ntmps240
  unfold hdZ scZ at CI CL HO c1
  go_wp2_with fail
  refine (unhide CI).mono ?_
  rintro e w1 ⟨rfl, rfl⟩
  go_wp2_with fail
  refine (unhide CL).mono ?_
  rintro e w3 ⟨rfl, o3⟩
  have O3 := (unhide HO).quiet o3
  obtain ⟨w4, hw4, A4, B4, st4, on4, oo4⟩ := O3.fill (unhide HH) 0 0 0 0 0 ⟨#[]⟩ (.slice none 0 0) 0 (-1)
  have HE := hide (And.intro hw4 (And.intro A4 (And.intro B4 (And.intro st4 on4))))
  have p0 := O3.ha.cell 0
  have f0 := O3.ha.free 0
  have p1 := O3.ha.cell 1
  have f1 := O3.ha.free 1
  have p2 := O3.ha.cell 2
  have f2 := O3.ha.free 2
  have p3 := O3.ha.cell 3
  have f3 := O3.ha.free 3
  have p4 := O3.ha.cell 4
  have f4 := O3.ha.free 4
  have r0 := O3.hb.cell 0
  have s0 := O3.hb.free 0
  have r1 := O3.hb.cell 1
  have s1 := O3.hb.free 1
  have r2 := O3.hb.cell 2
  have s2 := O3.hb.free 2
  have r3 := O3.hb.cell 3
  have s3 := O3.hb.free 3
  simp [hdZ] at p0 p1 p2 p3 p4
  simp [scZ] at r0 r1 r2 r3
  have ne3 : w.heap.size + 1 ≠ w.heap.size := by omega
  clear hw4 A4 B4 st4 on4 oo4 O3 HO CL CI o3
  go_wp2_with fail
  obtain ⟨hw4, A4, B4, st4, on4⟩ := unhide HE
  rw [← hw4]
  refine bodyPost_ret (res3_hs Tryz.results240 _ rfl rfl A4 rfl B4 rfl) rfl ⟨rfl, st4, on4⟩
set_option maxRecDepth 100000 in
set_option maxHeartbeats 4000000 in
theorem eloadTxn_no (H : ST q w x true S) (L : Lay S T) {nm : ByteArray} (hno : ∀ y ∈ T, y.1.nm ≠ nm) : Calls Tryz.prog 240 #[.pointer (some ⟨x, 0, none⟩), .string nm] w fun e w' => e = .returned (.tuple #[.agg hdZ, .agg scN, .int .i64 10]) ∧ ST q w' x true S ∧ Only q.S w w' := by
  have O0 := LdO.start H
  have HH := hide H
  have c1 := O0.st.c0
  have CI := hide (eintxn_any O0.st)
  have CL := hide (eload_no O0.st L hno)
  have HO := hide O0
  clear O0 H
  go_enter Tryz.func240, Tryz.ntmps240
  unfold hdZ scZ at CI CL HO c1
  go_wp2_with fail
  refine (unhide CI).mono ?_
  rintro e w1 ⟨rfl, rfl⟩
  go_wp2_with fail
  refine (unhide CL).mono ?_
  rintro e w3 ⟨rfl, st3, o3⟩
  have O3 := (unhide HO).go (unhide HH) st3 o3
  obtain ⟨w4, hw4, A4, B4, st4, on4, oo4⟩ := O3.fill (unhide HH) 0 0 0 0 0 ⟨#[]⟩ (.slice none 0 0) 0 (-1)
  have HE := hide (And.intro hw4 (And.intro A4 (And.intro B4 (And.intro st4 on4))))
  have p0 := O3.ha.cell 0
  have f0 := O3.ha.free 0
  have p1 := O3.ha.cell 1
  have f1 := O3.ha.free 1
  have p2 := O3.ha.cell 2
  have f2 := O3.ha.free 2
  have p3 := O3.ha.cell 3
  have f3 := O3.ha.free 3
  have p4 := O3.ha.cell 4
  have f4 := O3.ha.free 4
  have r0 := O3.hb.cell 0
  have s0 := O3.hb.free 0
  have r1 := O3.hb.cell 1
  have s1 := O3.hb.free 1
  have r2 := O3.hb.cell 2
  have s2 := O3.hb.free 2
  have r3 := O3.hb.cell 3
  have s3 := O3.hb.free 3
  simp [hdZ] at p0 p1 p2 p3 p4
  simp [scZ] at r0 r1 r2 r3
  have ne3 : w.heap.size + 1 ≠ w.heap.size := by omega
  clear hw4 A4 B4 st4 on4 oo4 O3 HO CL CI st3 o3
  unfold scN
  go_wp2_with fail
  obtain ⟨hw4, A4, B4, st4, on4⟩ := unhide HE
  rw [← hw4]
  refine bodyPost_ret (res3_hs Tryz.results240 _ rfl rfl A4 rfl B4 rfl) rfl ⟨rfl, st4, on4⟩
set_option maxRecDepth 100000 in
set_option maxHeartbeats 4000000 in
theorem eloadTxn_yes (H : ST q w x true S) (L : Lay S T) (hx : (t, h) ∈ T) : Calls Tryz.prog 240 #[.pointer (some ⟨x, 0, none⟩), .string t.nm] w fun e w' => ∃ cv, e = .returned (.tuple #[.agg (hdC h), .agg (scC t.nm cv (t.pk : Int) (ixI t.ix)), .int .i64 0]) ∧ OwnC w' cv t.cols ∧ Newer w cv ∧ ST q w' x true S ∧ Only q.S w w' := by
  have O0 := LdO.start H
  have HH := hide H
  have c1 := O0.st.c0
  have CI := hide (eintxn_any O0.st)
  have CL := hide (eload_yes O0.st L hx)
  have HO := hide O0
  clear O0 H
  go_enter Tryz.func240, Tryz.ntmps240
  unfold hdZ scZ at CI CL HO c1
  go_wp2_with fail
  refine (unhide CI).mono ?_
  rintro e w1 ⟨rfl, rfl⟩
  go_wp2_with fail
  refine (unhide CL).mono ?_
  rintro e w3 ⟨cv, rfl, hc, nc, st3, o3⟩
  have O3 := (unhide HO).go (unhide HH) st3 o3
  obtain ⟨ca, cc, rfl⟩ := hc.shape
  have hcl := hc.lt
  obtain ⟨w4, hw4, A4, B4, st4, on4, oo4⟩ := O3.fill (unhide HH) (h.n : Int) (h.pk : Int) (ixI h.ix) (h.rows : Int) (ixI h.idx) t.nm (.slice ca t.cols.length cc) (t.pk : Int) (ixI t.ix)
  have hne : ∀ k, (Value.slice ca t.cols.length cc).ownBlock = some k → ¬ (k = w.heap.size ∨ k = w.heap.size + 1) := fun k hk e => by
    have := nc k hk
    have := (unhide HO).ha.lt
    have := (unhide HO).hb.lt
    simp only [World.size_alloc] at *
    omega
  have C4 := hc.keep oo4 hne
  have n4 : Newer w (.slice ca t.cols.length cc) := fun k hk => by have := nc k hk; simp only [World.size_alloc] at this; omega
  have HE := hide (And.intro hw4 (And.intro A4 (And.intro B4 (And.intro st4 (And.intro on4 (And.intro C4 n4))))))
  have p0 := O3.ha.cell 0
  have f0 := O3.ha.free 0
  have p1 := O3.ha.cell 1
  have f1 := O3.ha.free 1
  have p2 := O3.ha.cell 2
  have f2 := O3.ha.free 2
  have p3 := O3.ha.cell 3
  have f3 := O3.ha.free 3
  have p4 := O3.ha.cell 4
  have f4 := O3.ha.free 4
  have r0 := O3.hb.cell 0
  have s0 := O3.hb.free 0
  have r1 := O3.hb.cell 1
  have s1 := O3.hb.free 1
  have r2 := O3.hb.cell 2
  have s2 := O3.hb.free 2
  have r3 := O3.hb.cell 3
  have s3 := O3.hb.free 3
  simp [hdZ] at p0 p1 p2 p3 p4
  simp [scZ] at r0 r1 r2 r3
  have ne3 : w.heap.size + 1 ≠ w.heap.size := by omega
  clear hw4 A4 B4 st4 on4 oo4 O3 HO CL CI C4 n4 hne hc nc hcl st3 o3
  unfold hdC scC
  go_wp2_with fail
  obtain ⟨hw4, A4, B4, st4, on4, C4, n4⟩ := unhide HE
  rw [← hw4]
  refine bodyPost_ret (res3_hs Tryz.results240 _ rfl rfl A4 rfl B4 rfl) rfl ⟨_, rfl, C4, n4, st4, on4⟩
set_option maxRecDepth 100000 in
set_option maxHeartbeats 4000000 in
theorem eschemaOf_no (H : ST q w x op S) (L : Lay S T) {nm : ByteArray} (hno : ∀ y ∈ T, y.1.nm ≠ nm) : Calls Tryz.prog 135 #[.pointer (some ⟨x, 0, none⟩), .string nm] w fun e w' => e = .returned (.tuple #[.agg scN, .int .i64 10]) ∧ ST q w' x op S ∧ Only q.S w w' := by
  have o0 : Only (fun _ => False) w (w.alloc (.cells scZ 79)) := (Only.refl _ w).alloc _
  have B0 := Has.new w scZ 79
  have HH := hide H
  have CL := hide (eload_no (H.quiet o0) L hno)
  clear H
  unfold scZ at CL o0 B0
  go_enter Tryz.func135, Tryz.ntmps135
  go_wp2_with fail
  refine (unhide CL).mono ?_
  rintro e w3 ⟨rfl, st3, o3⟩
  have B3 := B0.keep o3 ((unhide HH).new (Nat.le_refl _))
  have oB : Only (fun _ => False) w3 ((w3.alloc (.cells #[.int .i64 0, .int .i64 0, .int .i64 0, .int .i64 0, .int .i64 0] 275)).alloc (.cells #[.string ⟨#[]⟩, .slice none 0 0, .int .i64 0, .int .i64 (-1)] 79)) := ((Only.refl _ w3).alloc _).alloc _
  have B4 := B3.keep oB (fun e => e)
  have K4 : Has ((w3.alloc (.cells #[.int .i64 0, .int .i64 0, .int .i64 0, .int .i64 0, .int .i64 0] 275)).alloc (.cells #[.string ⟨#[]⟩, .slice none 0 0, .int .i64 0, .int .i64 (-1)] 79)) (w3.heap.size + 1) #[.string ⟨#[]⟩, .slice none 0 0, .int .i64 0, .int .i64 (-1)] 79 := Has.new' _ _ _ _ (by simp)
  have bl := B3.lt
  have on4 : Only q.S w ((w3.alloc (.cells #[.int .i64 0, .int .i64 0, .int .i64 0, .int .i64 0, .int .i64 0] 275)).alloc (.cells #[.string ⟨#[]⟩, .slice none 0 0, .int .i64 0, .int .i64 (-1)] 79)) := ((o0.toS (q := q)).ss o3).andS oB
  have st4 := st3.quiet oB
  clear CL B3  oB st3
  unfold hdZ scN
  go_upto_region 2 with fail
  generalize (w3.alloc (.cells #[.int .i64 0, .int .i64 0, .int .i64 0, .int .i64 0, .int .i64 0] 275)).alloc (.cells #[.string ⟨#[]⟩, .slice none 0 0, .int .i64 0, .int .i64 (-1)] 79) = w4 at *
  have k0 := K4.cell 0
  have k1 := K4.cell 1
  have k2 := K4.cell 2
  have k3 := K4.cell 3
  have b0 := B4.cell 0
  have b1 := B4.cell 1
  have b2 := B4.cell 2
  have b3 := B4.cell 3
  have f0 := B4.free 0
  have f1 := B4.free 1
  have f2 := B4.free 2
  have f3 := B4.free 3
  simp at k0 k1 k2 k3 b0 b1 b2 b3
  have B5 := ((((B4.setCell 0 (.string ⟨#[]⟩)).setCell 1 (.slice none 0 0)).setCell 2 (.int .i64 0)).setCell 3 (.int .i64 (-1)))
  have oo : Only (fun k => k = w.heap.size) w4 ((((w4.setCell ⟨w.heap.size, 0, none⟩ (.string ⟨#[]⟩)).setCell ⟨w.heap.size, 1, none⟩ (.slice none 0 0)).setCell ⟨w.heap.size, 2, none⟩ (.int .i64 0)).setCell ⟨w.heap.size, 3, none⟩ (.int .i64 (-1))) := (((((Only.refl (fun k => k = w.heap.size) w4).setCell (p := ⟨w.heap.size, 0, none⟩) (fun _ => rfl) (.string ⟨#[]⟩)).setCell (p := ⟨w.heap.size, 1, none⟩) (fun _ => rfl) (.slice none 0 0)).setCell (p := ⟨w.heap.size, 2, none⟩) (fun _ => rfl) (.int .i64 0)).setCell (p := ⟨w.heap.size, 3, none⟩) (fun _ => rfl) (.int .i64 (-1)))
  have hA := (unhide HH).fv.Alt
  have hxl := (unhide HH).has.lt
  have st5 := st4.keep oo (fun k hk e => by
    rcases hk with d | d
    · have := hA k d; omega
    · omega)
  have on5 : Only q.S w ((((w4.setCell ⟨w.heap.size, 0, none⟩ (.string ⟨#[]⟩)).setCell ⟨w.heap.size, 1, none⟩ (.slice none 0 0)).setCell ⟨w.heap.size, 2, none⟩ (.int .i64 0)).setCell ⟨w.heap.size, 3, none⟩ (.int .i64 (-1))) := on4.trans oo (fun k hk e => by omega)
  have HE := hide (And.intro B5 (And.intro st5 on5))
  clear B5 st5 on5 oo hA hxl st4 on4 B4 K4 
  go_wp2_with fail
  obtain ⟨B5, st5, on5⟩ := unhide HE
  refine bodyPost_ret (res2_sch Tryz.results135 _ rfl B5 rfl) rfl ⟨rfl, st5, on5⟩
set_option maxRecDepth 100000 in
set_option maxHeartbeats 4000000 in
theorem eschemaOf_yes (H : ST q w x op S) (L : Lay S T) (hx : (t, h) ∈ T) : Calls Tryz.prog 135 #[.pointer (some ⟨x, 0, none⟩), .string t.nm] w fun e w' => ∃ cv, e = .returned (.tuple #[.agg (scC t.nm cv (t.pk : Int) (ixI t.ix)), .int .i64 0]) ∧ OwnC w' cv t.cols ∧ Newer w cv ∧ ST q w' x op S ∧ Only q.S w w' := by
  have o0 : Only (fun _ => False) w (w.alloc (.cells scZ 79)) := (Only.refl _ w).alloc _
  have B0 := Has.new w scZ 79
  have HH := hide H
  have CL := hide (eload_yes (H.quiet o0) L hx)
  clear H
  unfold scZ at CL o0 B0
  go_enter Tryz.func135, Tryz.ntmps135
  go_wp2_with fail
  refine (unhide CL).mono ?_
  rintro e w3 ⟨cv, rfl, hc, nc, st3, o3⟩
  obtain ⟨ca, cc, rfl⟩ := hc.shape
  have hcl := hc.lt
  have B3 := B0.keep o3 ((unhide HH).new (Nat.le_refl _))
  have oB : Only (fun _ => False) w3 ((w3.alloc (.cells #[.int .i64 (h.n : Int), .int .i64 (h.pk : Int), .int .i64 (ixI h.ix), .int .i64 (h.rows : Int), .int .i64 (ixI h.idx)] 275)).alloc (.cells #[.string t.nm, .slice ca t.cols.length cc, .int .i64 (t.pk : Int), .int .i64 (ixI t.ix)] 79)) := ((Only.refl _ w3).alloc _).alloc _
  have B4 := B3.keep oB (fun e => e)
  have K4 : Has ((w3.alloc (.cells #[.int .i64 (h.n : Int), .int .i64 (h.pk : Int), .int .i64 (ixI h.ix), .int .i64 (h.rows : Int), .int .i64 (ixI h.idx)] 275)).alloc (.cells #[.string t.nm, .slice ca t.cols.length cc, .int .i64 (t.pk : Int), .int .i64 (ixI t.ix)] 79)) (w3.heap.size + 1) #[.string t.nm, .slice ca t.cols.length cc, .int .i64 (t.pk : Int), .int .i64 (ixI t.ix)] 79 := Has.new' _ _ _ _ (by simp)
  have bl := B3.lt
  have on4 : Only q.S w ((w3.alloc (.cells #[.int .i64 (h.n : Int), .int .i64 (h.pk : Int), .int .i64 (ixI h.ix), .int .i64 (h.rows : Int), .int .i64 (ixI h.idx)] 275)).alloc (.cells #[.string t.nm, .slice ca t.cols.length cc, .int .i64 (t.pk : Int), .int .i64 (ixI t.ix)] 79)) := ((o0.toS (q := q)).ss o3).andS oB
  have st4 := st3.quiet oB
  have C4 := hc.keep oB (fun _ _ e => e)
  clear CL B3 hc oB st3
  unfold hdC scC
  go_upto_region 2 with fail
  generalize (w3.alloc (.cells #[.int .i64 (h.n : Int), .int .i64 (h.pk : Int), .int .i64 (ixI h.ix), .int .i64 (h.rows : Int), .int .i64 (ixI h.idx)] 275)).alloc (.cells #[.string t.nm, .slice ca t.cols.length cc, .int .i64 (t.pk : Int), .int .i64 (ixI t.ix)] 79) = w4 at *
  have k0 := K4.cell 0
  have k1 := K4.cell 1
  have k2 := K4.cell 2
  have k3 := K4.cell 3
  have b0 := B4.cell 0
  have b1 := B4.cell 1
  have b2 := B4.cell 2
  have b3 := B4.cell 3
  have f0 := B4.free 0
  have f1 := B4.free 1
  have f2 := B4.free 2
  have f3 := B4.free 3
  simp at k0 k1 k2 k3 b0 b1 b2 b3
  have B5 := ((((B4.setCell 0 (.string t.nm)).setCell 1 (.slice ca t.cols.length cc)).setCell 2 (.int .i64 (t.pk : Int))).setCell 3 (.int .i64 (ixI t.ix)))
  have oo : Only (fun k => k = w.heap.size) w4 ((((w4.setCell ⟨w.heap.size, 0, none⟩ (.string t.nm)).setCell ⟨w.heap.size, 1, none⟩ (.slice ca t.cols.length cc)).setCell ⟨w.heap.size, 2, none⟩ (.int .i64 (t.pk : Int))).setCell ⟨w.heap.size, 3, none⟩ (.int .i64 (ixI t.ix))) := (((((Only.refl (fun k => k = w.heap.size) w4).setCell (p := ⟨w.heap.size, 0, none⟩) (fun _ => rfl) (.string t.nm)).setCell (p := ⟨w.heap.size, 1, none⟩) (fun _ => rfl) (.slice ca t.cols.length cc)).setCell (p := ⟨w.heap.size, 2, none⟩) (fun _ => rfl) (.int .i64 (t.pk : Int))).setCell (p := ⟨w.heap.size, 3, none⟩) (fun _ => rfl) (.int .i64 (ixI t.ix)))
  have hA := (unhide HH).fv.Alt
  have hxl := (unhide HH).has.lt
  have st5 := st4.keep oo (fun k hk e => by
    rcases hk with d | d
    · have := hA k d; omega
    · omega)
  have on5 : Only q.S w ((((w4.setCell ⟨w.heap.size, 0, none⟩ (.string t.nm)).setCell ⟨w.heap.size, 1, none⟩ (.slice ca t.cols.length cc)).setCell ⟨w.heap.size, 2, none⟩ (.int .i64 (t.pk : Int))).setCell ⟨w.heap.size, 3, none⟩ (.int .i64 (ixI t.ix))) := on4.trans oo (fun k hk e => by omega)
  have C5 := C4.keep oo (fun k hk e => by have := nc k hk; simp only [World.size_alloc] at this; omega)
  have n5 : Newer w (.slice ca t.cols.length cc) := fun k hk => by have := nc k hk; simp only [World.size_alloc] at this; omega
  have HE := hide (And.intro B5 (And.intro st5 (And.intro on5 (And.intro C5 n5))))
  clear B5 st5 on5 oo hA hxl st4 on4 B4 K4 C4 C5 n5 nc hcl
  go_wp2_with fail
  obtain ⟨B5, st5, on5, C5, n5⟩ := unhide HE
  refine bodyPost_ret (res2_sch Tryz.results135 _ rfl B5 rfl) rfl ⟨_, rfl, C5, n5, st5, on5⟩
end
end Go.Proofs.Qxb6500412aGreat
