/-
  OWN WORK. TABLE: load, loadTxn, SchemaOf.
-/
import Derived.Test.Qxb6500412aGreatELd
import Derived.BigRegion
namespace Go.Proofs.Qxb6500412aGreat
open Go.RowKit Go.PlainAid
set_option linter.unusedSimpArgs false
set_option linter.unusedVariables false

def hdC (h : Hd) : Array Value := #[.int .i64 (h.n : Int), .int .i64 (h.pk : Int), .int .i64 (ixI h.ix), .int .i64 (h.rows : Int), .int .i64 (ixI h.idx)]
def hdZ : Array Value := #[.int .i64 0, .int .i64 0, .int .i64 0, .int .i64 0, .int .i64 0]
def scZ : Array Value := #[.string ⟨#[]⟩, .slice none 0 0, .int .i64 0, .int .i64 0]
def scN : Array Value := #[.string ⟨#[]⟩, .slice none 0 0, .int .i64 0, .int .i64 (-1)]
section
variable {q : Gnd} {w : World} {x : Nat} {op : Bool} {S : Vu} {T : List (Tb × Hd)} {t : Tb} {h : Hd}
/-- The result's two cells and what lies below. -/
structure LdO (q : Gnd) (w : World) (x : Nat) (op : Bool) (S : Vu) (a b : Nat) (wr : World) : Prop where
  st : ST q wr x op S
  on : Only q.S w wr
  ha : Has wr a hdZ 275
  hb : Has wr b scZ 79
  al : w.heap.size ≤ a
  bl : w.heap.size ≤ b
theorem LdO.go {a b : Nat} {wr w' : World} (H : ST q w x op S) (h : LdO q w x op S a b wr) (st : ST q w' x op S) (o : Only q.S wr w') : LdO q w x op S a b w' :=
  ⟨st, h.on.ss o, h.ha.keep o (H.new h.al), h.hb.keep o (H.new h.bl), h.al, h.bl⟩
theorem LdO.quiet {a b : Nat} {wr w' : World} (h : LdO q w x op S a b wr) (o : Only (fun _ => False) wr w') : LdO q w x op S a b w' :=
  ⟨h.st.quiet o, h.on.andS o, h.ha.keep o (fun e => e), h.hb.keep o (fun e => e), h.al, h.bl⟩
theorem LdO.start (H : ST q w x op S) : LdO q w x op S w.heap.size (w.heap.size + 1) ((w.alloc (.cells hdZ 275)).alloc (.cells scZ 79)) := by
  have o : Only (fun _ => False) w ((w.alloc (.cells hdZ 275)).alloc (.cells scZ 79)) := ((Only.refl _ w).alloc _).alloc _
  exact ⟨H.quiet o, o.toS, (Has.new w _ _).alloc _, Has.new' _ _ _ _ (by simp), Nat.le_refl _, by omega⟩
/-- No table: what is answered. -/
theorem LdO.no {a b : Nat} {wr : World} (H : ST q w x op S) (h : LdO q w x op S a b wr) : ∃ w', w' = (((((((((wr.setCell ⟨a, 0, none⟩ (.int .i64 0)).setCell ⟨a, 1, none⟩ (.int .i64 0)).setCell ⟨a, 2, none⟩ (.int .i64 0)).setCell ⟨a, 3, none⟩ (.int .i64 0)).setCell ⟨a, 4, none⟩ (.int .i64 0)).setCell ⟨b, 0, none⟩ (.string ⟨#[]⟩)).setCell ⟨b, 1, none⟩ (.slice none 0 0)).setCell ⟨b, 2, none⟩ (.int .i64 0)).setCell ⟨b, 3, none⟩ (.int .i64 (-1))) ∧ Has w' a hdZ 275 ∧ Has w' b scN 79 ∧ ST q w' x op S ∧ Only q.S w w' := by
  refine ⟨_, rfl, ?_, ?_, ?_, ?_⟩
  all_goals
    have hne : b ≠ a := h.hb.ne h.ha (by decide)
    have oo1 : Only (fun k => k = a ∨ k = b) wr _ := (((((((((Only.refl (fun k => k = a ∨ k = b) wr).setCell (p := ⟨a, 0, none⟩) (fun _ => .inl rfl) (.int .i64 0)).setCell (p := ⟨a, 1, none⟩) (fun _ => .inl rfl) (.int .i64 0)).setCell (p := ⟨a, 2, none⟩) (fun _ => .inl rfl) (.int .i64 0)).setCell (p := ⟨a, 3, none⟩) (fun _ => .inl rfl) (.int .i64 0)).setCell (p := ⟨a, 4, none⟩) (fun _ => .inl rfl) (.int .i64 0)).setCell (p := ⟨b, 0, none⟩) (fun _ => .inr rfl) (.string ⟨#[]⟩)).setCell (p := ⟨b, 1, none⟩) (fun _ => .inr rfl) (.slice none 0 0)).setCell (p := ⟨b, 2, none⟩) (fun _ => .inr rfl) (.int .i64 0)).setCell (p := ⟨b, 3, none⟩) (fun _ => .inr rfl) (.int .i64 (-1))
    have hA := H.fv.Alt
    have hx := H.has.lt
    have al := h.al
    have bl := h.bl
  · exact (((((((((h.ha.setCell 0 _).setCell 1 _).setCell 2 _).setCell 3 _).setCell 4 _).setCell_other (p := ⟨b, 0, none⟩) (fun e => hne e.symm) _).setCell_other (p := ⟨b, 1, none⟩) (fun e => hne e.symm) _).setCell_other (p := ⟨b, 2, none⟩) (fun e => hne e.symm) _).setCell_other (p := ⟨b, 3, none⟩) (fun e => hne e.symm) _)
  · exact (((((((((h.hb.setCell_other (p := ⟨a, 0, none⟩) hne _).setCell_other (p := ⟨a, 1, none⟩) hne _).setCell_other (p := ⟨a, 2, none⟩) hne _).setCell_other (p := ⟨a, 3, none⟩) hne _).setCell_other (p := ⟨a, 4, none⟩) hne _).setCell 0 _).setCell 1 _).setCell 2 _).setCell 3 _)
  · refine h.st.keep oo1 (fun k hk e => ?_)
    rcases hk with d | d
    · have := hA k d; omega
    · omega
  · exact h.on.trans oo1 (fun k hk e => by omega)
set_option maxRecDepth 100000 in
set_option maxHeartbeats 4000000 in
theorem eload_no (H : ST q w x op S) (L : Lay S T) {nm : ByteArray} (hno : ∀ y ∈ T, y.1.nm ≠ nm) : Calls Tryz.prog 199 #[.pointer (some ⟨x, 0, none⟩), .string nm] w fun e w' => e = .returned (.tuple #[.agg hdZ, .agg scN, .int .i64 10]) ∧ ST q w' x op S ∧ Only q.S w w' := by
  have O0 := LdO.start H
  have CG := eGoodName_any nm ((w.alloc (.cells hdZ 275)).alloc (.cells scZ 79))
  have CN := hide (fun w => enoSchema_any w)
  by_cases hg : gdN nm
  · rw [decide_eq_true hg] at CG
    have CG := hide CG
    have CK := hide (ecatKey_any nm 0 hg.2 (by omega) ((w.alloc (.cells hdZ 275)).alloc (.cells scZ 79)))
    have hget := L.getNo hg.2 hno
    have HH := hide H
    have HO := hide O0
    have CGet := hide (fun w1 (H1 : ST q w1 x op S) => show Calls Tryz.prog 283 #[.pointer (some ⟨q.f, 0, none⟩), .int .i64 0, .string (catK nm 0)] w1 fun e w' => e = .returned (.tuple #[.string ⟨#[]⟩, .int .i64 9]) ∧ ST q w' x op S ∧ Only q.S w1 w' from by
      have := eget_any H1 0 (catK nm 0)
      rw [hget] at this
      exact this)
    clear O0 hget hg hno
    unfold hdZ scZ at CG CK
    go_enter Tryz.func199, Tryz.ntmps199
    go_wp2_with fail
    refine (unhide CG).mono ?_
    rintro e w1 ⟨rfl, rfl⟩
    go_wp2_with fail
    refine (unhide CK).mono ?_
    rintro e w1 ⟨rfl, o1⟩
    have O1 := (unhide HO).quiet o1
    have c1 := O1.st.c0
    have CGet1 := hide (unhide CGet w1 O1.st)
    have HO1 := hide O1
    generalize catK nm 0 = K at *
    clear O1 o1 HO CG CK CGet
    go_wp2_with fail
    refine (unhide CGet1).mono ?_
    rintro e w2 ⟨rfl, st2, o2⟩
    have O2 := (unhide HO1).go (unhide HH) st2 o2
    have CN2 := hide (unhide CN w2)
    have HO2 := hide O2
    clear O2 o2 HO1 CGet1 CN st2 c1
    go_wp2_with fail
    refine (unhide CN2).mono ?_
    rintro e w3 ⟨rfl, o3⟩
    have O3 := (unhide HO2).quiet o3
    obtain ⟨w4, hw4, A4, B4, st4, on4⟩ := O3.no (unhide HH)
    have HE := hide (And.intro hw4 (And.intro A4 (And.intro B4 (And.intro st4 on4))))
    have p0 := O3.ha.cell 0
    have p1 := O3.ha.cell 1
    have p2 := O3.ha.cell 2
    have p3 := O3.ha.cell 3
    have p4 := O3.ha.cell 4
    have f0 := O3.ha.free 0
    have f1 := O3.ha.free 1
    have f2 := O3.ha.free 2
    have f3 := O3.ha.free 3
    have f4 := O3.ha.free 4
    have r0 := O3.hb.cell 0
    have r1 := O3.hb.cell 1
    have r2 := O3.hb.cell 2
    have r3 := O3.hb.cell 3
    have s0 := O3.hb.free 0
    have s1 := O3.hb.free 1
    have s2 := O3.hb.free 2
    have s3 := O3.hb.free 3
    simp [hdZ] at p0 p1 p2 p3 p4
    simp [scZ] at r0 r1 r2 r3
    clear hw4 A4 B4 st4 on4 O3 o3 HO2 CN2
    go_wp2_with fail
    obtain ⟨hw4, A4, B4, st4, on4⟩ := unhide HE
    rw [← hw4]
    refine bodyPost_ret (res3_hs Tryz.results199 _ rfl rfl A4 rfl B4 rfl) rfl ⟨rfl, st4, on4⟩
  · rw [decide_eq_false hg] at CG
    have CG := hide CG
    have HH := hide H
    have HO := hide O0
    have CN2 := hide (unhide CN ((w.alloc (.cells hdZ 275)).alloc (.cells scZ 79)))
    clear O0 hg hno CN
    unfold hdZ scZ at CG CN2
    go_enter Tryz.func199, Tryz.ntmps199
    go_wp2_with fail
    refine (unhide CG).mono ?_
    rintro e w1 ⟨rfl, rfl⟩
    go_wp2_with fail
    refine (unhide CN2).mono ?_
    rintro e w3 ⟨rfl, o3⟩
    have O3 := (unhide HO).quiet o3
    obtain ⟨w4, hw4, A4, B4, st4, on4⟩ := O3.no (unhide HH)
    have HE := hide (And.intro hw4 (And.intro A4 (And.intro B4 (And.intro st4 on4))))
    have p0 := O3.ha.cell 0
    have p1 := O3.ha.cell 1
    have p2 := O3.ha.cell 2
    have p3 := O3.ha.cell 3
    have p4 := O3.ha.cell 4
    have f0 := O3.ha.free 0
    have f1 := O3.ha.free 1
    have f2 := O3.ha.free 2
    have f3 := O3.ha.free 3
    have f4 := O3.ha.free 4
    have r0 := O3.hb.cell 0
    have r1 := O3.hb.cell 1
    have r2 := O3.hb.cell 2
    have r3 := O3.hb.cell 3
    have s0 := O3.hb.free 0
    have s1 := O3.hb.free 1
    have s2 := O3.hb.free 2
    have s3 := O3.hb.free 3
    simp [hdZ] at p0 p1 p2 p3 p4
    simp [scZ] at r0 r1 r2 r3
    clear hw4 A4 B4 st4 on4 O3 o3 HO CN2 CG
    go_wp2_with fail
    obtain ⟨hw4, A4, B4, st4, on4⟩ := unhide HE
    rw [← hw4]
    refine bodyPost_ret (res3_hs Tryz.results199 _ rfl rfl A4 rfl B4 rfl) rfl ⟨rfl, st4, on4⟩
end
end Go.Proofs.Qxb6500412aGreat
