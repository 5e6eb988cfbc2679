/-
  OWN WORK. THE TABLE MODEL's STORE: the observers but Scan; New; Abort, Mark.
-/
import Derived.Test.Qxb6500413aGreatMS0
namespace Go.Proofs.Qxb6500413aGreat
open Go.RowKit Go.PlainAid
set_option linter.unusedSimpArgs false
set_option linter.unusedVariables false

/-- A schema as shown. -/
structure Sch where
  nm : ByteArray
  cols : List Cl
  pk : Int
  ix : Int
  z : Int
def schD (D : Db) (nm : ByteArray) : Sch := match findD D nm with
  | none => ⟨⟨#[]⟩, [], 0, -1, 10⟩
  | some t => ⟨t.nm, t.cols, (t.pk : Int), ixI t.ix, 0⟩
def SgP (w : World) (s : Sch) (x : Ending) (w' : World) : Prop := ∃ cv, x = .returned (.tuple #[.agg #[.string s.nm, cv, .int .i64 s.pk, .int .i64 s.ix], .int .i64 s.z]) ∧ OwnC w' cv s.cols ∧ Newer w cv ∧ Only (fun _ => False) w w'
theorem mdbSchema_any {w : World} {dk o : Nat} {v : Value} {l : List GE} {D : Db} (M : MDb w dk o v l D) (nm : ByteArray) : Calls Tryz.prog 191 #[.pointer (some ⟨dk, o, none⟩), .string nm] w (SgP w (schD D nm)) := by
  unfold schD
  cases hf : findD D nm with
  | none =>
    refine (mdbSchema_no M hf).mono ?_
    rintro x w' ⟨rfl, o1⟩
    exact ⟨.slice none 0 0, rfl, World.ownsRow_nil _ _ _ _, fun k hk => by simp [Value.ownBlock] at hk, o1⟩
  | some t =>
    refine (mdbSchema_yes M hf).mono ?_
    rintro x w' ⟨z, rfl, C, hz, o1⟩
    exact ⟨_, rfl, C, fun k hk => by simp [Value.ownBlock] at hk; omega, o1⟩
section
variable {w w' : World} {m : Nat} {S T U : Db} {hist : Option Db} {op : Bool} {H : Nat → Prop}
theorem ynames_any (h : YAt w m S T U hist op H) : Calls Tryz.prog 87 #[.pointer (some ⟨m, 0, none⟩)] w (NmP w (namesD S)) := by
  obtain ⟨v, l, M⟩ := h.see
  have CC := hide (mdbNames_any M)
  clear h M
  go_enter Tryz.func87, Tryz.ntmps87
  go_wp2_with fail
  refine (unhide CC).mono ?_
  rintro x w2 hp
  have HP := hide hp
  obtain ⟨nv, rfl, _⟩ := hp
  clear CC
  go_wp2_with fail
  go_ret
  exact unhide HP
set_option maxRecDepth 100000 in
theorem ylookup_any (h : YAt w m S T U hist op H) (nm : ByteArray) (key : Vl) (hw : key.wf) : Calls Tryz.prog 157 #[.pointer (some ⟨m, 0, none⟩), .string nm, vlA key] w (FrV w (lkpD S nm key).1 (lkpD S nm key).2) := by
  obtain ⟨R, z, hR⟩ : ∃ R z, lkpD S nm key = (R, z) := ⟨_, _, rfl⟩
  rw [hR]
  have HR := hide hR
  clear hR
  have o1 : Only (fun _ => False) w (w.alloc (.cells #[.bool key.str, .int .i64 key.i, .string key.s] 72)) := (Only.refl _ _).alloc _
  have Bx : Has (w.alloc (.cells #[.bool key.str, .int .i64 key.i, .string key.s] 72)) w.heap.size #[.bool key.str, .int .i64 key.i, .string key.s] 72 := Has.new _ _ _
  have HH := hide (And.intro h (And.intro o1 Bx))
  clear h o1 Bx
  unfold vlA
  go_enter Tryz.func157, Tryz.ntmps157
  go_upto_region 1 with fail
  generalize w.alloc (.cells #[.bool key.str, .int .i64 key.i, .string key.s] 72) = w1 at *
  have hsz := (unhide HH).2.2.lt
  generalize hkb : w.heap.size = kb at *
  have b0 := (unhide HH).2.2.cell 0
  have b1 := (unhide HH).2.2.cell 1
  have b2 := (unhide HH).2.2.cell 2
  simp at b0 b1 b2
  have hd : Only (fun _ => False) w w1.drew := (unhide HH).2.1.drew
  obtain ⟨v, l, M⟩ := ((unhide HH).1.quiet hd).see
  have CC := mdbLookup_any M nm key hw
  unfold vlA at CC
  have HD := hide hd
  rw [unhide HR] at CC
  have CC := hide CC
  clear M hd hkb
  go_region_with (go_at_call 206; refine (unhide CC).mono ?_; rintro x w2 ⟨rv, rfl, hO, hN, o2⟩; have HP := hide (show FrV w R z (.returned (.tuple #[rv, .int .i64 z])) w2 from ⟨rv, rfl, hO, fun k hk => Nat.le_trans (unhide HD).size (hN k hk), (unhide HD).trans o2 (fun _ _ e => e)⟩))
  all_goals
    go_wp2_with fail
    go_ret2
    exact unhide HP
set_option maxRecDepth 100000 in
theorem yschema_any (h : YAt w m S T U hist op H) (nm : ByteArray) : Calls Tryz.prog 128 #[.pointer (some ⟨m, 0, none⟩), .string nm] w (SgP w (schD S nm)) := by
  have o1 : Only (fun _ => False) w (w.alloc (.cells #[.string ⟨#[]⟩, .slice none 0 0, .int .i64 0, .int .i64 0] 65)) := (Only.refl _ w).alloc _
  have B1 : Has (w.alloc (.cells #[.string ⟨#[]⟩, .slice none 0 0, .int .i64 0, .int .i64 0] 65)) w.heap.size #[.string ⟨#[]⟩, .slice none 0 0, .int .i64 0, .int .i64 0] 65 := Has.new w _ _
  obtain ⟨v, l, M⟩ := (h.quiet o1).see
  have CC := hide (mdbSchema_any M nm)
  have HX := hide (And.intro o1 B1)
  clear h o1 B1 M
  generalize schD S nm = s at *
  go_enter Tryz.func128, Tryz.ntmps128
  go_wp2_with fail
  refine (unhide CC).mono ?_
  rintro x w2 ⟨cv, rfl, hO, hN, o2⟩
  generalize w.alloc (.cells #[.string ⟨#[]⟩, .slice none 0 0, .int .i64 0, .int .i64 0] 65) = w1 at *
  have hsz := (unhide HX).2.lt
  have B := (unhide HX).2.keep o2 (fun e => e)
  have hb := (unhide HX).1.size
  generalize hkb : w.heap.size = kb at *
  have e0 := B.cell 0
  have e1 := B.cell 1
  have e2 := B.cell 2
  have e3 := B.cell 3
  have f0 := B.free 0
  have f1 := B.free 1
  have f2 := B.free 2
  have f3 := B.free 3
  simp at e0 e1 e2 e3
  obtain ⟨ca, cc, hcv⟩ := hO.shape
  have Bf : Has ((((w2.setCell ⟨kb, 0, none⟩ (.string s.nm)).setCell ⟨kb, 1, none⟩ cv).setCell ⟨kb, 2, none⟩ (.int .i64 s.pk)).setCell ⟨kb, 3, none⟩ (.int .i64 s.ix)) kb #[.string s.nm, cv, .int .i64 s.pk, .int .i64 s.ix] 65 := (((B.setCell 0 (.string s.nm)).setCell 1 cv).setCell 2 (.int .i64 s.pk)).setCell 3 (.int .i64 s.ix)
  have og : Only (fun k => k = kb) w2 ((((w2.setCell ⟨kb, 0, none⟩ (.string s.nm)).setCell ⟨kb, 1, none⟩ cv).setCell ⟨kb, 2, none⟩ (.int .i64 s.pk)).setCell ⟨kb, 3, none⟩ (.int .i64 s.ix)) := (((only1 (p := kb) _ _).trans (only1 (p := kb) _ _) (fun _ _ h => h)).trans (only1 (p := kb) _ _) (fun _ _ h => h)).trans (only1 (p := kb) _ _) (fun _ _ h => h)
  have hne : ∀ k, cv.ownBlock = some k → k ≠ kb := fun k hk e => by have := hN k hk; omega
  have HP := hide (And.intro Bf (And.intro (hO.keep og hne) (And.intro (show Newer w cv from fun k hk => by have := hN k hk; omega) (((unhide HX).1.trans o2 (fun _ _ e => e)).fresh og (by omega)))))
  clear B Bf og hO hne hN o2 CC HX
  obtain ⟨cn, hcn⟩ : ∃ cn, s.cols.length = cn := ⟨_, rfl⟩
  rw [hcn] at hcv
  subst hcv
  clear hcn
  go_wp2_with fail
  refine bodyPost_ret (res2_sch Tryz.results128 _ rfl (unhide HP).1 rfl) rfl ⟨_, rfl, (unhide HP).2⟩
set_option maxRecDepth 100000 in
theorem ynew_any (w : World) : Calls Tryz.prog 19 #[] w fun e w' => ∃ n H, e = .returned (.pointer (some ⟨n, 0, none⟩)) ∧ YAt w' n [] [] [] none false H ∧ (∀ k, H k → w.heap.size ≤ k) ∧ Only (fun _ => False) w w' := by
  have hN : Has (w.alloc (.cells #[.slice none 0 0, .slice none 0 0, .slice none 0 0, .slice none 0 0, .bool false] 93)) w.heap.size (stoC (.slice none 0 0) (.slice none 0 0) (.slice none 0 0) (.slice none 0 0) false) 93 := Has.new _ _ _
  have HP := hide (show YAt (w.alloc (.cells #[.slice none 0 0, .slice none 0 0, .slice none 0 0, .slice none 0 0, .bool false] 93)) w.heap.size [] [] [] none false (fun k => k = w.heap.size) from
    ⟨⟨_, _, _, _, fun _ => False, fun _ => False, hN, MV.nil _, MV.nil _, MV.nil _, rfl, fun k hk => hk.elim, fun k hk => hk.elim⟩, rfl, fun k hk => by rw [hk]; exact hN.lt⟩)
  have HO := hide (show Only (fun _ => False) w (w.alloc (.cells #[.slice none 0 0, .slice none 0 0, .slice none 0 0, .slice none 0 0, .bool false] 93)) from (Only.refl _ w).alloc _)
  clear hN
  go_enter Tryz.func19, Tryz.ntmps19
  go_wp2_with fail
  go_ret
  exact ⟨w.heap.size, _, rfl, unhide HP, fun k hk => by rw [hk]; exact Nat.le_refl _, unhide HO⟩
set_option maxRecDepth 100000 in
set_option maxHeartbeats 1000000 in
theorem ymark_any (h : YAt w m S T U hist op H) : Calls Tryz.prog 20 #[.pointer (some ⟨m, 0, none⟩)] w fun e w' => e = .returned (.tuple #[]) ∧ YAt w' m S T T none op (Ext H w w') ∧ Only (fun k => k = m) w w' := by
  obtain ⟨a, b, c, hv, O, P, h1, h2, h3, h4, h5, h6, h7⟩ := h.ex
  have C1 := hide (vclone_any (dk := m) (o := 1) (by rw [h1.cell]; rfl) h3)
  have hml := h1.lt
  obtain ⟨ca, cn, cc, hcs⟩ := h4.shape
  obtain ⟨x, n, cap, ehv, _⟩ := h5.shape
  have HI := hide h.inn
  have HM := hide h.hm
  go_enter Tryz.func20, Tryz.ntmps20
  go_wp2_with fail
  refine (unhide C1).mono ?_
  rintro e w1 ⟨g, gn, P1, rfl, V1, hP1, o1⟩
  have k1 := h1.keep o1 (fun h => h)
  have q2 := k1.cell 2
  have q3 := k1.cell 3
  have z2 := k1.free 2
  have z3 := k1.free 3
  simp [stoC] at q2 q3
  rw [hcs] at q2
  rw [ehv] at q3
  have k2 := (k1.setCell 2 (.slice (some ⟨g, 0, none⟩) gn gn)).setCell 3 (.slice none 0 0)
  have oo : Only (fun k => k = m) w1 ((w1.setCell ⟨m, 2, none⟩ (.slice (some ⟨g, 0, none⟩) gn gn)).setCell ⟨m, 3, none⟩ (.slice none 0 0)) := (only1 (p := m) _ _).trans (only1 (p := m) _ _) (fun _ _ h => h)
  have oA : Only (fun k => k = m) w ((w1.setCell ⟨m, 2, none⟩ (.slice (some ⟨g, 0, none⟩) gn gn)).setCell ⟨m, 3, none⟩ (.slice none 0 0)) := (o1.mono (fun _ _ e => e.elim)).trans oo (fun _ _ e => e)
  have HP := hide (show YAt ((w1.setCell ⟨m, 2, none⟩ (.slice (some ⟨g, 0, none⟩) gn gn)).setCell ⟨m, 3, none⟩ (.slice none 0 0)) m S T T none op (Ext H w ((w1.setCell ⟨m, 2, none⟩ (.slice (some ⟨g, 0, none⟩) gn gn)).setCell ⟨m, 3, none⟩ (.slice none 0 0))) from
    ⟨⟨a, b, .slice (some ⟨g, 0, none⟩) gn gn, .slice none 0 0, fun k => O k ∨ P1 k, P, k2, h2.keep oA (fun k hk e => (h6 k hk).2.2 e), (h3.keep oA (fun k hk e => (h7 k hk).2 e)).mono (fun k hk => .inl hk), (V1.keep oo (fun k hk e => by have := (hP1 k hk).1; omega)).mono (fun k hk => .inr hk), rfl, fun k hk => ⟨fun e => (by
      rcases e with e | e
      · exact (h6 k hk).1 e
      · have := (hP1 k e).1
        have := h.inn k (h6 k hk).2.1
        omega), .inl (h6 k hk).2.1, (h6 k hk).2.2⟩, fun k hk => (by
      rcases hk with hk | hk
      · exact ⟨.inl (h7 k hk).1, (h7 k hk).2⟩
      · exact ⟨.inr ⟨(hP1 k hk).1, Nat.lt_of_lt_of_le (hP1 k hk).2 oo.size⟩, by have := (hP1 k hk).1; omega⟩)⟩, .inl h.hm, Ext.in h.inn oA.size⟩)
  have HO := hide oA
  clear h h1 h2 h3 h4 h5 h6 h7 k1 k2 V1 hP1 o1 oo oA C1 hcs ehv
  go_wp2_with fail
  go_end0
  exact ⟨rfl, unhide HP, unhide HO⟩
set_option maxRecDepth 100000 in
set_option maxHeartbeats 1000000 in
theorem yabort_open (h : YAt w m S T U hist true H) : Calls Tryz.prog 66 #[.pointer (some ⟨m, 0, none⟩)] w fun e w' => e = .returned (.int .i64 0) ∧ YAt w' m T T U hist false (Ext H w w') ∧ Only (fun k => k = m) w w' := by
  obtain ⟨c4, _⟩ := h.cop
  obtain ⟨a, b, c, hv, O, P, h1, h2, h3, h4, h5, h6, h7⟩ := h.ex
  have C1 := hide (vclone_any (dk := m) (o := 1) (by rw [h1.cell]; rfl) h3)
  have hml := h1.lt
  obtain ⟨ca, cn, cc, hcs⟩ := h2.shape
  go_enter Tryz.func66, Tryz.ntmps66
  go_wp2_with fail
  refine (unhide C1).mono ?_
  rintro e w1 ⟨g, gn, P1, rfl, V1, hP1, o1⟩
  have k1 := h1.keep o1 (fun h => h)
  have q2 := k1.cell 0
  have q3 := k1.cell 4
  have z2 := k1.free 0
  have z3 := k1.free 4
  simp [stoC] at q2 q3
  rw [hcs] at q2
  have k2 := (k1.setCell 0 (.slice (some ⟨g, 0, none⟩) gn gn)).setCell 4 (.bool false)
  have oo : Only (fun k => k = m) w1 ((w1.setCell ⟨m, 0, none⟩ (.slice (some ⟨g, 0, none⟩) gn gn)).setCell ⟨m, 4, none⟩ (.bool false)) := (only1 (p := m) _ _).trans (only1 (p := m) _ _) (fun _ _ h => h)
  have oA : Only (fun k => k = m) w ((w1.setCell ⟨m, 0, none⟩ (.slice (some ⟨g, 0, none⟩) gn gn)).setCell ⟨m, 4, none⟩ (.bool false)) := (o1.mono (fun _ _ e => e.elim)).trans oo (fun _ _ e => e)
  have HP := hide (show YAt ((w1.setCell ⟨m, 0, none⟩ (.slice (some ⟨g, 0, none⟩) gn gn)).setCell ⟨m, 4, none⟩ (.bool false)) m T T U hist false (Ext H w ((w1.setCell ⟨m, 0, none⟩ (.slice (some ⟨g, 0, none⟩) gn gn)).setCell ⟨m, 4, none⟩ (.bool false))) from
    ⟨⟨.slice (some ⟨g, 0, none⟩) gn gn, b, c, hv, O, P1, k2, V1.keep oo (fun k hk e => by have := (hP1 k hk).1; omega), h3.keep oA (fun k hk e => (h7 k hk).2 e), h4.keep oA (fun k hk e => (h7 k hk).2 e), h5.keep oA (fun k hk e => (h7 k hk).2 e), fun k hk => ⟨fun e => (by
      have := (hP1 k hk).1
      have := h.inn k (h7 k e).1
      omega), .inr ⟨(hP1 k hk).1, Nat.lt_of_lt_of_le (hP1 k hk).2 oo.size⟩, by have := (hP1 k hk).1; omega⟩, fun k hk => ⟨.inl (h7 k hk).1, (h7 k hk).2⟩⟩, .inl h.hm, Ext.in h.inn oA.size⟩)
  have HO := hide oA
  clear h h1 h2 h3 h4 h5 h6 h7 k1 k2 V1 hP1 o1 oo oA C1 hcs c4
  go_wp2_with fail
  go_ret
  exact ⟨rfl, unhide HP, unhide HO⟩
end
end Go.Proofs.Qxb6500413aGreat
