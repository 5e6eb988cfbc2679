/-
  OWN WORK. THE TABLE LAW's MODEL: CloneTable, Clone of a database.
-/
import Derived.Test.Qxb6500412aGreatMM2
namespace Go.Proofs.Qxb6500412aGreat
open Go.RowKit Go.PlainAid
set_option linter.unusedSimpArgs false
set_option linter.unusedVariables false

def tbA (e : GE) : Value := .agg #[.string e.t.nm, e.cv, .int .i64 (e.t.pk : Int), .int .i64 (ixI e.t.ix), e.rv]
def tbC (e : GE) : Array Value := #[.string e.t.nm, e.cv, .int .i64 (e.t.pk : Int), .int .i64 (ixI e.t.ix), e.rv]
def tbZ : Array Value := #[.string ⟨#[]⟩, .slice none 0 0, .int .i64 0, .int .i64 0, .slice none 0 0]
def CtP (w : World) (e : GE) (x : Ending) (w' : World) : Prop := ∃ e' : GE, x = .returned (tbA e') ∧ GEl w' e' ∧ e'.t = e.t ∧ (∀ k, GEm e' k ∨ GEi e' k → w.heap.size ≤ k) ∧ Only (fun _ => False) w w'
section
variable {w : World} {e : GE}
set_option maxRecDepth 100000 in
set_option maxHeartbeats 4000000 in
theorem mcloneTable_any (E : GEl w e) : Calls Tryz.prog 178 #[tbA e] w (CtP w e) := by
  have HOK := hide E.ok
  have h3 := E.ok.n3
  obtain ⟨t, cv, rv, us⟩ := e
  obtain ⟨ca, cc, hcv⟩ := E.col.shape
  obtain ⟨ra, rc, hrv⟩ := E.rshape
  simp only at hcv hrv h3
  subst hcv hrv
  have o1 : Only (fun _ => False) w ((w.alloc (.cells #[.string t.nm, .slice ca t.cols.length cc, .int .i64 (t.pk : Int), .int .i64 (ixI t.ix), .slice ra t.rows.length rc] 249)).alloc (.cells #[.string ⟨#[]⟩, .slice none 0 0, .int .i64 0, .int .i64 0, .slice none 0 0] 249)) := ((Only.refl _ w).alloc _).alloc _
  have A1 : Has ((w.alloc (.cells #[.string t.nm, .slice ca t.cols.length cc, .int .i64 (t.pk : Int), .int .i64 (ixI t.ix), .slice ra t.rows.length rc] 249)).alloc (.cells #[.string ⟨#[]⟩, .slice none 0 0, .int .i64 0, .int .i64 0, .slice none 0 0] 249)) w.heap.size #[.string t.nm, .slice ca t.cols.length cc, .int .i64 (t.pk : Int), .int .i64 (ixI t.ix), .slice ra t.rows.length rc] 249 := (Has.new w _ _).alloc _
  have B1 : Has ((w.alloc (.cells #[.string t.nm, .slice ca t.cols.length cc, .int .i64 (t.pk : Int), .int .i64 (ixI t.ix), .slice ra t.rows.length rc] 249)).alloc (.cells #[.string ⟨#[]⟩, .slice none 0 0, .int .i64 0, .int .i64 0, .slice none 0 0] 249)) (w.heap.size + 1) #[.string ⟨#[]⟩, .slice none 0 0, .int .i64 0, .int .i64 0, .slice none 0 0] 249 := Has.new' _ _ _ _ (by simp)
  have HX := hide (And.intro o1 (And.intro A1 (And.intro B1 (E.keep o1 (fun _ _ e => e) (fun _ _ e => e)))))
  unfold tbA
  clear E o1 A1 B1
  simp only
  go_enter Tryz.func178, Tryz.ntmps178
  go_upto_region 1 with fail
  generalize (w.alloc (.cells #[.string t.nm, .slice ca t.cols.length cc, .int .i64 (t.pk : Int), .int .i64 (ixI t.ix), .slice ra t.rows.length rc] 249)).alloc (.cells #[.string ⟨#[]⟩, .slice none 0 0, .int .i64 0, .int .i64 0, .slice none 0 0] 249) = w1 at *
  have z1 := (unhide HX).1.size
  have z2 := (unhide HX).2.2.1.lt
  have HZ := hide (And.intro z1 (show w.heap.size + 1 < w1.heap.size from z2))
  generalize hkb : w.heap.size = kb at *
  have HKB := hide hkb
  clear hkb z1 z2
  have CS := mcloneSchema_any (unhide HX).2.2.2.col (by simp only; omega) t.nm (t.pk : Int) (ixI t.ix)
  unfold schA at CS
  simp only at CS
  have CS := hide CS
  have a0 := (unhide HX).2.1.cell 0
  have a1 := (unhide HX).2.1.cell 1
  have a2 := (unhide HX).2.1.cell 2
  have a3 := (unhide HX).2.1.cell 3
  simp at a0 a1 a2 a3
  go_wp2_with fail
  refine (unhide CS).mono ?_
  rintro x w2 ⟨z, rfl, OC, hz, o2⟩
  clear CS a0 a1 a2 a3
  have o3 : Only (fun _ => False) w2 (w2.alloc (.cells #[.string t.nm, .slice (some ⟨z, 0, none⟩) t.cols.length t.cols.length, .int .i64 (t.pk : Int), .int .i64 (ixI t.ix)] 79)) := (Only.refl _ w2).alloc _
  have S3 : Has (w2.alloc (.cells #[.string t.nm, .slice (some ⟨z, 0, none⟩) t.cols.length t.cols.length, .int .i64 (t.pk : Int), .int .i64 (ixI t.ix)] 79)) w2.heap.size #[.string t.nm, .slice (some ⟨z, 0, none⟩) t.cols.length t.cols.length, .int .i64 (t.pk : Int), .int .i64 (ixI t.ix)] 79 := Has.new w2 _ _
  have o13 := o2.trans o3 (fun _ _ e => e)
  have H3 := hide (And.intro o13 (And.intro S3 (And.intro (OC.keep o3 (fun _ _ e => e)) (And.intro hz (show w1.heap.size ≤ w2.heap.size from o2.size)))))
  clear OC hz o2 o3 S3 o13
  go_upto_region 2 with fail
  generalize w2.alloc (.cells #[.string t.nm, .slice (some ⟨z, 0, none⟩) t.cols.length t.cols.length, .int .i64 (t.pk : Int), .int .i64 (ixI t.ix)] 79) = w3 at *
  generalize w2.heap.size = sb at *
  have E3 := (unhide HX).2.2.2.keep (unhide H3).1 (fun _ _ e => e) (fun _ _ e => e)
  have CR := mcloneRows_any E3
  simp only at CR
  have CR := hide CR
  have a4 := ((unhide HX).2.1.keep (unhide H3).1 (fun e => e)).cell 4
  simp at a4
  clear E3
  go_wp2_with fail
  refine (unhide CR).mono ?_
  rintro x w4 ⟨y, us', rfl, hul, OR, hrow, hy, hfr, o4⟩
  clear CR a4
  have o14 := (unhide H3).1.trans o4 (fun _ _ e => e)
  have S4 := (unhide H3).2.1.keep o4 (fun e => e)
  have B4 := (unhide HX).2.2.1.keep o14 (fun e => e)
  have OC4 := (unhide H3).2.2.1.keep o4 (fun _ _ e => e)
  have s0 := S4.cell 0
  have s1 := S4.cell 1
  have s2 := S4.cell 2
  have s3 := S4.cell 3
  have e0 := B4.cell 0
  have e1 := B4.cell 1
  have e2 := B4.cell 2
  have e3 := B4.cell 3
  have e4 := B4.cell 4
  have f0 := B4.free 0
  have f1 := B4.free 1
  have f2 := B4.free 2
  have f3 := B4.free 3
  have f4 := B4.free 4
  simp at s0 s1 s2 s3 e0 e1 e2 e3 e4
  have hF : ∃ W, W = (((((w4.setCell ⟨kb + 1, 0, none⟩ (.string t.nm)).setCell ⟨kb + 1, 1, none⟩ (.slice (some ⟨z, 0, none⟩) t.cols.length t.cols.length)).setCell ⟨kb + 1, 2, none⟩ (.int .i64 (t.pk : Int))).setCell ⟨kb + 1, 3, none⟩ (.int .i64 (ixI t.ix))).setCell ⟨kb + 1, 4, none⟩ (.slice (some ⟨y, 0, none⟩) t.rows.length t.rows.length)) := ⟨_, rfl⟩
  obtain ⟨W, hW⟩ := hF
  have og : Only (fun k => k = kb + 1) w4 W := by
    rw [hW]
    exact ((((only1 (p := kb + 1) _ _).trans (only1 (p := kb + 1) _ _) (fun _ _ h => h)).trans (only1 (p := kb + 1) _ _) (fun _ _ h => h)).trans (only1 (p := kb + 1) _ _) (fun _ _ h => h)).trans (only1 (p := kb + 1) _ _) (fun _ _ h => h)
  have Bf : Has W (kb + 1) #[.string t.nm, .slice (some ⟨z, 0, none⟩) t.cols.length t.cols.length, .int .i64 (t.pk : Int), .int .i64 (ixI t.ix), .slice (some ⟨y, 0, none⟩) t.rows.length t.rows.length] 249 := by
    rw [hW]
    exact ((((B4.setCell 0 _).setCell 1 _).setCell 2 _).setCell 3 _).setCell 4 _
  have z34 := o4.size
  have z13 := (unhide H3).1.size
  have hzz := (unhide H3).2.2.2
  have hz1 := (unhide HZ)
  have HP := hide (show CtP w ⟨t, .slice ca t.cols.length cc, .slice ra t.rows.length rc, us⟩ (.returned (.agg #[.string t.nm, .slice (some ⟨z, 0, none⟩) t.cols.length t.cols.length, .int .i64 (t.pk : Int), .int .i64 (ixI t.ix), .slice (some ⟨y, 0, none⟩) t.rows.length t.rows.length])) W from by
    refine ⟨⟨t, .slice (some ⟨z, 0, none⟩) t.cols.length t.cols.length, .slice (some ⟨y, 0, none⟩) t.rows.length t.rows.length, us'⟩, rfl, ⟨unhide HOK, OC4.keep og (fun k hk e => by simp [Value.ownBlock] at hk; omega), ownsRow_keep OR og (fun k hk e => by simp [Value.ownBlock] at hk; omega), hul, fun j u r hu hr => (hrow j u r hu hr).keep og (fun k hk e => by have := hfr u (List.mem_of_getElem? hu) k hk; omega)⟩, rfl, fun k hk => ?_, ((unhide HX).1.trans o14 (fun _ _ e => e)).fresh og (by have := unhide HKB; omega)⟩
    have hkb := unhide HKB
    rcases hk with hk | hk | ⟨u, hu, hk⟩
    · unfold GEm at hk; simp [Value.ownBlock] at hk; omega
    · simp [Value.ownBlock] at hk; omega
    · have := hfr u hu k hk; omega)
  have q0 := Bf.cell 0
  have q1 := Bf.cell 1
  have q2 := Bf.cell 2
  have q3 := Bf.cell 3
  have q4 := Bf.cell 4
  simp at q0 q1 q2 q3 q4
  have HQ := hide (And.intro q0 (And.intro q1 (And.intro q2 (And.intro q3 (And.intro q4 hW)))))
  clear o14 S4 B4 OC4 OR hrow hfr o4 hul hy og Bf hW q0 q1 q2 q3 q4 z34 z13 hzz hz1 HX H3
  go_wp2_with fail
  obtain ⟨q0, q1, q2, q3, q4, hW⟩ := unhide HQ
  subst hW
  refine bodyPost_ret (v := .agg #[.string t.nm, .slice (some ⟨z, 0, none⟩) t.cols.length t.cols.length, .int .i64 (t.pk : Int), .int .i64 (ixI t.ix), .slice (some ⟨y, 0, none⟩) t.rows.length t.rows.length]) (by simp [results, Tryz.results178, go_sem, q0, q1, q2, q3, q4]) rfl (unhide HP)
end
end Go.Proofs.Qxb6500412aGreat
