/-
  OWN WORK. THE TABLE LAW: the walk's state with the cut.
-/
import Derived.Test.Qxb6500413aGreatJK3
namespace Go.Proofs.Qxb6500413aGreat
open Go.RowKit Go.PlainAid
set_option linter.unusedSimpArgs false
set_option linter.unusedVariables false

/-- The walk's state. -/
structure TW (lo : Nat) (w : World) (kb : Nat) (q : Gnd) (x g : Nat) (op : Bool) (S C : Vu) (T TC : List (Tb × Hd)) (cv mv : Value) (cl ml : List GE) (wv : Value) (wl : List GE) (DW : Db) : Prop where
  j : TJ lo w q x g op S C T TC cv mv cl ml
  bx : Has w kb (jbC q.d q.f) 30
  kq : ¬ q.A kb ∧ lo ≤ kb
  wg : GL w wv wl
  wp : GP (wl.map (·.t)) DW
  wq : ∀ k, GLa wv wl k → ¬ q.A k ∧ k ≠ x ∧ k ≠ g ∧ lo ≤ k
  wc : ∀ k, GLm cv cl k → ¬ GLm wv wl k
  cu : CutX q.base q.recs (fun X => ComD X DW) (fun X => ComD X (dbOf TC))
section
variable {lo : Nat} {w w' : World} {kb : Nat} {q : Gnd} {x g : Nat} {op : Bool} {S C : Vu} {T TC : List (Tb × Hd)} {cv mv wv : Value} {cl ml wl : List GE} {DW : Db}
theorem TW.quiet (K : TW lo w kb q x g op S C T TC cv mv cl ml wv wl DW) (ho : Only (fun _ => False) w w') : TW lo w' kb q x g op S C T TC cv mv cl ml wv wl DW :=
  ⟨K.j.quiet ho, K.bx.keep ho (fun e => e), K.kq, K.wg.quiet ho, K.wp, K.wq, K.wc, K.cu⟩
theorem TW.look (K : TW lo w kb q x g op S C T TC cv mv cl ml wv wl DW) (st : ST q w' x op S) (ho : Only q.S w w') : TW lo w' kb q x g op S C T TC cv mv cl ml wv wl DW :=
  ⟨K.j.look st ho, K.bx.keep ho (fun h => K.kq.1 (Gnd.S_A h)), K.kq, K.wg.keep ho (fun k hk h => (K.wq k (.inl hk)).1 (Gnd.S_A h)) (fun k hk h => (K.wq k (.inr hk)).1 (Gnd.S_A h)), K.wp, K.wq, K.wc, K.cu⟩
theorem TJ.comd (J : TJ lo w q x g op S C T TC cv mv cl ml) : ComD q.com (dbOf TC) := ⟨C, J.cf.toS, .inl ⟨TC, J.lc, rfl⟩⟩
/-- Behind a mark. -/
theorem TW.marked (K : TW lo w kb q x g op S C T TC cv mv cl ml wv wl DW) (hd : DiskAt w' q.d q.blk q.blk [] (Ext q.F w w')) (ho : Only q.F w w') : TW lo w' kb (q.mark w w') x g op S C T TC cv mv cl ml mv ml (dbOf TC) := by
  have J := K.j
  have nA : ∀ k, k < w.heap.size → ¬ q.A k → ¬ (q.mark w w').A k := fun k hk h c => by
    rcases Gnd.mark_A c with d | d
    · exact h d
    · omega
  have lo' := J.low
  have hG : GH w' g cv cl mv ml op := J.gh.keep ho (fun h => J.sg.1 (.inl h)) (fun k hk h => (J.sc k hk).1 (.inl h)) (fun k hk h => (J.sm k hk).1 (.inl h))
  have xl := J.st.has.lt
  have st : ST (q.mark w w') w' x op S := ⟨J.st.fv.marked hd ho, J.st.has.keep ho (fun h => J.st.nx (.inl h)), nA x xl J.st.nx⟩
  have J' : TJ lo w' (q.mark w w') x g op S C T TC cv mv cl ml := ⟨st, J.la, hG, J.gc, J.cf, J.lc, J.gm, ⟨nA g J.gh.has.lt J.sg.1, J.sg.2⟩, fun k hk => ⟨nA k (J.gh.cur.lt k hk) (J.sc k hk).1, (J.sc k hk).2⟩, fun k hk => ⟨nA k (J.gh.com.lt k hk) (J.sm k hk).1, (J.sm k hk).2⟩, fun k hk => by
    rcases Gnd.mark_A hk with d | d
    · exact J.qlo k d
    · omega, J.xlo⟩
  refine ⟨J', K.bx.keep ho (fun h => K.kq.1 (.inl h)), ⟨nA kb K.bx.lt K.kq.1, K.kq.2⟩, hG.com, J.gm, fun k hk => ?_, J.gh.ap, ?_⟩
  · have h := J'.sm k hk
    exact ⟨h.1, h.2.1, fun e => hG.com.neT hG.has (by decide) (by decide) (by decide) (by decide) k hk e, h.2.2⟩
  · exact (J.st.fv.still).toX J.st.fv.lcom J.st.fv.lcom J.comd J.comd
/-- Behind a step that was marked. -/
theorem TW.step (K : TW lo w kb q x g op S C T TC cv mv cl ml mv ml (dbOf TC)) (hb : q.base = q.blk) (hr : q.recs = []) {y : Ending} (h : TsP lo w q x g TC cv cl y w') :
    ∃ q' op' S' C' T' TC' cv' mv' cl' ml', TW lo w' kb q' x g op' S' C' T' TC' cv' mv' cl' ml' mv ml (dbOf TC) ∧ Only (fun k => lo ≤ k) w w' := by
  obtain ⟨_, q', op', S', C', T', TC', cv', mv', cl', ml', J', hq, f1, on⟩ := h
  have J := K.j
  have ne := J.gh.com.neT J.gh.has (by decide) (by decide) (by decide) (by decide)
  have nb : ∀ k, GLa mv ml k → ¬ (q.D k ∨ k = g ∨ GLm cv cl k) := fun k hk h => by
    rcases h with h | h | h
    · exact (J.sm k hk).1 (Gnd.D_A h)
    · exact ne k hk h
    · rcases hk with hk | hk
      · exact J.gh.ap k h hk
      · exact J.gh.cur.mi J.gh.com h hk
  have kbn : ¬ (q.D kb ∨ kb = g ∨ GLm cv cl kb) := fun h => by
    rcases h with h | h | h
    · exact K.kq.1 (Gnd.D_A h)
    · have h1 := K.bx
      rw [h] at h1
      exact absurd (h1.inj J.gh.has).2 (by decide)
    · exact J.gh.cur.neT K.bx (by decide) (by decide) (by decide) (by decide) kb (.inl h) rfl
  have oo : Only (fun k => lo ≤ k) w w' := on.mono (fun k _ h => by
    rcases h with h | h | h
    · exact J.qlo k (Gnd.D_A h)
    · rw [h]; exact J.sg.2.2
    · exact (J.sc k (.inl h)).2.2)
  have G' : GL w' mv ml := J.gh.com.keep on (fun k hk => nb k (.inl hk)) (fun k hk => nb k (.inr hk))
  have wc' : ∀ k, GLm cv' cl' k → ¬ GLm mv ml k := fun k hk hk' => by
    rcases f1 k hk with c | c
    · exact J.gh.ap k c hk'
    · have := J.gh.com.lt k (.inl hk')
      omega
  refine ⟨q', op', S', C', T', TC', cv', mv', cl', ml', ?_, oo⟩
  rcases hq with ⟨rfl, hD⟩ | ⟨rs, com, wa, wb, rfl, hwa, ci⟩
  · refine ⟨J', K.bx.keep on kbn, K.kq, G', J.gm, K.wq, wc', ?_⟩
    rw [hb, hr, hD]
    exact (J.st.fv.still).toX J.st.fv.lcom J.st.fv.lcom J.comd J.comd
  · have nA : ∀ k, k < w.heap.size → ¬ q.A k → ¬ (q.done rs com wa wb).A k := fun k hk h c => by
      rcases done_A c with d | d
      · exact h d
      · omega
    refine ⟨J', K.bx.keep on kbn, ⟨nA kb K.bx.lt K.kq.1, K.kq.2⟩, G', J.gm, fun k hk => ⟨nA k (J.gh.com.lt k hk) (K.wq k hk).1, (K.wq k hk).2⟩, wc', ?_⟩
    have lc' : com.length = 80 := J'.st.fv.lcom
    have c2 := J'.comd
    have h := CutInv.toX (P := fun X => ComD X (dbOf TC)) (Q := fun X => ComD X (dbOf TC')) ci J.st.fv.lcom lc' J.comd c2
    show CutX q.base (q.recs ++ rs) _ _
    rw [hb, hr, List.nil_append]
    exact h
/-- Behind a recovery: the ghost settles on what is shown. -/
theorem TW.settled {q' : Gnd} {x' : Nat} {S' : Vu} {T' : List (Tb × Hd)} {nv mv2 : Value} {nl ml2 : List GE} (hG : GH w' g nv nl mv2 ml2 false) (hm : GP (ml2.map (·.t)) (dbOf T')) (hn : nl.map (·.t) = ml2.map (·.t)) (hb : Has w' kb (jbC q'.d q'.f) 30) (st : ST q' w' x' false S') (la : Lay S' T') (cf : ComF q'.com S') (cu : CutX q'.base q'.recs (fun X => ComD X (dbOf T')) (fun X => ComD X (dbOf T')))
    (sg : ¬ q'.A g ∧ g ≠ x' ∧ lo ≤ g) (sk : ¬ q'.A kb ∧ lo ≤ kb) (sn : ∀ k, GLa nv nl k → ¬ q'.A k ∧ k ≠ x' ∧ lo ≤ k) (sm : ∀ k, GLa mv2 ml2 k → ¬ q'.A k ∧ k ≠ x' ∧ lo ≤ k) (qlo : ∀ k, q'.A k → lo ≤ k) (xlo : lo ≤ x') : TW lo w' kb q' x' g false S' S' T' T' nv mv2 nl ml2 mv2 ml2 (dbOf T') :=
  ⟨⟨st, la, hG, by rw [hn]; exact hm, cf, la, hm, sg, sn, sm, qlo, xlo⟩, hb, sk, hG.com, hm, fun k hk => ⟨(sm k hk).1, (sm k hk).2.1, fun e => hG.com.neT hG.has (by decide) (by decide) (by decide) (by decide) k hk e, (sm k hk).2.2⟩, hG.ap, cu⟩
/-- What Open leaves over a recovered ground (or over the first). -/
def OpnP (w : World) (D : Db) (y : Ending) (w' : World) (q : Gnd) : Prop :=
  ∃ x' q' S' T', y = .returned (.pointer (some ⟨x', 0, none⟩)) ∧ w.heap.size ≤ x' ∧ ST q' w' x' false S' ∧ Lay S' T' ∧ dbOf T' = D ∧ ComF q'.com S' ∧ CutX q'.base q'.recs (fun X => ComD X D) (fun X => ComD X D) ∧ q'.d = q.d ∧ q'.f = q.f ∧ (∀ k, q'.A k → q.A k ∨ w.heap.size ≤ k) ∧ Only q.D w w'
theorem eopen_any {D : Db} (A : FV q w false S) (cf : ComF q.com S) (hD : (∃ T, Lay S T ∧ dbOf T = D) ∨ (S = (fun _ => none) ∧ D = [])) (cu : CutX q.base q.recs (fun X => ComD X D) (fun X => ComD X D)) (hb : q.blk = replay q.base q.recs) (hrc : q.recs.length ≤ 300) : Calls Tryz.prog 17 #[.pointer (some ⟨q.f, 0, none⟩)] w fun y w' => OpnP w D y w' q := by
  rcases hD with ⟨T, la, hd⟩ | ⟨rfl, rfl⟩
  · refine (eopen_used A (by rw [la.cat]; simp)).mono ?_
    rintro y w' ⟨x', rfl, hx, st, o⟩
    exact ⟨x', q, S, T, rfl, hx, st, la, hd, cf, cu, rfl, rfl, fun k hk => .inl hk, Only.S_D o⟩
  · refine (eopen_blank A hrc).mono ?_
    rintro y w' ⟨x', rs, com, wa, wb, rfl, hx, hwa, st, cf', ci, o⟩
    have lc : com.length = 80 := st.fv.lcom
    have hQ : ComD com [] := ⟨_, cf'.toS, .inl ⟨[], Lay.fresh, rfl⟩⟩
    have hP : ComD q.com [] := ⟨_, cf.toS, .inr ⟨rfl, rfl⟩⟩
    rw [hb] at ci
    exact ⟨x', q.done rs com wa wb, _, [], rfl, hx, st, Lay.fresh, rfl, cf', CutX.join cu ci A.lcom lc hP hQ (by omega), rfl, rfl, fun k hk => by
      rcases done_A hk with d | d
      · exact .inl d
      · exact .inr (by omega), o⟩
set_option maxRecDepth 100000 in
theorem enew_any {D : Db} (A : FV q w false S) (cf : ComF q.com S) (hD : (∃ T, Lay S T ∧ dbOf T = D) ∨ (S = (fun _ => none) ∧ D = [])) (cu : CutX q.base q.recs (fun X => ComD X D) (fun X => ComD X D)) (hb : q.blk = replay q.base q.recs) (hrc : q.recs.length ≤ 300) : Calls Tryz.prog 11 #[.pointer (some ⟨q.f, 0, none⟩)] w fun y w' => OpnP w D y w' q := by
  have C := hide (eopen_any A cf hD cu hb hrc)
  clear A cf hD cu hb
  go_enter Tryz.func11, Tryz.ntmps11
  go_wp2_with fail
  refine (unhide C).mono ?_
  rintro y w' ⟨x', q', S', T', rfl, h⟩
  have HP := hide (show OpnP w D (.returned (.pointer (some ⟨x', 0, none⟩))) w' q from ⟨x', q', S', T', rfl, h⟩)
  clear h C
  go_wp2_with fail
  go_ret
  exact unhide HP
end
end Go.Proofs.Qxb6500413aGreat
