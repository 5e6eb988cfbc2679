/-
  OWN WORK. THE TABLE LAW's GHOST: the whole of it; DueBracket.
-/
import Derived.Test.Qxb6500413aGreatJG2
namespace Go.Proofs.Qxb6500413aGreat
open Go.RowKit Go.PlainAid
set_option linter.unusedSimpArgs false
set_option linter.unusedVariables false

/-- The ghost at g: its current tables, its committed ones, its bracket. -/
structure GH (w : World) (g : Nat) (cv : Value) (cl : List GE) (mv : Value) (ml : List GE) (op : Bool) : Prop where
  has : Has w g #[cv, mv, .bool op] 38
  cur : GL w cv cl
  com : GL w mv ml
  ap : ∀ k, GLm cv cl k → ¬ GLm mv ml k
theorem GL.neT {w : World} {v : Value} {l : List GE} (h : GL w v l) {g : Nat} {c : Array Value} {t : TypeId} (H : Has w g c t) (h1 : 68 ≠ t) (h2 : 76 ≠ t) (h3 : 176 ≠ t) (h4 : 72 ≠ t) : ∀ k, GLm v l k ∨ GLi l k → k ≠ g := by
  rintro k ((hk | ⟨e, he, hk⟩) | ⟨e, he, hk⟩) rfl
  · exact ownsRow_ne h.own H h1 k hk rfl
  · exact ownsRow_ne (h.el e he).rs H h2 k hk rfl
  · exact (h.el e he).imm hk H h3 h4
section
variable {w w' : World} {g : Nat} {cv mv : Value} {cl ml : List GE} {op : Bool}
theorem GH.keep {B : Nat → Prop} (h : GH w g cv cl mv ml op) (ho : Only B w w') (hg : ¬ B g) (hc : ∀ k, GLm cv cl k ∨ GLi cl k → ¬ B k) (hm : ∀ k, GLm mv ml k ∨ GLi ml k → ¬ B k) : GH w' g cv cl mv ml op :=
  ⟨h.has.keep ho hg, h.cur.keep ho (fun k hk => hc k (.inl hk)) (fun k hk => hc k (.inr hk)), h.com.keep ho (fun k hk => hm k (.inl hk)) (fun k hk => hm k (.inr hk)), h.ap⟩
theorem GH.quiet (h : GH w g cv cl mv ml op) (ho : Only (fun _ => False) w w') : GH w' g cv cl mv ml op := h.keep ho (fun e => e) (fun _ _ e => e) (fun _ _ e => e)
/-- Another list in a place of the ghost. -/
theorem GH.lay (h : GH w g cv cl mv ml op) {cv' mv' : Value} {cl' ml' : List GE} {op' : Bool} (ho : Only (fun k => k = g) w w') (H : Has w' g #[cv', mv', .bool op'] 38) (hc : GL w cv' cl') (hm : GL w mv' ml') (ap : ∀ k, GLm cv' cl' k → ¬ GLm mv' ml' k) : GH w' g cv' cl' mv' ml' op' :=
  ⟨H, hc.keep ho (fun k hk => hc.neT h.has (by decide) (by decide) (by decide) (by decide) k (.inl hk)) (fun k hk => hc.neT h.has (by decide) (by decide) (by decide) (by decide) k (.inr hk)), hm.keep ho (fun k hk => hm.neT h.has (by decide) (by decide) (by decide) (by decide) k (.inl hk)) (fun k hk => hm.neT h.has (by decide) (by decide) (by decide) (by decide) k (.inr hk)), ap⟩
/-- What a bracket step owes and does. -/
def DBr (kind : Int) (op : Bool) (C M : List Tb) (z : Int) (op' : Bool) (C' M' : List Tb) : Prop :=
  (kind = 1 ∧ op = true ∧ z = 3 ∧ op' = op ∧ C' = C ∧ M' = M) ∨ (kind = 1 ∧ op = false ∧ z = 0 ∧ op' = true ∧ C' = C ∧ M' = M) ∨ (kind ≠ 1 ∧ op = false ∧ z = 2 ∧ op' = op ∧ C' = C ∧ M' = M) ∨
  (kind = 2 ∧ op = true ∧ z = 0 ∧ op' = false ∧ C' = C ∧ M' = C) ∨ (kind ≠ 1 ∧ kind ≠ 2 ∧ op = true ∧ z = 0 ∧ op' = false ∧ C' = M ∧ M' = M)
def BrP (kind : Int) (w : World) (g : Nat) (cv : Value) (cl : List GE) (mv : Value) (ml : List GE) (op : Bool) (x : Ending) (w' : World) : Prop :=
  ∃ (cv' : Value) (cl' : List GE) (mv' : Value) (ml' : List GE) (op' : Bool) (z : Int), x = .returned (.int .i64 z) ∧ GH w' g cv' cl' mv' ml' op' ∧ DBr kind op (cl.map (·.t)) (ml.map (·.t)) z op' (cl'.map (·.t)) (ml'.map (·.t)) ∧
    (∀ k, GLm cv' cl' k → GLm cv cl k ∨ w.heap.size ≤ k) ∧ (∀ k, GLm mv' ml' k → GLm mv ml k ∨ w.heap.size ≤ k) ∧ (∀ k, GLi cl' k ∨ GLi ml' k → GLi cl k ∨ GLi ml k) ∧ Only (fun k => k = g) w w'
set_option maxRecDepth 100000 in
set_option maxHeartbeats 4000000 in
theorem jdueB_any (H : GH w g cv cl mv ml op) (kind : Int) : Calls Tryz.prog 105 #[.pointer (some ⟨g, 0, none⟩), .int .i64 kind] w (BrP kind w g cv cl mv ml op) := by
  have c0 := H.has.cell 0
  have c1 := H.has.cell 1
  have c2 := H.has.cell 2
  simp at c0 c1 c2
  have f2 := H.has.free 2
  by_cases k1 : kind = 1
  · have b1 : (kind == 1) = true := by simpa using k1
    cases op with
    | true =>
      have HP := hide (show BrP kind w g cv cl mv ml true (.returned (.int .i64 3)) w from ⟨cv, cl, mv, ml, true, 3, rfl, H, .inl ⟨k1, rfl, rfl, rfl, rfl, rfl⟩, fun k hk => .inl hk, fun k hk => .inl hk, fun k hk => hk, Only.refl _ _⟩)
      clear H k1
      go_enter Tryz.func105, Tryz.ntmps105
      go_wp2_with fail
      go_ret
      exact unhide HP
    | false =>
      have HP := hide (show BrP kind w g cv cl mv ml false (.returned (.int .i64 0)) (w.setCell ⟨g, 2, none⟩ (.bool true)) from ⟨cv, cl, mv, ml, true, 0, rfl, H.lay (only1 _ _) (H.has.setCell 2 _) H.cur H.com H.ap, .inr (.inl ⟨k1, rfl, rfl, rfl, rfl, rfl⟩), fun k hk => .inl hk, fun k hk => .inl hk, fun k hk => hk, only1 _ _⟩)
      clear H k1
      go_enter Tryz.func105, Tryz.ntmps105
      go_wp2_with fail
      go_ret
      exact unhide HP
  · have b1 : (kind == 1) = false := by simpa using k1
    cases op with
    | false =>
      have HP := hide (show BrP kind w g cv cl mv ml false (.returned (.int .i64 2)) w from ⟨cv, cl, mv, ml, false, 2, rfl, H, .inr (.inr (.inl ⟨k1, rfl, rfl, rfl, rfl, rfl⟩)), fun k hk => .inl hk, fun k hk => .inl hk, fun k hk => hk, Only.refl _ _⟩)
      clear H k1
      go_enter Tryz.func105, Tryz.ntmps105
      go_wp2_with fail
      go_ret
      exact unhide HP
    | true =>
      by_cases k2 : kind = 2
      · have b2 : (kind == 2) = true := by simpa using k2
        have CC := hide (jgclone_any H.cur)
        have HH := hide H
        have HK := hide k2
        clear H k1 k2
        go_enter Tryz.func105, Tryz.ntmps105
        go_wp2_with fail
        refine (unhide CC).mono ?_
        rintro e w2 ⟨v', l', rfl, G', ht, hf, hi, o2⟩
        have H2 := (unhide HH).quiet o2
        have d1 := H2.has.cell 1
        have d2 := H2.has.cell 2
        simp at d1 d2
        have f1 := H2.has.free 1
        have f2 := H2.has.free 2
        obtain ⟨a', cap', hv⟩ := G'.shape
        have oo : Only (fun k => k = g) w2 ((w2.setCell ⟨g, 1, none⟩ v').setCell ⟨g, 2, none⟩ (.bool false)) := (only1 (p := g) _ _).trans (only1 (p := g) _ _) (fun _ _ h => h)
        have HP := hide (show BrP kind w g cv cl mv ml true (.returned (.int .i64 0)) ((w2.setCell ⟨g, 1, none⟩ v').setCell ⟨g, 2, none⟩ (.bool false)) from
          ⟨cv, cl, v', l', false, 0, rfl, H2.lay oo ((H2.has.setCell 1 _).setCell 2 _) H2.cur G' (fun k hk hk' => by have := (unhide HH).cur.lt k (.inl hk); have := hf k hk'; omega), .inr (.inr (.inr (.inl ⟨unhide HK, rfl, rfl, rfl, rfl, ht⟩))), fun k hk => .inl hk, fun k hk => .inr (hf k hk), fun k hk => .inl (hk.elim id (hi k)), (o2.mono (fun _ _ e => e.elim)).trans oo (fun _ _ e => e)⟩)
        rw [hv] at HP ⊢
        clear H2 G' ht hf hi o2 oo hv CC c0 c1 c2
        go_wp2_with fail
        go_ret
        exact unhide HP
      · have b2 : (kind == 2) = false := by simpa using k2
        have CC := hide (jgclone_any H.com)
        have HH := hide H
        have HK := hide (And.intro k1 k2)
        clear H k1 k2
        go_enter Tryz.func105, Tryz.ntmps105
        go_wp2_with fail
        refine (unhide CC).mono ?_
        rintro e w2 ⟨v', l', rfl, G', ht, hf, hi, o2⟩
        have H2 := (unhide HH).quiet o2
        have d1 := H2.has.cell 0
        have d2 := H2.has.cell 2
        simp at d1 d2
        have f1 := H2.has.free 0
        have f2 := H2.has.free 2
        obtain ⟨a', cap', hv⟩ := G'.shape
        have oo : Only (fun k => k = g) w2 ((w2.setCell ⟨g, 0, none⟩ v').setCell ⟨g, 2, none⟩ (.bool false)) := (only1 (p := g) _ _).trans (only1 (p := g) _ _) (fun _ _ h => h)
        have HP := hide (show BrP kind w g cv cl mv ml true (.returned (.int .i64 0)) ((w2.setCell ⟨g, 0, none⟩ v').setCell ⟨g, 2, none⟩ (.bool false)) from
          ⟨v', l', mv, ml, false, 0, rfl, H2.lay oo ((H2.has.setCell 0 _).setCell 2 _) G' H2.com (fun k hk hk' => by have := (unhide HH).com.lt k (.inl hk'); have := hf k hk; omega), .inr (.inr (.inr (.inr ⟨(unhide HK).1, (unhide HK).2, rfl, rfl, rfl, ht, rfl⟩))), fun k hk => .inr (hf k hk), fun k hk => .inl hk, fun k hk => .inr (hk.elim (hi k) id), (o2.mono (fun _ _ e => e.elim)).trans oo (fun _ _ e => e)⟩)
        rw [hv] at HP ⊢
        clear H2 G' ht hf hi o2 oo hv CC c0 c1 c2
        go_wp2_with fail
        go_ret
        exact unhide HP
end
end Go.Proofs.Qxb6500413aGreat
