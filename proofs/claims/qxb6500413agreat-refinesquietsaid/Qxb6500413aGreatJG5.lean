/-
  OWN WORK. THE TABLE LAW's GHOST: rows of a table turned in memory.
-/
import Derived.Test.Qxb6500413aGreatJG4
import Derived.Test.Qxb6500413aGreatJP2
namespace Go.Proofs.Qxb6500413aGreat
open Go.RowKit Go.PlainAid
set_option linter.unusedSimpArgs false
set_option linter.unusedVariables false

theorem gcs_rv : ∀ {l : List GE} {i : Nat} {e e' : GE}, l[i]? = some e → e'.t.nm = e.t.nm → e'.cv = e.cv → e'.t.pk = e.t.pk → e'.t.ix = e.t.ix → gcs (l.set i e') = (gcs l).set (i * 5 + 4) e'.rv
  | [], i, e, e', h, _, _, _, _ => by simp at h
  | f :: r, 0, e, e', h, h1, h2, h3, h4 => by
    obtain rfl : f = e := by simpa using h
    simp [gcs, h1, h2, h3, h4]
  | f :: r, i + 1, e, e', h, h1, h2, h3, h4 => by
    have ih := gcs_rv (l := r) (i := i) (e := e) (e' := e') (by simpa using h) h1 h2 h3 h4
    have e : (i + 1) * 5 + 4 = (i * 5 + 4) + 5 := by omega
    rw [e, List.set_cons_succ]
    simp only [gcs, ih, List.cons_append, List.nil_append, List.set_cons_succ]
theorem gcs_same {l : List GE} {i : Nat} {e e' : GE} (h : l[i]? = some e) (h1 : e'.t.nm = e.t.nm) (h2 : e'.cv = e.cv) (h3 : e'.t.pk = e.t.pk) (h4 : e'.t.ix = e.t.ix) (h5 : e'.rv = e.rv) : gcs (l.set i e') = gcs l := by
  rw [gcs_rv h h1 h2 h3 h4, h5]
  have := (gcs_at l i h).2.2.2.2
  obtain ⟨hi, hx⟩ := List.getElem?_eq_some_iff.mp this
  rw [← hx, List.set_getElem_self]
section
variable {w : World} {l : List GE} {b cap i : Nat} {e : GE}
/-- The list's block is none of the rows' blocks. -/
theorem GL.bne (h : GL w (.slice (some ⟨b, 0, none⟩) l.length cap) l) (hi : l[i]? = some e) : ∀ k, GEm e k ∨ GEi e k → k ≠ b := by
  obtain ⟨c, hc⟩ := ownsRow_has h.own (k := b) rfl
  have E := h.el e (List.mem_of_getElem? hi)
  rintro k (hk | hk) rfl
  · exact ownsRow_ne E.rs hc (by decide) k hk rfl
  · exact E.imm hk hc (by decide) (by decide)
/-- A row in the place of another. -/
theorem GL.setRow (h : GL w (.slice (some ⟨b, 0, none⟩) l.length cap) l) (hi : l[i]? = some e) {rg rc j : Nat} (hrv : e.rv = .slice (some ⟨rg, 0, none⟩) e.t.rows.length rc) (hj : j < e.t.rows.length) {u : Value} {row : List Vl} (hu : OwnV w u row) (ok : GOk (withR e.t (e.t.rows.set j row))) :
    GL (w.setCell ⟨rg, j, none⟩ u) (.slice (some ⟨b, 0, none⟩) l.length cap) (l.set i ⟨withR e.t (e.t.rows.set j row), e.cv, e.rv, e.us.set j u⟩) ∧ Only (GUp b e) w (w.setCell ⟨rg, j, none⟩ u) := by
  have E := h.el e (List.mem_of_getElem? hi)
  have hm : GEm e rg := by unfold GEm; rw [hrv]; rfl
  have o1 : Only (fun k => k = rg) w (w.setCell ⟨rg, j, none⟩ u) := only1 _ _
  have oo : Only (GUp b e) w (w.setCell ⟨rg, j, none⟩ u) := o1.mono (fun k _ e' => .inr (by rw [e']; exact hm))
  have hbr := h.bne hi rg (.inl hm)
  obtain ⟨c, hc⟩ := ownsRow_has E.rs hm
  have n := E.n
  have iv : ∀ {x : Value} {r : List Vl}, OwnV w x r → OwnV (w.setCell ⟨rg, j, none⟩ u) x r := fun O => O.keep o1 (fun k hk e' => ownsRow_ne O hc (by decide) k hk e')
  refine ⟨h.upd hi oo ?_ ⟨ok, E.col.keep o1 (fun k hk e' => ownsRow_ne E.col hc (by decide) k hk e'), ?_, ?_, fun p x r hx hr => ?_⟩ rfl (fun k hk => .inl hk), oo⟩
  · rw [gcs_same (e' := ⟨withR e.t (e.t.rows.set j row), e.cv, e.rv, e.us.set j u⟩) hi rfl rfl rfl rfl rfl]
    exact ownsRow_keep h.own o1 (fun k hk e' => by simp [Value.ownBlock] at hk; omega)
  · have R := E.rs
    rw [hrv] at R ⊢
    rw [n] at R
    simp only [List.length_set]
    rw [n]
    exact gbrowset R u
  · simp only [List.length_set, withR]; exact n
  · simp only [withR] at hr
    by_cases cc : j = p
    · subst cc
      rw [List.getElem?_set_self (by omega)] at hx
      rw [List.getElem?_set_self hj] at hr
      cases hx
      cases hr
      exact iv hu
    · rw [List.getElem?_set_ne cc] at hx hr
      exact iv (E.row p x r hx hr)
/-- The rows cut short. -/
theorem GL.cutRow (h : GL w (.slice (some ⟨b, 0, none⟩) l.length cap) l) (hi : l[i]? = some e) {rg rc m : Nat} (hrv : e.rv = .slice (some ⟨rg, 0, none⟩) e.t.rows.length rc) (hm : m ≤ e.t.rows.length) (ok : GOk (withR e.t (e.t.rows.take m))) :
    GL (w.setCell ⟨b, i * 5 + 4, none⟩ (.slice (some ⟨rg, 0, none⟩) m rc)) (.slice (some ⟨b, 0, none⟩) l.length cap) (l.set i ⟨withR e.t (e.t.rows.take m), e.cv, .slice (some ⟨rg, 0, none⟩) m rc, e.us.take m⟩) ∧ Only (GUp b e) w (w.setCell ⟨b, i * 5 + 4, none⟩ (.slice (some ⟨rg, 0, none⟩) m rc)) := by
  have E := h.el e (List.mem_of_getElem? hi)
  have hge : GEm e rg := by unfold GEm; rw [hrv]; rfl
  have o1 : Only (fun k => k = b) w (w.setCell ⟨b, i * 5 + 4, none⟩ (.slice (some ⟨rg, 0, none⟩) m rc)) := only1 _ _
  have oo : Only (GUp b e) w (w.setCell ⟨b, i * 5 + 4, none⟩ (.slice (some ⟨rg, 0, none⟩) m rc)) := o1.mono (fun k _ e' => .inl e')
  have n := E.n
  refine ⟨h.upd hi oo ?_ ⟨ok, E.col.keep o1 (fun k hk e' => h.bne hi k (.inr (.inl hk)) e'), ?_, ?_, fun p x r hx hr => ?_⟩ rfl (fun k hk => .inl ?_), oo⟩
  · rw [gcs_rv (e' := ⟨withR e.t (e.t.rows.take m), e.cv, .slice (some ⟨rg, 0, none⟩) m rc, e.us.take m⟩) hi rfl rfl rfl rfl]
    exact gbrowset h.own _
  · have R := E.rs
    rw [hrv, n] at R
    have hl : (e.us.take m).length = m := by rw [List.length_take]; omega
    simp only [hl]
    have := gcutrow R hm
    rw [Nat.mul_one] at this
    exact ownsRow_keep this o1 (fun k hk e' => h.bne hi k (.inl (by simp [Value.ownBlock] at hk; rw [← hk]; exact hge)) e')
  · simp only [withR, List.length_take]; omega
  · simp only [withR] at hr
    rw [List.getElem?_take] at hx hr
    by_cases c : p < m
    · rw [if_pos c] at hx hr
      exact (E.row p x r hx hr).keep o1 (fun k hk e' => h.bne hi k (.inr (.inr ⟨x, List.mem_of_getElem? hx, hk⟩)) e')
    · rw [if_neg c] at hx; cases hx
  · have : k = rg := by unfold GEm at hk; simp [Value.ownBlock] at hk; exact hk.symm
    rw [this]
    exact hge
end
end Go.Proofs.Qxb6500413aGreat
