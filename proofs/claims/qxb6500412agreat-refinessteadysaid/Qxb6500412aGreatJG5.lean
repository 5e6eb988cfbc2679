/-
  OWN WORK. THE TABLE LAW's GHOST: rows of a table turned in memory.
-/
import Derived.Test.Qxb6500412aGreatJG4
import Derived.Test.Qxb6500412aGreatJP2
namespace Go.Proofs.Qxb6500412aGreat
open Go.RowKit Go.PlainAid
set_option linter.unusedSimpArgs false
set_option linter.unusedVariables false

theorem gcs_rv : ∀ {l : List GE} {i : Nat} {e e' : GE}, l[i]? = some e → e'.t.nm = e.t.nm → e'.cv = e.cv → e'.t.pk = e.t.pk → e'.t.ix = e.t.ix → gcs (l.set i e') = (gcs l).set (i * 5 + 4) e'.rv
  | [], i, e, e', h, _, _, _, _ => by simp at h
  | f :: r, 0, e, e', h, h1, h2, h3, h4 => by
    obtain rfl : f = e := by simpa using h
    simp [gcs, h1, h2, h3, h4]
  | f :: r, i + 1, e, e', h, h1, h2, h3, h4 => by
    have ih := gcs_rv (l := r) (i := i) (e := e) (e' := e') (by simpa using h) h1 h2 h3 h4
    have e : (i + 1) * 5 + 4 = (i * 5 + 4) + 5 := by omega
    rw [e, List.set_cons_succ]
    simp only [gcs, ih, List.cons_append, List.nil_append, List.set_cons_succ]
theorem gcs_same {l : List GE} {i : Nat} {e e' : GE} (h : l[i]? = some e) (h1 : e'.t.nm = e.t.nm) (h2 : e'.cv = e.cv) (h3 : e'.t.pk = e.t.pk) (h4 : e'.t.ix = e.t.ix) (h5 : e'.rv = e.rv) : gcs (l.set i e') = gcs l := by
  rw [gcs_rv h h1 h2 h3 h4, h5]
  have := (gcs_at l i h).2.2.2.2
  obtain ⟨hi, hx⟩ := List.getElem?_eq_some_iff.mp this
  rw [← hx, List.set_getElem_self]
section
variable {w : World} {l : List GE} {b cap i : Nat} {e : GE}
end
end Go.Proofs.Qxb6500412aGreat
