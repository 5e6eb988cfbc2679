/-
  OWN WORK. THE TABLE LAW's GHOST: tables made, dropped, indexed, in memory.
-/
import Derived.Test.Qxb6500412aGreatJG9
import Derived.Test.Qxb6500412aGreatJP3
namespace Go.Proofs.Qxb6500412aGreat
open Go.RowKit Go.PlainAid
set_option linter.unusedSimpArgs false
set_option linter.unusedVariables false

theorem gcs_take : ∀ (l : List GE) (m : Nat), gcs (l.take m) = (gcs l).take (m * 5)
  | [], m => by simp [gcs]
  | e :: r, 0 => by simp [gcs]
  | e :: r, m + 1 => by
    have ih := gcs_take r m
    have h : (m + 1) * 5 = m * 5 + 1 + 1 + 1 + 1 + 1 := by omega
    rw [h, List.take_succ_cons]
    simp only [gcs, ih, List.cons_append, List.nil_append, List.take_succ_cons]
theorem gcs_ix : ∀ {l : List GE} {i : Nat} {e e' : GE}, l[i]? = some e → e'.t.nm = e.t.nm → e'.cv = e.cv → e'.t.pk = e.t.pk → e'.rv = e.rv → gcs (l.set i e') = (gcs l).set (i * 5 + 3) (.int .i64 (ixI e'.t.ix))
  | [], i, e, e', h, _, _, _, _ => by simp at h
  | f :: r, 0, e, e', h, h1, h2, h3, h4 => by
    obtain rfl : f = e := by simpa using h
    simp [gcs, h1, h2, h3, h4]
  | f :: r, i + 1, e, e', h, h1, h2, h3, h4 => by
    have ih := gcs_ix (l := r) (i := i) (e := e) (e' := e') (by simpa using h) h1 h2 h3 h4
    have e : (i + 1) * 5 + 3 = (i * 5 + 3) + 5 := by omega
    rw [e, List.set_cons_succ]
    simp only [gcs, ih, List.cons_append, List.nil_append, List.set_cons_succ]
def withI (t : Tb) (c : Nat) : Tb := { t with ix := some c }
section
variable {w : World} {l : List GE} {b cap i : Nat} {e : GE}
end
end Go.Proofs.Qxb6500412aGreat
