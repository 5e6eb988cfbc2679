/-
  OWN WORK. THE TABLE LAW: KeptScan (written by tools/gen_js2.py).
-/
import Derived.Test.Qxb6500412aGreatJS1
import Derived.Test.Qxb6500412aGreatESj
namespace Go.Proofs.Qxb6500412aGreat
open Go.RowKit Go.PlainAid
set_option linter.unusedSimpArgs false
set_option linter.unusedVariables false

theorem scnE_gt {t t0 : Tb} (hc : t.cols = t0.cols) (hp : t.pk = t0.pk) (hi : t.ix = t0.ix) (col : Int) (lo h : Bnd) : scnE t col lo h = scnE t0 col lo h := by
  unfold scnE
  rw [hc, hp, hi]
theorem scnD_len {S : Vu} {T : List (Tb × Hd)} (L : Lay S T) (nm : ByteArray) (col : Int) (lo hi : Bnd) : (scnD (dbOf T) nm col lo hi).1.length ≤ 8 := by
  unfold scnD
  cases hf : findD (dbOf T) nm with
  | none => simp
  | some t0 =>
    simp only
    split
    · exact scnL_len (L.dok.tb t0 (by unfold findD at hf; exact List.mem_of_find?_eq_some hf)) _ _ _
    · simp
theorem scnD_err {D : Db} {nm : ByteArray} {col : Int} {lo hi : Bnd} (h : (scnD D nm col lo hi).2 ≠ 0) : (scnD D nm col lo hi).1 = [] := by
  unfold scnD at *
  cases hf : findD D nm with
  | none => rfl
  | some t0 =>
    rw [hf] at h
    simp only at h ⊢
    split
    · rename_i c
      rw [if_pos c] at h
      exact absurd rfl h
    · rfl
theorem scnE_pk {t : Tb} (h : GOk t) : scnE t (t.pk : Int) none none = 0 := by
  unfold scnE
  rw [if_neg (by have := h.pkn; omega), if_neg (by simp)]
  rfl
/-- What KeptScan answers. -/
def KsX (l : List GE) (D : Db) (nm : ByteArray) (col : Int) (lo hi : Bnd) (bb : Bool) : Prop :=
  (GP (l.map (·.t)) D → bb = true) ∧ (bb = true → ∀ e ∈ l, e.t.nm = nm → col = (e.t.pk : Int) → lo = none → hi = none → ∀ t0, findD D nm = some t0 → t0.pk = e.t.pk → e.t.rows.Perm t0.rows)
section
variable {w : World} {v : Value} {l : List GE} {S : Vu} {T : List (Tb × Hd)} {nm : ByteArray} {col z : Int} {lo hi : Bnd}
end
section
variable {q : Gnd} {w w' : World} {x : Nat} {op : Bool} {S : Vu} {T : List (Tb × Hd)} {v : Value} {l : List GE}
def KsP (q : Gnd) (w : World) (x : Nat) (op : Bool) (S : Vu) (K : Bool → Prop) (y : Ending) (w' : World) : Prop := ∃ bb : Bool, y = .returned (.bool bb) ∧ K bb ∧ ST q w' x op S ∧ Only q.S w w'
end
end Go.Proofs.Qxb6500412aGreat
