/-
  OWN WORK. QUERY: plain: what check answers.
-/
import Derived.Test.Qxb6500412aGreatS25
namespace Go.Proofs.Qxb6500412aGreat
open Go.RowKit Go.PlainAid
set_option linter.unusedSimpArgs false
set_option linter.unusedVariables false

def noC (cols : List Cl) (nm : ByteArray) : Bool := decide (qcol cols nm < 0)
def colS (cols : List Cl) (i : Int) : Bool := (cols.getD i.toNat (⟨#[]⟩, false)).2
def tyB (cols : List Cl) (c : Cm) : Bool := !noC cols c.col && (c.lit.str != colS cols (qcol cols c.col))
def pkB (cols : List Cl) (pk : Int) (c : Cm) : Bool := !noC cols c.col && decide (qcol cols c.col = pk)
def lnB (cols : List Cl) (c : Cm) : Bool := !noC cols c.col && decide (7 < c.lit.s.size)
/-- The faults: no column, the primary key, a type, too long. -/
structure Ck where
  no : Bool
  pk : Bool
  ty : Bool
  ln : Bool
def ck0 (cols : List Cl) (st : St) : Ck := ⟨decide (st.order ≠ ⟨#[]⟩) && noC cols st.order, false, false, false⟩
def ckL (cols : List Cl) (k : Ck) (nm : ByteArray) : Ck := { k with no := k.no || noC cols nm }
def ckS (cols : List Cl) (pk : Int) (k : Ck) (c : Cm) : Ck := ⟨k.no || noC cols c.col, k.pk || pkB cols pk c, k.ty || tyB cols c, k.ln || lnB cols c⟩
def ckW (cols : List Cl) (k : Ck) (c : Cm) : Ck := { k with no := k.no || noC cols c.col, ty := k.ty || tyB cols c }
def ckD (cols : List Cl) (pk : Int) (st : St) : Ck := st.wh.foldl (ckW cols) (st.sets.foldl (ckS cols pk) (st.list.foldl (ckL cols) (ck0 cols st)))
def ckE (k : Ck) : Int := if k.no = true then 14 else if k.pk = true then 18 else if k.ty = true then 15 else if k.ln = true then 16 else 0
/-- check. -/
def chkD (cols : List Cl) (pk : Int) (st : St) : Int := ckE (ckD cols pk st)
section
variable {cols : List Cl} {pk : Int}
theorem foldS_no : ∀ (l : List Cm) (k : Ck), (l.foldl (ckS cols pk) k).no = (k.no || l.any (fun c => noC cols c.col))
  | [], k => by simp
  | c :: l, k => by rw [List.foldl_cons, foldS_no l]; simp [ckS, Bool.or_assoc]
theorem foldW_no : ∀ (l : List Cm) (k : Ck), (l.foldl (ckW cols) k).no = (k.no || l.any (fun c => noC cols c.col))
  | [], k => by simp
  | c :: l, k => by rw [List.foldl_cons, foldW_no l]; simp [ckW, Bool.or_assoc]
theorem foldL_no : ∀ (l : List ByteArray) (k : Ck), (l.foldl (ckL cols) k).no = (k.no || l.any (noC cols))
  | [], k => by simp
  | c :: l, k => by rw [List.foldl_cons, foldL_no l]; simp [ckL, Bool.or_assoc]
theorem ckD_no (st : St) : (ckD cols pk st).no = ((((decide (st.order ≠ ⟨#[]⟩) && noC cols st.order) || st.list.any (noC cols)) || st.sets.any (fun c => noC cols c.col)) || st.wh.any (fun c => noC cols c.col)) := by
  unfold ckD
  rw [foldW_no, foldS_no, foldL_no]
  rfl
/-- check has passed: every column is there. -/
theorem chk_cols {st : St} (h : chkD cols pk st = 0) : (∀ c ∈ st.wh, 0 ≤ qcol cols c.col) ∧ (∀ c ∈ st.sets, 0 ≤ qcol cols c.col) ∧ (∀ n ∈ st.list, 0 ≤ qcol cols n) ∧ (st.order ≠ ⟨#[]⟩ → 0 ≤ qcol cols st.order) := by
  have h0 : (ckD cols pk st).no = false := by
    cases c : (ckD cols pk st).no with
    | false => rfl
    | true =>
      unfold chkD ckE at h
      rw [c] at h
      simp at h
  rw [ckD_no] at h0
  simp only [Bool.or_eq_false_iff, List.any_eq_false, Bool.and_eq_false_iff, decide_eq_false_iff_not, noC, decide_eq_true_eq] at h0
  obtain ⟨⟨⟨h1, h2⟩, h3⟩, h4⟩ := h0
  refine ⟨fun c hc => by have := h4 c hc; omega, fun c hc => by have := h3 c hc; omega, fun n hn => by have := h2 n hn; omega, fun hne => ?_⟩
  rcases h1 with c | c
  · exact absurd hne c
  · omega
end
end Go.Proofs.Qxb6500412aGreat
