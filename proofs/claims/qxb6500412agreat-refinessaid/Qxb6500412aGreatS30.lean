/-
  OWN WORK. QUERY, plain: what Exec answers and leaves, in the words of the state. No program in sight.
-/
import Derived.Test.Qxb6500412aGreatS28
import Derived.Test.Qxb6500412aGreatS29
import Derived.Test.Qxb6500412aGreatXJ0
namespace Go.Proofs.Qxb6500412aGreat
open Go.RowKit Go.PlainAid
set_option linter.unusedSimpArgs false
set_option linter.unusedVariables false

section
open Classical
/-- What taking a lock answers. -/
noncomputable def Mu.tkE (M : Mu) (s : Int) (nm : ByteArray) (mode : Int) : Int := if M.inT s ≠ 0 then M.inT s else if findD M.com nm = none then 10 else if M.bars s.toNat nm mode then 21 else 0
theorem Mu.tkE_iff {M : Mu} {s : Int} {nm : ByteArray} {mode z : Int} : M.TkZ s nm mode z ↔ z = M.tkE s nm mode := by
  unfold Mu.TkZ Mu.tkE
  by_cases h1 : M.inT s = 0
  · rw [if_neg (fun c => c h1)]
    by_cases h2 : findD M.com nm = none
    · rw [if_pos h2]
      constructor
      · rintro (⟨a, _⟩ | ⟨_, _, c⟩ | ⟨_, b, _⟩ | ⟨_, b, _⟩)
        · exact absurd h1 a
        · exact c
        · exact absurd h2 b
        · exact absurd h2 b
      · exact fun e => .inr (.inl ⟨h1, h2, e⟩)
    · rw [if_neg h2]
      by_cases h3 : M.bars s.toNat nm mode
      · rw [if_pos h3]
        constructor
        · rintro (⟨a, _⟩ | ⟨_, b, _⟩ | ⟨_, _, _, c⟩ | ⟨_, _, c, _⟩)
          · exact absurd h1 a
          · exact absurd b h2
          · exact c
          · exact absurd h3 c
        · exact fun e => .inr (.inr (.inl ⟨h1, h2, h3, e⟩))
      · rw [if_neg h3]
        constructor
        · rintro (⟨a, _⟩ | ⟨_, b, _⟩ | ⟨_, _, c, _⟩ | ⟨_, _, _, c⟩)
          · exact absurd h1 a
          · exact absurd b h2
          · exact absurd c h3
          · exact c
        · exact fun e => .inr (.inr (.inr ⟨h1, h2, h3, e⟩))
  · rw [if_pos h1]
    constructor
    · rintro (⟨_, b⟩ | ⟨a, _⟩ | ⟨a, _⟩ | ⟨a, _⟩)
      · exact b
      · exact absurd a h1
      · exact absurd a h1
      · exact absurd a h1
    · exact fun e => .inl ⟨h1, e⟩
/-- What being alone answers. -/
noncomputable def Mu.alE (M : Mu) (s : Int) : Int := if ¬ gdS s then 20 else if M.act s.toNat = true then 3 else if M.any then 21 else 0
theorem Mu.alE_iff {M : Mu} {s z : Int} : M.AlZ s z ↔ z = M.alE s := by
  unfold Mu.AlZ Mu.alE
  by_cases h1 : gdS s
  · rw [if_neg (fun c => c h1)]
    have h4 : s.toNat < 4 := by have := h1.1; have := h1.2; omega
    by_cases h2 : M.act s.toNat = true
    · rw [if_pos h2]
      constructor
      · rintro (⟨a, _⟩ | ⟨_, _, c⟩ | ⟨_, b, _⟩ | ⟨_, b, _⟩)
        · exact absurd h1 a
        · exact c
        · rw [h2] at b; cases b
        · exact absurd ⟨_, h4, h2⟩ b
      · exact fun e => .inr (.inl ⟨h1, h2, e⟩)
    · have h2' : M.act s.toNat = false := by simpa using h2
      rw [if_neg h2]
      by_cases h3 : M.any
      · rw [if_pos h3]
        constructor
        · rintro (⟨a, _⟩ | ⟨_, b, _⟩ | ⟨_, _, _, c⟩ | ⟨_, b, _⟩)
          · exact absurd h1 a
          · exact absurd b h2
          · exact c
          · exact absurd h3 b
        · exact fun e => .inr (.inr (.inl ⟨h1, h2', h3, e⟩))
      · rw [if_neg h3]
        constructor
        · rintro (⟨a, _⟩ | ⟨_, b, _⟩ | ⟨_, _, b, _⟩ | ⟨_, _, c⟩)
          · exact absurd h1 a
          · exact absurd b h2
          · exact absurd b h3
          · exact c
        · exact fun e => .inr (.inr (.inr ⟨h1, h3, e⟩))
  · rw [if_pos h1]
    constructor
    · rintro (⟨_, b⟩ | ⟨a, _⟩ | ⟨a, _⟩ | ⟨a, _⟩)
      · exact b
      · exact absurd a h1
      · exact absurd a h1
      · exact absurd a h1
    · exact fun e => .inl ⟨h1, e⟩
end
/-- An answer. -/
structure Rs where
  e : Int
  n : Int
  cols : List ByteArray
  rows : List (List Vl)
def Rs.err (e : Int) : Rs := ⟨e, 0, [], []⟩
def Rs.cnt (n : Int) : Rs := ⟨0, n, [], []⟩
def ordD (cols : List Cl) (st : St) (hit : List (List Vl)) : List (List Vl) := if st.order = ⟨#[]⟩ then hit else if st.desc = true then sortP (cmpRd (qcol cols st.order).toNat) hit else sortP (cmpR (qcol cols st.order).toNat) hit
def limN (st : St) (n : Nat) : Nat := if st.hasL = true ∧ st.lim < (n : Int) then st.lim.toNat else n
def colsD (cols : List Cl) (st : St) : List ByteArray := if st.star = true then st.list ++ cols.map (·.1) else st.list
def prjR (cols : List Cl) (nms : List ByteArray) (r : List Vl) : List Vl := nms.map (fun nm => rAt r (qcol cols nm))
/-- SELECT's end. -/
def prjD (cols : List Cl) (st : St) (hit : List (List Vl)) : Rs := ⟨0, (limN st hit.length : Int), colsD cols st, ((ordD cols st hit).take (limN st hit.length)).map (prjR cols (colsD cols st))⟩
def setR (cols : List Cl) (sets : List Cm) (r : List Vl) : List Vl := sets.foldl (fun r c => r.set (qcol cols c.col).toNat c.lit) r
/-- One row changed. -/
def chg1 (t : Tb) (st : St) (D : Db) (r : List Vl) : Db × Int := if st.kind = 10 then delD D st.table (kyR t.pk r) else updD D st.table (setR t.cols st.sets r)
def chgD (t : Tb) (st : St) (D : Db) (hit : List (List Vl)) : Db := hit.foldl (fun D r => (chg1 t st D r).1) D
def tabE (D : Db) (nm : ByteArray) : Tb := (findD D nm).getD ⟨⟨#[]⟩, [], 0, none, []⟩
/-- INSERT, SELECT, UPDATE, DELETE within a transaction. -/
noncomputable def runQ (M : Mu) (s : Int) (st : St) : Mu × Rs :=
  if st.kind = 7 then
    if M.tkE s st.table 2 ≠ 0 then (M, Rs.err (M.tkE s st.table 2)) else
    ((M.setL s.toNat st.table 2).setV s.toNat (insD (M.see s.toNat) st.table st.lits).1, if (insD (M.see s.toNat) st.table st.lits).2 = 0 then Rs.cnt 1 else Rs.err (insD (M.see s.toNat) st.table st.lits).2)
  else match findD M.com st.table with
  | none => (M, Rs.err 10)
  | some t =>
    if chkD t.cols (t.pk : Int) st ≠ 0 then (M, Rs.err (chkD t.cols (t.pk : Int) st)) else
    if M.tkE s st.table 1 ≠ 0 then (M, Rs.err (M.tkE s st.table 1)) else
    if st.kind = 8 then (M.setL s.toNat st.table 1, prjD t.cols st (hitD (tabE (M.see s.toNat) st.table) st.wh)) else
    if hitD (tabE (M.see s.toNat) st.table) st.wh = [] then (M.setL s.toNat st.table 1, Rs.cnt 0) else
    if (M.setL s.toNat st.table 1).tkE s st.table 2 ≠ 0 then (M.setL s.toNat st.table 1, Rs.err ((M.setL s.toNat st.table 1).tkE s st.table 2)) else
    (((M.setL s.toNat st.table 1).setL s.toNat st.table 2).setV s.toNat (chgD t st (M.see s.toNat) (hitD (tabE (M.see s.toNat) st.table) st.wh)), Rs.cnt ((hitD (tabE (M.see s.toNat) st.table) st.wh).length : Int))
/-- A schema call's answer. -/
noncomputable def schQ (M : Mu) (s : Int) (R : Db × Int) : Mu × Rs :=
  if M.alE s ≠ 0 then (M, Rs.err (M.alE s)) else if R.2 ≠ 0 then (M, Rs.err R.2) else (M.schema R.1, Rs.err 0)
/-- A statement. -/
noncomputable def stQ (M : Mu) (s : Int) (st : St) : Mu × Rs :=
  if st.kind = 1 then (if M.act s.toNat = true then (M, Rs.err 3) else (M.begin s.toNat, Rs.err 0))
  else if st.kind = 2 then (if M.act s.toNat = true then (M.commit s.toNat, Rs.err 0) else (M, Rs.err 2))
  else if st.kind = 3 then (if M.act s.toNat = true then (M.roll s.toNat, Rs.err 0) else (M, Rs.err 2))
  else if st.kind = 4 then schQ M s (crtD M.com st.table st.defs st.pk)
  else if st.kind = 5 then schQ M s (drpD M.com st.table)
  else if st.kind = 6 then schQ M s (cixD M.com st.table (qcol (tabE M.com st.table).cols ((st.list)[0]?.getD ⟨#[]⟩)))
  else if M.act s.toNat = true then runQ M s st
  else if (runQ (M.begin s.toNat) s st).2.e = 0 then ((runQ (M.begin s.toNat) s st).1.commit s.toNat, (runQ (M.begin s.toNat) s st).2)
  else ((runQ (M.begin s.toNat) s st).1.roll s.toNat, (runQ (M.begin s.toNat) s st).2)
/-- Exec. -/
noncomputable def exQ (M : Mu) (s : Int) (t : ByteArray) : Mu × Rs :=
  if 256 < t.size then (M, Rs.err 24) else if ¬ gdS s then (M, Rs.err 20) else if parB t = false then (M, Rs.err 22) else stQ M s (parQ t).2
/-- The plan that a statement runs, if it goes for rows. -/
noncomputable def plnR (M : Mu) (st : St) (old : Int) : Int := match findD M.com st.table with
  | none => old
  | some t => if chkD t.cols (t.pk : Int) st ≠ 0 then old else (planD t.cols (t.pk : Int) (ixI t.ix) st.wh).kind
noncomputable def plnQ (M : Mu) (s : Int) (t : ByteArray) (old : Int) : Int :=
  if 256 < t.size ∨ ¬ gdS s ∨ parB t = false then old else if (parQ t).2.kind = 8 ∨ (parQ t).2.kind = 9 ∨ (parQ t).2.kind = 10 then plnR M (parQ t).2 old else old
end Go.Proofs.Qxb6500412aGreat
