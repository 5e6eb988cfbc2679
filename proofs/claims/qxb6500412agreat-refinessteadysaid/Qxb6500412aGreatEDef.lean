/-
  OWN WORK. TABLE: the plain words: columns, checks, keys of the trees, heads. No program in sight.
-/
import Derived.Test.Qxb6500412aGreatECod
import Derived.Test.Qxb6500412aGreatBVp
namespace Go.Proofs.Qxb6500412aGreat
open Go.RowKit Go.PlainAid
set_option linter.unusedSimpArgs false
set_option linter.unusedVariables false

theorem getE {α : Type} {l : List α} {i : Nat} (h : i < l.length) : ∃ e, l[i]? = some e := ⟨l[i], List.getElem?_eq_getElem h⟩
/-- Columns. -/
abbrev Cl := ByteArray × Bool
def gdN (s : ByteArray) : Prop := 1 ≤ s.size ∧ s.size ≤ 6
instance (s : ByteArray) : Decidable (gdN s) := by unfold gdN; infer_instance
def GdC (c : List Cl) (pk : Int) : Prop := (1 ≤ c.length ∧ c.length ≤ 3 ∧ 0 ≤ pk ∧ pk < (c.length : Int)) ∧ (∀ x ∈ c, gdN x.1) ∧ (c.map (·.1)).Nodup
instance (c : List Cl) (pk : Int) : Decidable (GdC c pk) := by unfold GdC; infer_instance
def chkRow (c : List Cl) (r : List Vl) : Int := if r.map (·.str) = c.map (·.2) then (if ∀ v ∈ r, v.s.size ≤ 7 then 0 else 16) else 15
def chkVal (c : Cl) (v : Vl) : Int := if v.str = c.2 then (if v.s.size ≤ 7 then 0 else 16) else 15
def catK (nm : ByteArray) (i : Nat) : ByteArray := cP nm 6 ++ mkB 1 (fun _ => i)
def codes (l : List Vl) : ByteArray := l.foldl (fun s v => s ++ cV v) ⟨#[]⟩
theorem codes_snoc (l : List Vl) (v : Vl) : codes (l ++ [v]) = codes l ++ cV v := by simp [codes]
def restP (row : List Vl) (pk : Nat) : ByteArray := codes (row.eraseIdx pk)
theorem erase_take {row : List Vl} {pk i : Nat} {x : Vl} (hx : row[i]? = some x) : (row.take (i + 1)).eraseIdx pk = (row.take i).eraseIdx pk ++ (if i = pk then [] else [x]) := by
  obtain ⟨hi, rfl⟩ := List.getElem?_eq_some_iff.mp hx
  rw [List.take_succ_eq_append_getElem hi]
  have hl : (row.take i).length = i := by simp; omega
  by_cases c : i = pk
  · subst c
    rw [if_pos rfl, List.append_nil, List.eraseIdx_append_of_length_le (by omega), List.eraseIdx_of_length_le (l := row.take i) (by omega)]
    simp [hl]
  · rw [if_neg c]
    by_cases d : pk < i
    · rw [List.eraseIdx_append_of_lt_length (by omega)]
    · rw [List.eraseIdx_of_length_le (l := row.take i ++ [row[i]]) (by simp; omega), List.eraseIdx_of_length_le (l := row.take i) (by omega)]
def idxK (row : List Vl) (col pk : Nat) : ByteArray := cV ((row[col]?).getD (vI 0)) ++ cV ((row[pk]?).getD (vI 0))
def ixI : Option Nat → Int
  | none => -1
  | some c => (c : Int)
def ixN : Option Nat → Nat
  | none => 0
  | some c => c + 1
def idN : Option Nat → Nat
  | none => 255
  | some c => c
structure Hd where
  n : Nat
  pk : Nat
  ix : Option Nat
  rows : Nat
  idx : Option Nat
def hdF (h : Hd) (j : Nat) : Nat := if j = 0 then h.n else if j = 1 then h.pk else if j = 2 then ixN h.ix else if j = 3 then h.rows else idN h.idx
def hdT (h : Hd) : ByteArray := mkB 5 (hdF h)
structure HdOk (h : Hd) : Prop where
  n1 : 1 ≤ h.n
  n3 : h.n ≤ 3
  pk : h.pk < h.n
  ix : ∀ c, h.ix = some c → c < h.n ∧ c ≠ h.pk
  r1 : 1 ≤ h.rows
  r8 : h.rows < 8
  idx : ∀ c, h.idx = some c → 1 ≤ c ∧ c < 8 ∧ c ≠ h.rows
  both : h.ix = none ↔ h.idx = none
theorem HdOk.lt {h : Hd} (k : HdOk h) (j : Nat) : hdF h j < 256 := by
  have := k.n3
  have := k.pk
  have := k.r8
  unfold hdF
  split
  · omega
  · split
    · omega
    · split
      · cases e : h.ix with
        | none => simp [ixN]
        | some c => have := (k.ix c e).1; simp [ixN]; omega
      · split
        · omega
        · cases e : h.idx with
          | none => simp [idN]
          | some c => have := (k.idx c e).2.1; simp [idN]; omega
end Go.Proofs.Qxb6500412aGreat
