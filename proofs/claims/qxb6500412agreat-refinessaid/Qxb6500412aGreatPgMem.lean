/-
  OWN WORK. THE PAGER's MEMORY: its frames and their order; find, place, touch, retire.
-/
import Derived.Test.Qxb6500412aGreatWalDefs
import Derived.BigQuiet
import Derived.Deep.QuietTactic
namespace Go.Proofs.Qxb6500412aGreat
open Go.RowKit
set_option linter.unusedSimpArgs false
set_option linter.unusedVariables false

structure Frame where
  page : Nat
  valid : Bool
  dirty : Bool
  data : ByteArray

def Frame.none : Frame := ⟨0, false, false, emptyB⟩
def Frame.cells (f : Frame) : List Value := [.int .i64 f.page, .bool f.valid, .bool f.dirty, .string f.data]
def frCells (fr : List Frame) : List Value := fr.flatMap Frame.cells
def pcells (l : Nat) (op : Bool) (fr : List Frame) (ord : List Nat) : Array Value := (.pointer (some ⟨l, 0, Option.none⟩) :: .bool op :: (frCells fr ++ ord.map (fun o => .int .i64 (o : Int)))).toArray

theorem frCells_length (fr : List Frame) : (frCells fr).length = fr.length * 4 := by
  induction fr with
  | nil => rfl
  | cons a r ih =>
    have : frCells (a :: r) = a.cells ++ frCells r := rfl
    rw [this, List.length_append, ih]
    simp [Frame.cells]; omega

theorem frCells_get : ∀ (fr : List Frame) (k j : Nat) (hk : k < fr.length), j < 4 → (frCells fr)[k * 4 + j]? = (fr[k].cells)[j]? := by
  intro fr
  induction fr with
  | nil => intro k j hk; simp at hk
  | cons a r ih =>
    intro k j hk hj
    have e : frCells (a :: r) = a.cells ++ frCells r := rfl
    have l4 : a.cells.length = 4 := rfl
    rw [e]
    cases k with
    | zero => rw [Nat.zero_mul, Nat.zero_add, List.getElem?_append_left (by omega)]; rfl
    | succ k =>
      rw [List.getElem?_append_right (by omega), show (k + 1) * 4 + j - a.cells.length = k * 4 + j by omega]
      exact ih k j (by simpa using hk) hj

theorem frCells_set : ∀ (fr : List Frame) (k j : Nat) (f : Frame) (v : Value) (hk : k < fr.length), j < 4 → fr[k].cells.set j v = f.cells → (frCells fr).set (k * 4 + j) v = frCells (fr.set k f) := by
  intro fr
  induction fr with
  | nil => intro k j f v hk; simp at hk
  | cons a r ih =>
    intro k j f v hk hj hf
    have e : frCells (a :: r) = a.cells ++ frCells r := rfl
    have l4 : a.cells.length = 4 := rfl
    cases k with
    | zero =>
      rw [e, Nat.zero_mul, Nat.zero_add, List.set_append_left _ _ (by omega)]
      simp only [List.getElem_cons_zero] at hf
      rw [hf]; rfl
    | succ k =>
      rw [e, List.set_append_right _ _ (by omega), show (k + 1) * 4 + j - a.cells.length = k * 4 + j by omega, ih k j f v (by simpa using hk) hj (by simpa using hf)]
      rfl

section
variable {l : Nat} {op : Bool} {fr : List Frame} {ord : List Nat}

theorem pcells_fr (k j : Nat) (hf : fr.length = 5) (hk : k < 5) (hj : j < 4) : (pcells l op fr ord)[2 + k * 4 + j]? = (fr[k].cells)[j]? := by
  unfold pcells
  rw [List.getElem?_toArray, show 2 + k * 4 + j = (k * 4 + j) + 1 + 1 by omega, List.getElem?_cons_succ, List.getElem?_cons_succ, List.getElem?_append_left (by rw [frCells_length]; omega)]
  exact frCells_get fr k j (by omega) hj
theorem pcells_fr0 (k : Nat) (hf : fr.length = 5) (hk : k < 5) : (pcells l op fr ord)[2 + k * 4]? = some (.int .i64 (fr[k].page : Int)) := pcells_fr k 0 hf hk (by omega)
theorem pcells_ord (i : Nat) (hf : fr.length = 5) (ho : ord.length = 5) (hi : i < 5) : (pcells l op fr ord)[22 + i]? = some (.int .i64 (ord[i] : Int)) := by
  unfold pcells
  rw [List.getElem?_toArray, show 22 + i = (20 + i) + 1 + 1 by omega, List.getElem?_cons_succ, List.getElem?_cons_succ, List.getElem?_append_right (by rw [frCells_length]; omega), frCells_length, hf, show 20 + i - 5 * 4 = i by omega]
  simp [ho, hi]
theorem pcells_setOrd (i o : Nat) (hf : fr.length = 5) (ho : ord.length = 5) (hi : i < 5) : (pcells l op fr ord).setIfInBounds (22 + i) (.int .i64 (o : Int)) = pcells l op fr (ord.set i o) := by
  unfold pcells
  apply Array.ext'
  rw [Array.toList_setIfInBounds]
  show List.set _ _ _ = _
  rw [show 22 + i = (20 + i) + 1 + 1 by omega, List.set_cons_succ, List.set_cons_succ, List.set_append_right _ _ (by rw [frCells_length]; omega), frCells_length, hf, show 20 + i - 5 * 4 = i by omega, ← List.map_set]
end

structure PAt (w : World) (p l : Nat) (op : Bool) (fr : List Frame) (ord : List Nat) : Prop where
  has : Has w p (pcells l op fr ord) 204
  lf : fr.length = 5
  lo : ord.length = 5

theorem PAt.keep {S : Nat → Prop} {w w' : World} {p l : Nat} {op : Bool} {fr : List Frame} {ord : List Nat} (h : PAt w p l op fr ord) (ho : Only S w w') (hS : ¬ S p) : PAt w' p l op fr ord := ⟨h.has.keep ho hS, h.lf, h.lo⟩

/-- The valid frame that holds page n. -/
def frameOf (fr : List Frame) (n : Int) : Option Nat := fr.findIdx? (fun f => f.valid && (f.page : Int) == n)

theorem frameOf_some {fr : List Frame} {n : Int} {i : Nat} (h : frameOf fr n = some i) : ∃ h : i < fr.length, fr[i].valid = true ∧ (fr[i].page : Int) = n := by
  unfold frameOf at h
  obtain ⟨hi, he, _⟩ := List.findIdx?_eq_some_iff_getElem.1 h
  simp at he
  exact ⟨hi, he.1, he.2⟩
end Go.Proofs.Qxb6500412aGreat
