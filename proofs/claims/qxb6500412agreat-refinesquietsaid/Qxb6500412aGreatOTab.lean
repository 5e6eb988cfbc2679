/-
  OWN WORK. TABLES: a block's cells as a function of the place.
-/
import Derived.Test.Qxb6500412aGreatProg
import Derived.WalkLawsBesides
import Derived.WalkSpells
import Derived.Test.Qxb6500412aGreatHeap
namespace Go.Proofs.Qxb6500412aGreat
open Go.RowKit
set_option linter.unusedSimpArgs false
set_option linter.unusedVariables false

def tabV (n : Nat) (f : Nat → Value) : Array Value := ((List.range n).map f).toArray
theorem tabV_size (n : Nat) (f : Nat → Value) : (tabV n f).size = n := by simp [tabV]
theorem tabV_get (n : Nat) (f : Nat → Value) (i : Nat) (h : i < n) : (tabV n f)[i]? = some (f i) := by simp [tabV, h]
theorem tabV_congr (n : Nat) {f g : Nat → Value} (h : ∀ i, i < n → f i = g i) : tabV n f = tabV n g := by
  unfold tabV
  congr 1
  apply List.map_congr_left
  intro i hi
  exact h i (List.mem_range.1 hi)
theorem tabV_set (n : Nat) (f : Nat → Value) (i : Nat) (v : Value) : (tabV n f).setIfInBounds i v = tabV n (fun j => if j = i then v else f j) := by
  apply Array.ext'
  rw [Array.toList_setIfInBounds]
  unfold tabV
  apply List.ext_getElem (by simp)
  intro j h1 h2
  simp at h1 h2
  simp only [List.getElem_set, List.getElem_map, List.getElem_range]
  by_cases e : i = j
  · subst e; simp
  · have e' : ¬ j = i := fun h => e h.symm
    simp [e, e']

def u8f (D : Nat → Nat) : Nat → Value := fun i => .int .u8 (D i : Int)
theorem u8_set (n : Nat) (D : Nat → Nat) (i v : Nat) : (tabV n (u8f D)).setIfInBounds i (.int .u8 (v : Int)) = tabV n (u8f (fun j => if j = i then v else D j)) := by
  rw [tabV_set]
  apply tabV_congr
  intro j _
  unfold u8f
  by_cases e : j = i
  · simp [e]
  · simp [e]
theorem u8_get (n : Nat) (D : Nat → Nat) (i : Nat) (h : i < n) : (tabV n (u8f D))[i]? = some (.int .u8 (D i : Int)) := tabV_get n _ i h
theorem u8_congr (n : Nat) {D E : Nat → Nat} (h : ∀ i, i < n → D i = E i) : tabV n (u8f D) = tabV n (u8f E) := tabV_congr n (fun i hi => by unfold u8f; rw [h i hi])

theorem madeCells_oneO (v : Value) (n : Nat) : madeCells #[v] n = Array.replicate n v := by
  apply Array.ext
  · simp [madeCells]
  · intro i h1 h2
    simp [madeCells, Nat.mod_one]
theorem ne_intO {a b : Int} (h : a ≠ b) : (a == b) = false := by simpa using h
theorem Tryz.infoU8o : (Tryz.prog.info? 5).map (fun i => (i.zero, i.size, i.bytes)) = some (some (.int .u8 0), 1, 1) := by kernel_rfl
theorem run_make_bytes (w : World) (n : Nat) (hn : n ≤ 1000000) :
    (Instr.makeSlice 282 (.int .i64 n) (.int .i64 n)).run Tryz.prog w = .ok (.slice (some ⟨w.heap.size, 0, none⟩) n n) (w.alloc (.cells (tabV n (u8f (fun _ => 0))) 5)) := by
  obtain ⟨i, hi, hz, hs, hb⟩ := info_parts Tryz.infoU8o
  have := run_make (P := Tryz.prog) w 282 5 i _ Tryz.underlying282 hi hz .i64 .i64 (n : Int) (n : Int) (by omega) (by omega) (by rw [hb]; omega) (by omega)
  rw [this]
  have e : tabV n (u8f (fun _ => 0)) = Array.replicate n (Value.int .u8 0) := by
    apply Array.ext'
    unfold tabV u8f
    apply List.ext_getElem (by simp)
    intro j h1 h2
    simp
  simp [hs, Value.cells, madeCells_oneO, e]
theorem Only.drewO {S : Nat → Prop} {a w : World} (h : Only S a w) (n : Nat) : Only S a (w.drewN n) := ⟨h.os, h.tape, h.output, h.size, h.block⟩
theorem only1 {w : World} {p : Nat} (off : Nat) (u : Value) : Only (fun k => k = p) w (w.setCell ⟨p, off, Option.none⟩ u) := (Only.refl (fun k => k = p) w).setCell (p := ⟨p, off, Option.none⟩) (fun _ => rfl) _
end Go.Proofs.Qxb6500412aGreat
