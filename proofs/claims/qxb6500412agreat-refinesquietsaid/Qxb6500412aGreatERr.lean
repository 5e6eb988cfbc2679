/-
  OWN WORK. TABLE: rows of rows in memory; a bound.
-/
import Derived.Test.Qxb6500412aGreatECt
import Derived.Test.Qxb6500412aGreatEScQ
import Derived.BigQuiet
import Derived.Deep.QuietTactic
namespace Go.Proofs.Qxb6500412aGreat
open Go.RowKit Go.PlainAid
set_option linter.unusedSimpArgs false
set_option linter.unusedVariables false

def bdA (has : Bool) (v : Vl) : Value := .agg #[.bool has, .bool v.str, .int .i64 v.i, .string v.s]
def bndOf (has : Bool) (v : Vl) : Bnd := if has then some v else none
/-- The first i of the rows are laid in block g, each row in a block of its own, none of them elder than lo. -/
structure RsI (lo : Nat) (rows : List (List Vl)) (g i : Nat) (wr : World) : Prop where
  has : ∃ cur : Array Value, cur.size = rows.length ∧ Has wr g cur 95 ∧ (∀ j r, j < i → rows[j]? = some r → ∃ u, cur[j]? = some u ∧ OwnV wr u r ∧ ∀ k, u.ownBlock = some k → lo ≤ k) ∧
    ∀ j j' u u' k, j < j' → j' < i → cur[j]? = some u → cur[j']? = some u' → u.ownBlock = some k → u'.ownBlock ≠ some k
  gl : lo ≤ g
theorem RsI.cell {lo : Nat} {rows : List (List Vl)} {g i : Nat} {wr : World} (h : RsI lo rows g i wr) (hi : i < rows.length) : ∃ a, wr.cell? ⟨g, i, none⟩ = some a ∧ wr.frozen? ⟨g, i, none⟩ = false := by
  obtain ⟨cur, h1, h2, h3⟩ := h.has
  exact ⟨cur[i], by rw [h2.cell]; exact Array.getElem?_eq_getElem (by omega), h2.free _⟩
theorem RsI.keep {lo : Nat} {rows : List (List Vl)} {g i : Nat} {wr w' : World} {B : Nat → Prop} (h : RsI lo rows g i wr) (ho : Only B wr w') (hB : ∀ k, lo ≤ k → ¬ B k) : RsI lo rows g i w' := by
  obtain ⟨cur, h1, h2, h3, h4⟩ := h.has
  refine ⟨⟨cur, h1, h2.keep ho (hB _ h.gl), fun j r hj hr => ?_, h4⟩, h.gl⟩
  obtain ⟨u, a, b, c⟩ := h3 j r hj hr
  exact ⟨u, a, b.keep ho (fun k hk => hB k (c k hk)), c⟩
theorem RsI.step {lo : Nat} {rows : List (List Vl)} {g i : Nat} {wr : World} {r : List Vl} {u : Value} {N : Nat} (h : RsI lo rows g i wr) (hr : rows[i]? = some r) (hu : OwnV wr u r) (hl : ∀ k, u.ownBlock = some k → lo ≤ k ∧ N ≤ k) (hold : ∀ j s cur, j < i → Has wr g cur 95 → cur[j]? = some s → ∀ k, s.ownBlock = some k → k < N) : RsI lo rows g (i + 1) (wr.setCell ⟨g, i, none⟩ u) := by
  obtain ⟨cur, h1, h2, h3, h4⟩ := h.has
  have hi := (List.getElem?_eq_some_iff.mp hr).1
  have oo : Only (fun k => k = g) wr (wr.setCell ⟨g, i, none⟩ u) := only1 _ _
  have apart : ∀ {v : Value} {l : List Vl}, OwnV wr v l → OwnV (wr.setCell ⟨g, i, none⟩ u) v l := fun O => O.keep oo (fun k hk e => ownsRow_ne O h2 (by decide) k hk e)
  refine ⟨⟨_, by simp [h1], h2.setCell i u, fun j s hj hs => ?_, fun j j' a b k hjj hj' ha hb hk => ?_⟩, h.gl⟩
  · by_cases c : i = j
    · subst c
      rw [hr] at hs
      cases hs
      exact ⟨u, by rw [Array.getElem?_setIfInBounds, if_pos rfl, if_pos (by omega)], apart hu, fun k hk => (hl k hk).1⟩
    · obtain ⟨v, a, b, c2⟩ := h3 j s (by omega) hs
      exact ⟨v, by rw [Array.getElem?_setIfInBounds, if_neg c]; exact a, apart b, c2⟩
  · rw [Array.getElem?_setIfInBounds, if_neg (by omega)] at ha
    by_cases c : i = j'
    · subst c
      rw [Array.getElem?_setIfInBounds, if_pos rfl, if_pos (by omega)] at hb
      cases hb
      intro e
      have := hold j a cur (by omega) h2 ha k hk
      have := (hl k e).2
      omega
    · rw [Array.getElem?_setIfInBounds, if_neg c] at hb
      exact h4 j j' a b k hjj (by omega) ha hb hk
theorem RsI.old {lo : Nat} {rows : List (List Vl)} {g i : Nat} {wr : World} (h : RsI lo rows g i wr) (hi : i ≤ rows.length) : ∀ j s cur, j < i → Has wr g cur 95 → cur[j]? = some s → ∀ k, s.ownBlock = some k → k < wr.heap.size := by
  intro j s cur hj hh hs k hk
  obtain ⟨cur', h1, h2, h3, h4⟩ := h.has
  obtain ⟨rfl, _⟩ := h2.inj hh
  obtain ⟨r, hr⟩ := getE (l := rows) (i := j) (by omega)
  obtain ⟨u, a, b, c⟩ := h3 j r hj hr
  rw [hs] at a
  cases a
  exact b.lt k hk
/-- Rows of rows, fresh. -/
def OwnRR (lo : Nat) (w : World) (v : Value) (rows : List (List Vl)) : Prop := (v = .slice none 0 0 ∧ rows = []) ∨ ∃ g, v = .slice (some ⟨g, 0, none⟩) rows.length rows.length ∧ RsI lo rows g rows.length w
theorem OwnRR.nil (lo : Nat) (w : World) : OwnRR lo w (.slice none 0 0) [] := .inl ⟨rfl, rfl⟩
theorem OwnRR.keep {lo : Nat} {w w' : World} {v : Value} {rows : List (List Vl)} {B : Nat → Prop} (h : OwnRR lo w v rows) (ho : Only B w w') (hB : ∀ k, lo ≤ k → ¬ B k) : OwnRR lo w' v rows := by
  rcases h with h | ⟨g, h1, h2⟩
  · exact .inl h
  · exact .inr ⟨g, h1, h2.keep ho hB⟩
theorem OwnRR.shape {lo : Nat} {w : World} {v : Value} {rows : List (List Vl)} (h : OwnRR lo w v rows) : ∃ a, v = .slice a rows.length rows.length := by
  rcases h with ⟨h1, h2⟩ | ⟨g, h1, h2⟩
  · rw [h1, h2]; exact ⟨none, rfl⟩
  · exact ⟨_, h1⟩
/-- Row j. -/
theorem OwnRR.at_ {lo : Nat} {w : World} {a : Option Addr} {n cap : Nat} {rows : List (List Vl)} (h : OwnRR lo w (.slice a n cap) rows) {j : Nat} {r : List Vl} (hr : rows[j]? = some r) : ∃ g u, a = some ⟨g, 0, none⟩ ∧ lo ≤ g ∧ w.cell? ⟨g, j, none⟩ = some u ∧ OwnV w u r ∧ ∀ k, u.ownBlock = some k → lo ≤ k := by
  have hj := (List.getElem?_eq_some_iff.mp hr).1
  rcases h with ⟨h1, h2⟩ | ⟨g, h1, h2⟩
  · rw [h2] at hj; simp at hj
  · obtain ⟨cur, a1, a2, a3, a4⟩ := h2.has
    obtain ⟨u, b1, b2, b3⟩ := a3 j r hj hr
    have : a = some ⟨g, 0, none⟩ := by simp at h1; exact h1.1
    exact ⟨g, u, this, h2.gl, by rw [a2.cell]; exact b1, b2, b3⟩
theorem Tryz.infoEVals : (Tryz.prog.info? 95).map (fun i => (i.zero, i.size, i.bytes)) = some (some (.slice none 0 0), 1, 24) := by kernel_rfl
theorem run_make_rows (w : World) (n : Nat) (hn : n ≤ 1000) : ∃ cur : Array Value, cur.size = n ∧ (Instr.makeSlice 50 (.int .i64 n) (.int .i64 n)).run Tryz.prog w = .ok (.slice (some ⟨w.heap.size, 0, none⟩) n n) (w.alloc (.cells cur 95)) := by
  obtain ⟨i, hi, hz, hs, hb⟩ := info_parts Tryz.infoEVals
  have := run_make (P := Tryz.prog) w 50 95 i _ Tryz.underlying50 hi hz .i64 .i64 (n : Int) (n : Int) (by omega) (by omega) (by rw [hb]; omega) (by omega)
  refine ⟨_, ?_, this⟩
  simp [madeCells, Value.cells, hs]
end Go.Proofs.Qxb6500412aGreat
