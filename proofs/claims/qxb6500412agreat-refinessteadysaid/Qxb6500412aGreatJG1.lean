/-
  OWN WORK. THE TABLE LAW's GHOST: GRow.
-/
import Derived.Test.Qxb6500412aGreatJG0
namespace Go.Proofs.Qxb6500412aGreat
open Go.RowKit Go.PlainAid
set_option linter.unusedSimpArgs false
set_option linter.unusedVariables false

theorem cell_lt {w : World} {p : Addr} {v : Value} (h : w.cell? p = some v) : p.block < w.heap.size := by
  unfold World.cell? at h
  apply Classical.byContradiction
  intro hn
  rw [Array.getElem?_eq_none (by omega)] at h
  cases h
theorem cell_keep {B : Nat → Prop} {w w' : World} {p : Addr} {v : Value} (h : w.cell? p = some v) (ho : Only B w w') (hb : ¬ B p.block) : w'.cell? p = some v := by
  have hl := cell_lt h
  unfold World.cell? at h ⊢
  rw [ho.block _ hl hb]
  exact h
/-- A table of the ghost, seen through a pointer. -/
structure GPt (w : World) (b o : Nat) (e : GE) : Prop where
  c0 : w.cell? ⟨b, o, none⟩ = some (.string e.t.nm)
  c1 : w.cell? ⟨b, o + 1, none⟩ = some e.cv
  c2 : w.cell? ⟨b, o + 2, none⟩ = some (.int .i64 (e.t.pk : Int))
  c3 : w.cell? ⟨b, o + 3, none⟩ = some (.int .i64 (ixI e.t.ix))
  c4 : w.cell? ⟨b, o + 4, none⟩ = some e.rv
theorem GPt.keep {B : Nat → Prop} {w w' : World} {b o : Nat} {e : GE} (h : GPt w b o e) (ho : Only B w w') (hb : ¬ B b) : GPt w' b o e := ⟨cell_keep h.c0 ho hb, cell_keep h.c1 ho hb, cell_keep h.c2 ho hb, cell_keep h.c3 ho hb, cell_keep h.c4 ho hb⟩
/-- Row j of a table of the ghost. -/
theorem GEl.at_ {w : World} {e : GE} (h : GEl w e) {j : Nat} {r : List Vl} (hr : e.t.rows[j]? = some r) : ∃ g u cap, e.rv = .slice (some ⟨g, 0, none⟩) e.t.rows.length cap ∧ e.us[j]? = some u ∧ w.cell? ⟨g, j, none⟩ = some u ∧ OwnV w u r := by
  have hj := (List.getElem?_eq_some_iff.mp hr).1
  obtain ⟨u, hu⟩ := getE (l := e.us) (i := j) (by rw [h.n]; exact hj)
  rcases h.rs.2 with ⟨he, h0⟩ | ⟨g, cap, cur, he, _⟩
  · have := h.n; omega
  · rw [h.n] at he
    have hc := World.ownsRow.cells h.rs (g := g) (by rw [he]; rfl)
    have b1 := hc _ _ hu
    rw [addr_add] at b1
    exact ⟨g, u, cap, he, hu, b1, h.row j u r hu hr⟩
theorem GEl.rshape {w : World} {e : GE} (h : GEl w e) : ∃ a cap, e.rv = .slice a e.t.rows.length cap := by
  obtain ⟨a, cap, hv⟩ := ownsRow_shape h.rs
  rw [h.n] at hv
  exact ⟨a, cap, hv⟩
/-- The place of the row of a key, or -1. -/
def GRR (t : Tb) (key : Vl) (r : Int) : Prop := (r = -1 ∧ ∀ x ∈ t.rows, vcmp key (kyR t.pk x) ≠ 0) ∨ ∃ (i : Nat) (x : List Vl), t.rows[i]? = some x ∧ r = i ∧ vcmp key (kyR t.pk x) = 0
end Go.Proofs.Qxb6500412aGreat
