/-
  OWN WORK. THE TXN LAW: the walk Serial: its start.
-/
import Derived.Test.Qxb6500414aGreatXG9
import Derived.Test.Qxb6500414aGreatOpsDef2
namespace Go.Proofs.Qxb6500414aGreat
open Go.RowKit Go.PlainAid
set_option linter.unusedSimpArgs false
set_option linter.unusedVariables false

theorem ghz_cells (tv : Value) (l : List GE) : ghC (GhM.z tv l) = #[tv, .slice none 0 0, .slice none 0 0, .slice none 0 0, .slice none 0 0, .bool false, .bool false, .bool false, .bool false] := rfl
theorem ghz_A {tv : Value} {l : List GE} {kG k : Nat} (h : (GhM.z tv l).A kG k) : k = kG ∨ MLm tv l k ∨ MLi l k := by
  rcases h with (h | h | ⟨s, hs, h⟩) | h | ⟨s, hs, h⟩
  · exact .inl h
  · exact .inr (.inl h)
  · cases h
  · exact .inr (.inr h)
  · obtain ⟨y, hy, _⟩ := h
    cases hy
section
variable {lo : Nat} {q : Gnd} {w w' : World} {kb g x kG : Nat} {tv : Value} {l : List GE} {D : Db}
theorem SW.start (rx : RX q w g x (Mu0 D) (fun k => k = g)) (gh : GhAt w kG (GhM.z tv l) D) (hm : ∀ k, k = kG ∨ MLm tv l k ∨ MLi l k → ¬ q.A k ∧ k ≠ x ∧ k ≠ g ∧ k ≠ kb ∧ lo ≤ k) (bx : Has w kb (jbC q.d x) 30) (hkb : ¬ q.A kb ∧ kb ≠ x ∧ kb ≠ g) (cu : CutX q.base q.recs (fun X => ComD X D) (fun X => ComD X D)) (hlo : ∀ k, q.A k ∨ k = x ∨ k = g ∨ k = kb → lo ≤ k) : SW lo w kb q g x kG (Mu0 D) (fun k => k = g) (GhM.z tv l) D := by
  refine ⟨rx, gh, SerI.new D tv l, fun k hk => ?_, bx, ⟨hkb.1, hkb.2.1, hkb.2.2, fun c => ?_⟩, cu, fun k hk => ?_⟩
  · have h1 := hm k (ghz_A hk)
    exact ⟨h1.1, h1.2.1, h1.2.2.1⟩
  · exact (hm kb (ghz_A c)).2.2.2.1 rfl
  · rcases hk with c | c | c | c | c
    · exact hlo k (.inl c)
    · exact hlo k (.inr (.inl c))
    · exact hlo k (.inr (.inr (.inl c)))
    · exact (hm k (ghz_A c)).2.2.2.2
    · exact hlo k (.inr (.inr (.inr c)))
end
/-- The walk's state, seen from its variables. -/
def SWL (w0 : World) (kb : Nat) (tv gv : Value) (w : World) : Prop := ∃ q g x kG M K m DW, tv = .pointer (some ⟨g, 0, none⟩) ∧ gv = .pointer (some ⟨kG, 0, none⟩) ∧ SW w0.heap.size w kb q g x kG M K m DW ∧ Only (fun k => w0.heap.size ≤ k) w0 w
end Go.Proofs.Qxb6500414aGreat
