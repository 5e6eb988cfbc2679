/-
  OWN WORK. THE TABLE LAW: ScanFits (written by tools/gen_js1.py).
-/
import Derived.Test.Qxb6500412aGreatJS0
import Derived.Test.Qxb6500412aGreatJSP
namespace Go.Proofs.Qxb6500412aGreat
open Go.RowKit Go.PlainAid
set_option linter.unusedSimpArgs false
set_option linter.unusedVariables false

theorem OwnRR.shp {lo : Nat} {w : World} {v : Value} {R : List (List Vl)} (h : OwnRR lo w v R) : ∃ a cap, v = .slice a R.length cap := by
  rcases h with ⟨rfl, rfl⟩ | ⟨g, rfl, _⟩
  · exact ⟨_, _, rfl⟩
  · exact ⟨_, _, rfl⟩
theorem OwnRR.get {lo : Nat} {w : World} {v : Value} {R : List (List Vl)} (h : OwnRR lo w v R) {j : Nat} {r : List Vl} (hr : R[j]? = some r) : ∃ g u cap, v = .slice (some ⟨g, 0, none⟩) R.length cap ∧ w.cell? ⟨g, j, none⟩ = some u ∧ OwnV w u r := by
  rcases h with ⟨rfl, rfl⟩ | ⟨g, rfl, I⟩
  · simp at hr
  · obtain ⟨cur, h1, h2, h3, _⟩ := I.has
    obtain ⟨u, hu, ho, _⟩ := h3 j r (List.getElem?_eq_some_iff.mp hr).1 hr
    exact ⟨g, u, _, rfl, by rw [h2.cell]; exact hu, ho⟩
def SfP (t : Tb) (c : Nat) (lo hi : Bnd) (R : List (List Vl)) (w : World) (x : Ending) (w' : World) : Prop := ∃ bb : Bool, x = .returned (.bool bb) ∧ (bb = true ↔ ScF t c lo hi R) ∧ Only (fun _ => False) w w'
theorem SfP.no {t : Tb} {c : Nat} {lo hi : Bnd} {R : List (List Vl)} {w w' : World} {i : Nat} {r : List Vl} (hr : R[i]? = some r) (h : ¬ OkR t c lo hi R i r) (ho : Only (fun _ => False) w w') : SfP t c lo hi R w (.returned (.bool false)) w' :=
  ⟨false, rfl, ⟨fun e => (by cases e), fun f => absurd (f.2 i r hr) h⟩, ho⟩
section
variable {w : World} {b o : Nat} {e : GE}
end
end Go.Proofs.Qxb6500412aGreat
