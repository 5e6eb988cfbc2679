/-
  OWN WORK. THE TABLE LAW's GHOST: DueSchema of a DropTable, a CreateIndex.
-/
import Derived.Test.Qxb6500412aGreatJH1
namespace Go.Proofs.Qxb6500412aGreat
open Go.RowKit Go.PlainAid
set_option linter.unusedSimpArgs false
set_option linter.unusedVariables false

section
variable {w w' : World} {g : Nat} {cv mv cv' : Value} {cl ml cl' : List GE} {op : Bool} {kind a : Int} {s T : ByteArray} {D : Db}
theorem GFR.no (P : GP (cl.map (·.t)) D) {r : Int} (h : GFR cl s r) (hr : r < 0) : findD D s = none := by
  rcases h with ⟨rfl, h⟩ | ⟨i, x, _, rfl, _⟩
  · refine P.no (fun t ht => ?_)
    obtain ⟨e, he, rfl⟩ := List.mem_map.mp ht
    exact h e he
  · omega
theorem GFR.yes (P : GP (cl.map (·.t)) D) {r : Int} (h : GFR cl s r) (hr : 0 ≤ r) : ∃ (i : Nat) (e : GE) (t0 : Tb), r = i ∧ cl[i]? = some e ∧ e.t.nm = s ∧ findD D s = some t0 ∧ t0 ∈ D ∧ GT e.t t0 := by
  rcases h with ⟨rfl, h⟩ | ⟨i, x, hx, rfl, hn⟩
  · omega
  · obtain ⟨t0, h1, h2, h3⟩ := P.yes (List.mem_map.mpr ⟨x, List.mem_of_getElem? hx, rfl⟩) hn
    exact ⟨i, x, t0, rfl, hx, hn, h1, h2, h3⟩
end
end Go.Proofs.Qxb6500412aGreat
