/-
  OWN WORK. THE TABLE LAW: Shown (written by tools/gen_js5.py).
-/
import Derived.Test.Qxb6500412aGreatJS4
import Derived.Test.Qxb6500412aGreatEBr
namespace Go.Proofs.Qxb6500412aGreat
open Go.RowKit Go.PlainAid
set_option linter.unusedSimpArgs false
set_option linter.unusedVariables false

theorem zwf : (⟨false, 0, ⟨#[]⟩⟩ : Vl).wf := .inl ⟨rfl, rfl, (show In64 0 from by unfold In64; omega)⟩
theorem findD_uniq {D : Db} (d : DOk D) {t0 t1 : Tb} {nm : ByteArray} (h0 : t0 ∈ D) (hn : t0.nm = nm) (hf : findD D nm = some t1) : t1 = t0 := by
  unfold findD at hf
  have h1 := List.mem_of_find?_eq_some hf
  have h2 := List.find?_some hf
  simp at h2
  exact by_key (fun t : Tb => t.nm) d.srt h1 h0 (h2.trans hn.symm)
/-- What Shown answers. -/
def ShX (l : List GE) (D : Db) (op open_ : Bool) (bb : Bool) : Prop := bb = true ↔ op = open_ ∧ GP (l.map (·.t)) D
theorem ShX.no {l : List GE} {D : Db} {op open_ : Bool} (h : ¬ GP (l.map (·.t)) D) : ShX l D op open_ false := ⟨fun e => (by cases e), fun e => absurd e.2 h⟩
section
variable {q : Gnd} {w w' : World} {x : Nat} {op : Bool} {S : Vu} {T : List (Tb × Hd)} {v : Value} {l : List GE}
end
end Go.Proofs.Qxb6500412aGreat
