/-
  OWN WORK. THE TABLE LAW: KeptSchema, KeptNames.
-/
import Derived.Test.Qxb6500412aGreatJS3
import Derived.Test.Qxb6500412aGreatETab
namespace Go.Proofs.Qxb6500412aGreat
open Go.RowKit Go.PlainAid
set_option linter.unusedSimpArgs false
set_option linter.unusedVariables false

section
variable {q : Gnd} {w w' : World} {x : Nat} {op : Bool} {S : Vu} {T : List (Tb × Hd)} {v : Value} {l : List GE}
/-- What KeptSchema answers. -/
def KcX (l : List GE) (D : Db) (nm : ByteArray) (bb : Bool) : Prop :=
  (GP (l.map (·.t)) D → bb = true) ∧ (bb = true → ∀ e ∈ l, e.t.nm = nm → ∃ t0, findD D nm = some t0 ∧ e.t.cols = t0.cols ∧ e.t.pk = t0.pk ∧ e.t.ix = t0.ix)
theorem ixI_inj {a b : Option Nat} (h : ixI a = ixI b) : a = b := by
  cases a with
  | none =>
    cases b with
    | none => rfl
    | some j => simp [ixI] at h <;> omega
  | some i =>
    cases b with
    | none => simp [ixI] at h <;> omega
    | some j => simp [ixI] at h; rw [show i = j by omega]
/-- What KeptNames answers. -/
def KnX (l : List GE) (D : Db) (bb : Bool) : Prop := bb = true ↔ ((l.map (·.t)).map (fun t => t.nm)).Perm (D.map (fun t => t.nm))
theorem KnX.no {D : Db} (h : ¬ ((l.map (·.t)).map (fun t => t.nm)).Perm (D.map (fun t => t.nm))) : KnX l D false := ⟨fun e => (by cases e), fun p => absurd p h⟩
end
end Go.Proofs.Qxb6500412aGreat
