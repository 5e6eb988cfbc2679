/-
  OWN WORK. THE TABLE LAW's MODEL: Lookup, SchemaOf, Names (written by tools/gen_mm6.py).
-/
import Derived.Test.Qxb6500412aGreatMP1
import Derived.Test.Qxb6500412aGreatETab
namespace Go.Proofs.Qxb6500412aGreat
open Go.RowKit Go.PlainAid
set_option linter.unusedSimpArgs false
set_option linter.unusedVariables false

/-- A database of the model, at a pointer. -/
structure MDb (w : World) (dk o : Nat) (v : Value) (l : List GE) (D : Db) : Prop where
  c0 : w.cell? ⟨dk, o, none⟩ = some v
  ml : ML w v l
  tt : l.map (·.t) = D
  ok : DOk D
theorem MDb.quiet {w w' : World} {dk o : Nat} {v : Value} {l : List GE} {D : Db} (h : MDb w dk o v l D) (ho : Only (fun _ => False) w w') : MDb w' dk o v l D := ⟨cell_keep h.c0 ho (fun e => e), h.ml.quiet ho, h.tt, h.ok⟩
/-- A row made anew. -/
def FrV (w : World) (r : List Vl) (z : Int) (x : Ending) (w' : World) : Prop := ∃ v, x = .returned (.tuple #[v, .int .i64 z]) ∧ OwnV w' v r ∧ Newer w v ∧ Only (fun _ => False) w w'
theorem FrV.none {w w' : World} {z : Int} (ho : Only (fun _ => False) w w') : FrV w [] z (.returned (.tuple #[.slice none 0 0, .int .i64 z])) w' := ⟨_, rfl, World.ownsRow_nil _ _ _ _, fun k hk => by simp [Value.ownBlock] at hk, ho⟩
section
variable {w : World} {dk o : Nat} {v : Value} {l : List GE} {D : Db}
end
end Go.Proofs.Qxb6500412aGreat
