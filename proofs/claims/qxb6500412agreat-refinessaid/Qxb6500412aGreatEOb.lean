/-
  OWN WORK. TABLE: what a changing call leaves.
-/
import Derived.Test.Qxb6500412aGreatEIn
namespace Go.Proofs.Qxb6500412aGreat
open Go.RowKit Go.PlainAid
set_option linter.unusedSimpArgs false
set_option linter.unusedVariables false

/-- With OK the trees hold T'; else nothing has turned. -/
structure OpP (q : Gnd) (w : World) (x : Nat) (S : Vu) (T' : List (Tb × Hd)) (Z : Int) (w' : World) : Prop where
  no : Z ≠ 0 → ST q w' x true S
  yes : Z = 0 → ∃ S', ST q w' x true S' ∧ Lay S' T'
  on : Only q.S w w'
theorem OpP.same {q : Gnd} {w : World} {x : Nat} {S : Vu} {T' : List (Tb × Hd)} {Z : Int} {w' : World} (hz : Z ≠ 0) (st : ST q w' x true S) (on : Only q.S w w') : OpP q w x S T' Z w' := ⟨fun _ => st, fun e => absurd e hz, on⟩
theorem OpP.turn {q : Gnd} {w : World} {x : Nat} {S S' : Vu} {T' : List (Tb × Hd)} {Z : Int} {w' : World} (hz : Z = 0) (st : ST q w' x true S') (L : Lay S' T') (on : Only q.S w w') : OpP q w x S T' Z w' := ⟨fun e => absurd hz e, fun _ => ⟨S', st, L⟩, on⟩
theorem OpP.pre {q : Gnd} {w w0 : World} {x : Nat} {S : Vu} {T' : List (Tb × Hd)} {Z : Int} {w' : World} (o : Only (fun _ => False) w w0) (h : OpP q w0 x S T' Z w') : OpP q w x S T' Z w' := ⟨h.no, h.yes, (o.toS (q := q)).ss h.on⟩
end Go.Proofs.Qxb6500412aGreat
