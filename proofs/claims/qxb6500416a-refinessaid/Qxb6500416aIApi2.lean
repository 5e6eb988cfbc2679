/-
  OWN WORK. THE INDEX: api's With, Without.
-/
import Derived.Test.Qxb6500416aIApi
namespace Go.Proofs.Qxb6500416a
open Go.RowKit Go.PlainAid
set_option linter.unusedSimpArgs false
set_option linter.unusedVariables false

theorem Only.drewO {S : Nat → Prop} {a w : World} (h : Only S a w) (n : Nat) : Only S a (w.drewN n) := ⟨h.os, h.tape, h.output, h.size, h.block⟩
def ltS (a b : ByteArray) : Bool := Op.bytesLess a.toList b.toList
theorem ltS_irr (a : ByteArray) : ltS a a = false := by
  unfold ltS
  rw [bytesLess_eq]
  simp
def withL : List Fl → Fl → List Fl
  | [], f => [f]
  | g :: r, f => if ltS f.path g.path = true then f :: g :: r else if f.path = g.path then f :: r else g :: withL r f
theorem cat1 (A : List Fl) (x : Fl) (R : List Fl) : A ++ (x :: R) = (A ++ [x]) ++ R := by simp

/-- One file more. -/
theorem OwnF.push {w : World} {v : Value} {l : List Fl} {f : Fl} (h : w.ownsRow 0 60 3 v (l.length + 1) (flCells l ++ [.string f.path, .string f.data, .int .i64 f.mode])) : OwnF w v (l ++ [f]) := by
  unfold OwnF
  rw [flCells_snoc, List.length_append]
  exact h

/-- A list that grows, and a block that stands. -/
structure WI (w : World) (bx : Nat) (c : Array Value) (ov : Value) (outl : List Fl) (wr : World) : Prop where
  own : OwnF wr ov outl
  kb : Has wr bx c 60
  hb : ∀ y, ov.ownBlock = some y → w.heap.size ≤ y ∧ y ≠ bx
  ho : Only (fun _ => False) w wr
theorem WI.quiet {w : World} {bx : Nat} {c : Array Value} {ov : Value} {outl : List Fl} {wr w' : World} (h : WI w bx c ov outl wr) (ho : Only (fun _ => False) wr w') : WI w bx c ov outl w' :=
  ⟨h.own.keep ho (fun _ _ h => h), h.kb.keep ho (fun h => h), h.hb, h.ho.trans ho (fun _ _ h => h)⟩
theorem WI.push {w : World} {bx : Nat} {c : Array Value} {ov v' : Value} {outl : List Fl} {wr w' : World} {o : Obj} {n : Nat} (h : WI w bx c ov outl wr) (f : Fl) (hown : w'.ownsRow 0 60 3 v' n (flCells outl ++ [.string f.path, .string f.data, .int .i64 f.mode])) (hn : n = outl.length + 1)
    (hgrow : (wr.alloc o).grownBy w' ov.ownBlock) (hwhere : ∀ k, v'.ownBlock = some k → ov.ownBlock = some k ∨ k = wr.heap.size + 1) : WI w bx c v' (outl ++ [f]) w' := by
  have hs := h.ho.size
  have hbl := h.kb.lt
  subst hn
  refine ⟨OwnF.push hown, (hgrow.block bx (by simp; omega) (fun e => (h.hb bx e.symm).2 rfl)).trans (Has.alloc h.kb _), fun y hy => ?_, (h.ho.alloc _).grown hgrow (fun b hb hlt => by have := h.hb b hb; omega)⟩
  rcases hwhere y hy with e | e
  · exact h.hb y e
  · omega

end Go.Proofs.Qxb6500416a
