/-
  OWN WORK. THE TREE: ReadTree: the listing that grows.
-/
import Derived.Test.Qxb6500417aGreatTWrt
import Derived.Deep.RegionHeldLaw
namespace Go.Proofs.Qxb6500417aGreat
open Go.RowKit Go.PlainAid
set_option linter.unusedSimpArgs false
set_option linter.unusedVariables false

/-- A listing that grows. -/
structure EI (w : World) (v0 : Value) (ov : Value) (l : List En) (wr : World) : Prop where
  own : OwnE wr ov l
  hb : ∀ y, ov.ownBlock = some y → v0.ownBlock = some y ∨ w.heap.size ≤ y
  ho : Only (fun y => v0.ownBlock = some y) w wr
theorem EI.start {w : World} {v : Value} {l : List En} (h : OwnE w v l) : EI w v v l w := ⟨h, fun y hy => .inl hy, Only.refl _ _⟩
theorem EI.trans {w : World} {v0 ov v' : Value} {l m : List En} {wr w' : World} (h : EI w v0 ov l wr) (h' : EI wr ov v' m w') : EI w v0 v' m w' := by
  have hs := h.ho.size
  refine ⟨h'.own, fun y hy => ?_, h.ho.trans h'.ho (fun y hy e => ?_)⟩
  · rcases h'.hb y hy with e | e
    · exact h.hb y e
    · exact .inr (by omega)
  · rcases h.hb y e with e | e
    · exact e
    · omega
theorem EI.quiet {w : World} {v0 ov : Value} {l : List En} {wr w' : World} (h : EI w v0 ov l wr) (ho : Only (fun _ => False) wr w') : EI w v0 ov l w' :=
  ⟨h.own.keep ho (fun _ _ h => h), h.hb, h.ho.trans ho (fun _ _ h => h.elim)⟩
theorem EI.first {w w0 : World} {v0 ov : Value} {l : List En} {wr : World} (ho : Only (fun _ => False) w w0) (h : EI w0 v0 ov l wr) : EI w v0 ov l wr := by
  have hs := ho.size
  refine ⟨h.own, fun y hy => ?_, (ho.mono (T := fun y => v0.ownBlock = some y) (fun _ _ h => h.elim)).trans h.ho (fun _ _ h => h)⟩
  rcases h.hb y hy with e | e
  · exact .inl e
  · exact .inr (by omega)
theorem EI.push {w : World} {v0 ov v' : Value} {l : List En} {f : En} {wr w' : World} (h : EI w v0 ov l wr) (hown : w'.ownsRow 0 184 3 v' (l.length + 1) (enCells l ++ [.string (sb f.path), .int .i64 f.id, .int .i64 f.mode]))
    (ho : Only (fun y => ov.ownBlock = some y) wr w') (hwhere : ∀ k, v'.ownBlock = some k → ov.ownBlock = some k ∨ wr.heap.size ≤ k) : EI w v0 v' (l ++ [f]) w' := h.trans ⟨OwnE.push hown, hwhere, ho⟩
theorem sb_cat (a b : Str) : sb a ++ sb b = sb (a ++ b) := ls_inj (by rw [ls_cat, ls_sb, ls_sb, ls_sb])
theorem flatP_step (n : Nat) (J : Nat → Sl) (i : Nat) (p : Str) : flatP (n + 1) J i p = (J i).rws.flatMap (fun r => if r.dir = true then flatP n J r.id (p ++ r.name ++ [47]) else [⟨p ++ r.name, r.id, r.mode⟩]) := rfl
end Go.Proofs.Qxb6500417aGreat
