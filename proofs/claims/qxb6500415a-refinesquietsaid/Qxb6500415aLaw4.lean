/-
  OWN WORK. KeepStep, a kind at a time.
-/
import Derived.Test.Qxb6500415aWalInv
import Derived.BigQuiet
import Derived.Deep.QuietTactic
namespace Go.Proofs.Qxb6500415a
open Go.RowKit
set_option linter.unusedSimpArgs false
set_option linter.unusedVariables false

theorem Only.drewN {S : Nat → Prop} {a w : World} (h : Only S a w) (n : Nat) : Only S a (w.drewN n) := ⟨h.os, h.tape, h.output, h.size, h.block⟩

/-- The three objects, apart from one another, tied by the invariant. -/
structure Joint (w : World) (l d g : Nat) (blk base : List ByteArray) (recs : List (Nat × ByteArray)) (op : Bool) (es : List (Nat × ByteArray)) (com was cur : List ByteArray) (dirty : List Bool) (F G H : Nat → Prop) : Prop where
  dk : DiskAt w d blk base recs F
  lg : LogAt w l d op es G
  gh : GhostAt w g com was cur dirty es.length op H
  inv : Inv blk op es com cur dirty
  FG : ∀ k, F k → ¬ G k
  FH : ∀ k, F k → ¬ H k
  GH : ∀ k, G k → ¬ H k

def KPost (w : World) (l d g : Nat) (base : List ByteArray) (was : List ByteArray) (F G H : Nat → Prop) (blk : List ByteArray) (recs : List (Nat × ByteArray)) (op : Bool) (es : List (Nat × ByteArray)) (com cur : List ByteArray) (kind : Int) (w' : World) : Prop :=
  ∃ blk' recs' op' es' com' cur' dirty', Joint w' l d g blk' base recs' op' es' com' was cur' dirty' (Ext F w w') G H ∧ Only (fun k => F k ∨ G k ∨ H k) w w' ∧
    ((blk' = blk ∧ recs' = recs ∧ com' = com) ∨ (kind = 4 ∧ op = true ∧ recs' = recs ++ commitAll blk es ∧ blk' = replay blk (commitAll blk es) ∧ com' = cur))

section
variable {w : World} {l d g : Nat} {blk base : List ByteArray} {recs : List (Nat × ByteArray)} {op : Bool} {es : List (Nat × ByteArray)} {com was cur : List ByteArray} {dirty : List Bool} {F G H : Nat → Prop}

theorem Joint.keep {w' : World} (h : Joint w l d g blk base recs op es com was cur dirty F G H) (ho : Only (fun _ => False) w w') : Joint w' l d g blk base recs op es com was cur dirty F G H :=
  ⟨h.dk.keep ho (fun _ _ h => h), h.lg.keep ho (fun _ _ h => h), h.gh.keep ho (fun _ _ h => h), h.inv, h.FG, h.FH, h.GH⟩

theorem Joint.ext {w' : World} (h : Joint w' l d g blk base recs op es com was cur dirty F G H) (hs : w.heap.size ≤ w'.heap.size) (hF : ∀ k, F k → k < w.heap.size) (hG : ∀ k, G k → k < w.heap.size) (hH : ∀ k, H k → k < w.heap.size) :
    Joint w' l d g blk base recs op es com was cur dirty (Ext F w w') G H :=
  ⟨h.dk.mono (fun k hk => .inl hk) (Ext.in hF hs), h.lg, h.gh, h.inv, Ext.off h.FG hG, Ext.off h.FH hH, h.GH⟩

theorem Joint.post {w' : World} {kind : Int} (j0 : Joint w l d g blk base recs op es com was cur dirty F G H) {op' : Bool} {es' : List (Nat × ByteArray)} {cur' : List ByteArray} {dirty' : List Bool} (h : Joint w' l d g blk base recs op' es' com was cur' dirty' F G H)
    (ho : Only (fun k => F k ∨ G k ∨ H k) w w') : KPost w l d g base was F G H blk recs op es com cur kind w' :=
  ⟨blk, recs, op', es', com, cur', dirty', h.ext ho.size j0.dk.inn j0.lg.inn j0.gh.inn, ho, .inl ⟨rfl, rfl, rfl⟩⟩

theorem Joint.same {w' : World} {kind : Int} (j0 : Joint w l d g blk base recs op es com was cur dirty F G H) (ho : Only (fun _ => False) w w') : KPost w l d g base was F G H blk recs op es com cur kind w' :=
  j0.post (j0.keep ho) (ho.mono (fun _ _ h => h.elim))

set_option maxRecDepth 100000 in
set_option maxHeartbeats 1000000 in
theorem keep_begin (a b c : Int) (s t : ByteArray) (j0 : Joint w l d g blk base recs op es com was cur dirty F G H) :
    Calls Try.prog 16 #[.pointer (some ⟨l, 0, none⟩), .pointer (some ⟨g, 0, none⟩), .agg #[.int .i64 1, .int .i64 a, .int .i64 b, .int .i64 c, .string s, .string t]] w fun e w' =>
      e = .returned (.bool true) ∧ KPost w l d g base was F G H blk recs op es com cur 1 w' := by
  have o1 : Only (fun _ => False) w (w.alloc (.cells #[.int .i64 1, .int .i64 a, .int .i64 b, .int .i64 c, .string s, .string t] 37)) := (Only.refl _ w).alloc _
  have j1 := j0.keep o1
  cases op with
  | true =>
    have C1 := hide (wbegin_open l d es G _ j1.lg)
    obtain ⟨⟨b0, b1, b2, b3, h1, h2, h3, h4, h5, n1, n2, n3, f0, f1, f2, f3, f4⟩, l0, l1, l2, l3, hi⟩ := hide j1.gh
    have c5 := h1.cell 5
    go_enter Try.func16, Try.ntmps16
    go_wp2_with fail
    refine (unhide C1).mono ?_
    rintro e w1 ⟨rfl, rfl⟩
    go_wp2_with fail
    go_ret
    exact ⟨rfl, j0.same o1⟩
  | false =>
    have C1 := hide (wbegin_shut l d es G _ j1.lg)
    go_enter Try.func16, Try.ntmps16
    go_wp2_with fail
    refine (unhide C1).mono ?_
    rintro e w1 ⟨rfl, hl1, ho1⟩
    have g1 := j1.gh.keep ho1 (fun k hk hg => j0.GH k hg hk)
    have d1 := j1.dk.keep ho1 (fun k hk hg => j0.FG k hk hg)
    obtain ⟨⟨b0, b1, b2, b3, h1, h2, h3, h4, h5, n1, n2, n3, f0, f1, f2, f3, f4⟩, l0, l1, l2, l3, hi⟩ := hide g1
    have c5 := h1.cell 5
    have z5 := h1.free 5
    go_wp2_with fail
    go_ret
    have o3 : Only H w1 (w1.setCell ⟨g, 5, none⟩ (.bool true)) := (Only.refl H w1).setCell (p := ⟨g, 5, none⟩) (fun _ => f0) _
    refine ⟨rfl, j0.post (op' := true) (es' := es) (cur' := cur) (dirty' := dirty) ⟨d1.keep o3 (fun k hk hh => j0.FH k hk hh), hl1.keep o3 (fun k hk hh => j0.GH k hk hh), ?_, j0.inv.begin_, j0.FG, j0.FH, j0.GH⟩ ?_⟩
    · refine ⟨⟨b0, b1, b2, b3, ?_, h2.setCell_other (h1.ne h2 (by decide)).symm _, h3.setCell_other (h1.ne h3 (by decide)).symm _, h4.setCell_other (h1.ne h4 (by decide)).symm _, h5.setCell_other (h1.ne h5 (by decide)).symm _, n1, n2, n3, f0, f1, f2, f3, f4⟩, l0, l1, l2, l3, fun k hk => by simpa using hi k hk⟩
      simpa using h1.setCell 5 (.bool true)
    · exact ((o1.mono (fun _ _ h => h.elim)).trans ho1 (fun _ _ h => .inr (.inl h))).trans o3 (fun _ _ h => .inr (.inr h))

end
end Go.Proofs.Qxb6500415a
