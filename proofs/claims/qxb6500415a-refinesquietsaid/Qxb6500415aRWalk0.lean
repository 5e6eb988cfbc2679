/-
  OWN WORK. THE REFINEMENT WALK: its parts.
-/
import Derived.Test.Qxb6500415aRStep
import Derived.Test.Qxb6500415aLaw8
namespace Go.Proofs.Qxb6500415a
open Go.RowKit
set_option linter.unusedSimpArgs false
set_option linter.unusedVariables false

theorem mcrashed_com {w : World} {m : Nat} {com cur : List ByteArray} {dirty : List Bool} {n : Nat} {op : Bool} {mbase : List ByteArray} {hist : Option (List ByteArray)} {F : Nat → Prop} (h : MLogAt w m com cur dirty n op mbase hist F) (hh : (hist = none ∧ mbase = com) ∨ hist = some com) :
    Calls Try.prog 32 #[.pointer (some ⟨m, 0, none⟩)] w fun e w' => e = .returned (.pointer (some ⟨w.heap.size, 0, none⟩)) ∧ MLogAt w' w.heap.size com com (nots 80) 0 false com none (Ext (fun _ => False) w w') ∧ Only (fun _ => False) w w' := by
  rcases hh with ⟨rfl, rfl⟩ | rfl
  · exact mcrashed_none h
  · exact mcrashed_some h

/-- What holds at every round's head. -/
structure RI (w : World) (vb l m mb : Nat) (wr : World) : Prop where
  ex : ∃ d F G H B blk base recs op es com was cur dirty mbase hist bcur bdirty bn bop, JM wr l d m blk base recs op es com cur dirty mbase hist F G H ∧ MLogAt wr mb was bcur bdirty bn bop was none B ∧
    ((hist = none ∧ mbase = com) ∨ hist = some com) ∧ CutInv base recs was com ∧ Has wr vb #[.pointer (some ⟨d, 0, none⟩)] 29 ∧ ∀ k, F k ∨ G k ∨ H k ∨ B k → w.heap.size ≤ k ∧ k ≠ vb
  bel : Below w.heap.size w wr
  vb : w.heap.size ≤ vb

theorem RI.keep {w : World} {vb l m mb : Nat} {wr w' : World} (h : RI w vb l m mb wr) (ho : Only (fun _ => False) wr w') : RI w vb l m mb w' := by
  obtain ⟨⟨d, F, G, H, B, blk, base, recs, op, es, com, was, cur, dirty, mbase, hist, bcur, bdirty, bn, bop, j, hb, hh, hc, kv, hk⟩, hbel, hvb⟩ := h
  exact ⟨⟨d, F, G, H, B, blk, base, recs, op, es, com, was, cur, dirty, mbase, hist, bcur, bdirty, bn, bop, j.keep ho, hb.keep ho (fun _ _ h => h), hh, hc, kv.keep ho (fun h => h), hk⟩, Only.bel hbel ho (fun _ h => h.elim), hvb⟩

/-- What the cut found, and must still be there behind it. -/
structure CK (vb top : Nat) (d : Nat) (blk base : List ByteArray) (recs : List (Nat × ByteArray)) (F : Nat → Prop) (m : Nat) (com cur : List ByteArray) (dirty : List Bool) (n : Nat) (op : Bool) (mbase : List ByteArray) (hist : Option (List ByteArray)) (H : Nat → Prop)
    (mb : Nat) (was bcur : List ByteArray) (bdirty : List Bool) (bn : Nat) (bop : Bool) (B : Nat → Prop) (b0 ko : Nat) (oc : Array Value) (w0 w : World) : Prop where
  dk : DiskAt w d blk base recs F
  md : MLogAt w m com cur dirty n op mbase hist H
  mbk : MLogAt w mb was bcur bdirty bn bop was none B
  kb : Has w b0 #[.pointer (some ⟨d, 0, none⟩)] 29
  kop : Has w ko oc 37
  lt : ∀ k, F k ∨ H k ∨ B k ∨ k = b0 ∨ k = ko → k < top ∧ k ≠ vb
  bel : Below w0.heap.size w0 w
  h0 : w0.heap.size ≤ top ∧ w0.heap.size ≤ vb
  le : top ≤ w.heap.size

section
variable {vb top d : Nat} {blk base : List ByteArray} {recs : List (Nat × ByteArray)} {F : Nat → Prop} {m : Nat} {com cur : List ByteArray} {dirty : List Bool} {n : Nat} {op : Bool} {mbase : List ByteArray} {hist : Option (List ByteArray)} {H : Nat → Prop}
    {mb : Nat} {was bcur : List ByteArray} {bdirty : List Bool} {bn : Nat} {bop : Bool} {B : Nat → Prop} {b0 ko : Nat} {oc : Array Value} {w0 w : World}

theorem CK.keep {S : Nat → Prop} {w' : World} (h : CK vb top d blk base recs F m com cur dirty n op mbase hist H mb was bcur bdirty bn bop B b0 ko oc w0 w) (ho : Only S w w') (hS : ∀ k, S k → top ≤ k ∨ k = vb) :
    CK vb top d blk base recs F m com cur dirty n op mbase hist H mb was bcur bdirty bn bop B b0 ko oc w0 w' := by
  have off : ∀ k, F k ∨ H k ∨ B k ∨ k = b0 ∨ k = ko → ¬ S k := fun k hk hs => by
    have := h.lt k hk
    rcases hS k hs with h | h <;> omega
  have h0 := h.h0
  exact ⟨h.dk.keep ho (fun k hk => off k (.inl hk)), h.md.keep ho (fun k hk => off k (.inr (.inl hk))), h.mbk.keep ho (fun k hk => off k (.inr (.inr (.inl hk)))), h.kb.keep ho (off _ (.inr (.inr (.inr (.inl rfl))))), h.kop.keep ho (off _ (.inr (.inr (.inr (.inr rfl))))), h.lt,
    Only.bel h.bel ho (fun k hk => by rcases hS k hk with h | h <;> omega), h.h0, Nat.le_trans h.le ho.size⟩

theorem CK.quiet {w' : World} (h : CK vb top d blk base recs F m com cur dirty n op mbase hist H mb was bcur bdirty bn bop B b0 ko oc w0 w) (ho : Only (fun _ => False) w w') :
    CK vb top d blk base recs F m com cur dirty n op mbase hist H mb was bcur bdirty bn bop B b0 ko oc w0 w' := h.keep ho (fun _ h => h.elim)
end

/-- The layer opened over a cut image. -/
structure CN (vb lo hi d l : Nat) (D0 : List ByteArray) (F G : Nat → Prop) (w : World) : Prop where
  dk : DiskAt w d (recov D0) D0 (recRecs D0) F
  lg : LogAt w l d false [] G
  kv : Has w vb #[.pointer (some ⟨d, 0, none⟩)] 29
  FG : ∀ k, F k → ¬ G k
  rg : ∀ k, F k ∨ G k → lo ≤ k ∧ k < hi ∧ k ≠ vb
  vh : vb < hi
  le : hi ≤ w.heap.size

theorem CN.keep {vb lo hi d l : Nat} {D0 : List ByteArray} {F G S : Nat → Prop} {w w' : World} (h : CN vb lo hi d l D0 F G w) (ho : Only S w w') (hS : ∀ k, S k → hi ≤ k) : CN vb lo hi d l D0 F G w' := by
  have hv := h.vh
  refine ⟨h.dk.keep ho (fun k hk hs => ?_), h.lg.keep ho (fun k hk hs => ?_), h.kv.keep ho (fun hs => ?_), h.FG, h.rg, h.vh, Nat.le_trans h.le ho.size⟩
  · have := hS k hs; have := h.rg k (.inl hk); omega
  · have := hS k hs; have := h.rg k (.inr hk); omega
  · have := hS _ hs; omega

theorem CN.quiet {vb lo hi d l : Nat} {D0 : List ByteArray} {F G : Nat → Prop} {w w' : World} (h : CN vb lo hi d l D0 F G w) (ho : Only (fun _ => False) w w') : CN vb lo hi d l D0 F G w' := h.keep ho (fun _ h => h.elim)

/-- Two models over X behind the recovery, and the layer: the round's end. -/
theorem CN.fin {vb lo hi d l : Nat} {D0 : List ByteArray} {F G : Nat → Prop} {w0 w : World} {base : List ByteArray} {recs : List (Nat × ByteArray)} {was com X : List ByteArray} {k : Nat} {m mb : Nat} {H B : Nat → Prop} {bcur : List ByteArray} {bdirty : List Bool} {bn : Nat} {bop : Bool} (h : CN vb lo hi d l D0 F G w) (hcu : CutInv base recs was com) (hD : replay base (recs.take k) = D0)
    (lX : X.length = 80) (hX : Shows (recov D0) X) (hm : MLogAt w m X X (nots 80) 0 false X none H) (hb : MLogAt w mb X bcur bdirty bn bop X none B) (hlo : w0.heap.size ≤ lo) (hbel : Below w0.heap.size w0 w) (hvb : w0.heap.size ≤ vb)
    (hH : ∀ k, H k → w0.heap.size ≤ k ∧ k ≠ vb ∧ ¬ F k ∧ ¬ G k) (hB : ∀ k, B k → w0.heap.size ≤ k ∧ k ≠ vb) : RI w0 vb l m mb w := by
  subst hD
  refine ⟨⟨d, F, G, H, B, _, _, _, false, [], X, X, X, nots 80, X, none, bcur, bdirty, bn, bop, ⟨h.dk, h.lg, hm, hcu.inv k lX hX, h.FG, fun j hj hh => (hH j hh).2.2.1 hj, fun j hj hh => (hH j hh).2.2.2 hj⟩, hb, .inl ⟨rfl, rfl⟩, hcu.again k hX, h.kv, ?_⟩, hbel, hvb⟩
  rintro j (hj | hj | hj | hj)
  · have := h.rg j (.inl hj); omega
  · have := h.rg j (.inr hj); omega
  · have := hH j hj; omega
  · exact hB j hj

end Go.Proofs.Qxb6500415a
