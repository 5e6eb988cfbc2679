/-
  OWN WORK. THE PAGER LAW's REFINEMENT WALK: its parts.
-/
import Derived.Test.Qxb6500411aGreatVPlay
import Derived.Test.Qxb6500411aGreatOpsDef
namespace Go.Proofs.Qxb6500411aGreat
open Go.RowKit
set_option linter.unusedSimpArgs false
set_option linter.unusedVariables false

theorem ncrashed_com {w : World} {q : Nat} {uc : List Bool} {pc : List ByteArray} {um : List Bool} {pm : List ByteArray} {ub : List Bool} {pb : List ByteArray} {hist : Option (List Bool × List ByteArray)} {op : Bool} {F : Nat → Prop} (h : MPAt w q uc pc um pm ub pb hist op F) (hh : (hist = none ∧ ub = um ∧ pb = pm) ∨ hist = some (um, pm)) :
    Calls Tryz.prog 24 #[.pointer (some ⟨q, 0, none⟩)] w fun e w' => e = .returned (.pointer (some ⟨w.heap.size, 0, none⟩)) ∧ MPAt w' w.heap.size um pm um pm um pm none false (Ext (fun _ => False) w w') ∧ Only (fun _ => False) w w' := by
  rcases hh with ⟨rfl, rfl, rfl⟩ | rfl
  · exact ncrashed_none h
  · exact ncrashed_some h

section
variable {w : World} {p l d q : Nat} {blk base : List ByteArray} {recs : List (Nat × ByteArray)} {op : Bool} {com view : List ByteArray} {uc : List Bool} {pc : List ByteArray} {um : List Bool} {pm : List ByteArray} {hist : Option (List Bool × List ByteArray)} {F G H : Nat → Prop}
theorem JR.marked {w' : World} (h : JR w p l d q blk base recs op com view uc pc um pm hist F G H) (hd : DiskAt w' d blk blk [] (Ext F w w')) (ho : Only F w w') :
    JR w' p l d q blk blk [] op com view uc pc um pm hist (Ext F w w') G H := by
  have hHi := h.inH
  obtain ⟨ub, pb, hm, hh⟩ := h.md
  refine ⟨h.pg.marked hd ho, ⟨ub, pb, hm.keep ho (fun x hx e => h.HF x hx (.inl e)), hh⟩, h.see, h.sem, h.map, h.mac, ?_⟩
  intro x hx e
  rcases e with (e | e) | e
  · exact h.HF x hx (.inl e)
  · have := hHi x hx; omega
  · exact h.HF x hx (.inr e)
theorem JR.mmarked {w' : World} (h : JR w p l d q blk base recs op com view uc pc um pm hist F G H) (hm : MPAt w' q uc pc um pm um pm none op (Ext H w w')) (ho : Only H w w') :
    JR w' p l d q blk base recs op com view uc pc um pm none F G (Ext H w w') := by
  obtain ⟨oF, oG, op_⟩ := h.offF
  have fi := h.pg.inF
  have gi := h.pg.inG
  have pl := h.pg.plt
  refine ⟨h.pg.keep ho oF oG op_, ⟨um, pm, hm, .inl ⟨rfl, rfl, rfl⟩⟩, h.see, h.sem, h.map, h.mac, ?_⟩
  rintro x (hx | hx) e
  · exact h.HF x hx e
  · rcases e with e | e | e
    · have := fi x e; omega
    · have := gi x e; omega
    · omega
theorem PGc.of {w' : World} (h : PG w p l d blk base recs op com view F G) : ∃ cur, PGc w p l d blk base recs op com view cur F G := h.c
end

/-- What holds at every round's head. -/
structure VI (w : World) (vb p q qb : Nat) (wr : World) : Prop where
  ex : ∃ l d blk base recs op com was view uc pc um pm hist F G H uo po B, JR wr p l d q blk base recs op com view uc pc um pm hist F G H ∧ (∃ bu bp bop, MPAt wr qb bu bp uo po uo po none bop B) ∧ SeesAll (was.take 72) uo po ∧ MapOk ((was.take 72).getD 0 emptyB) ∧ was.length = 80 ∧ CutInv base recs was com ∧
    Has wr vb (belowC d l) 30 ∧ (∀ x, F x ∨ G x ∨ H x ∨ B x → w.heap.size ≤ x ∧ x ≠ vb) ∧ (∀ x, B x → ¬ (F x ∨ G x ∨ H x ∨ x = p))
  bel : Below w.heap.size w wr
  vb : w.heap.size ≤ vb
  pb : w.heap.size ≤ p

theorem VI.keep {w : World} {vb p q qb : Nat} {wr w' : World} (h : VI w vb p q qb wr) (ho : Only (fun _ => False) wr w') : VI w vb p q qb w' := by
  obtain ⟨⟨l, d, blk, base, recs, op, com, was, view, uc, pc, um, pm, hist, F, G, H, uo, po, B, j, ⟨bu, bp, bop, hb⟩, h1, h2, h3, h4, h5, h6, h7⟩, hbel, hvb, hpb⟩ := h
  exact ⟨⟨l, d, blk, base, recs, op, com, was, view, uc, pc, um, pm, hist, F, G, H, uo, po, B, j.keep ho, ⟨bu, bp, bop, hb.quiet ho⟩, h1, h2, h3, h4, h5.keep ho (fun h => h), h6, h7⟩, Only.bel hbel ho (fun _ h => h.elim), hvb, hpb⟩

/-- What the cut found, and must still be there behind it. -/
structure VK (vb top d l0 : Nat) (blk base : List ByteArray) (recs : List (Nat × ByteArray)) (F : Nat → Prop) (q : Nat) (um : List Bool) (pm : List ByteArray) (H : Nat → Prop) (qb : Nat) (uo : List Bool) (po : List ByteArray) (B : Nat → Prop) (b0 ko : Nat) (oc : Array Value) (w0 w : World) : Prop where
  dk : DiskAt w d blk base recs F
  md : ∃ uc pc ub pb hist op, MPAt w q uc pc um pm ub pb hist op H ∧ ((hist = none ∧ ub = um ∧ pb = pm) ∨ hist = some (um, pm))
  mb : ∃ bu bp bop, MPAt w qb bu bp uo po uo po none bop B
  kb : Has w b0 (belowC d l0) 30
  kop : Has w ko oc 40
  lt : ∀ k, F k ∨ H k ∨ B k ∨ k = b0 ∨ k = ko → k < top ∧ k ≠ vb
  bel : Below w0.heap.size w0 w
  h0 : w0.heap.size ≤ top ∧ w0.heap.size ≤ vb
  le : top ≤ w.heap.size

section
variable {vb top d l0 : Nat} {blk base : List ByteArray} {recs : List (Nat × ByteArray)} {F : Nat → Prop} {q : Nat} {um : List Bool} {pm : List ByteArray} {H : Nat → Prop} {qb : Nat} {uo : List Bool} {po : List ByteArray} {B : Nat → Prop} {b0 ko : Nat} {oc : Array Value} {w0 w : World}
theorem VK.keep {S : Nat → Prop} {w' : World} (h : VK vb top d l0 blk base recs F q um pm H qb uo po B b0 ko oc w0 w) (ho : Only S w w') (hS : ∀ k, S k → top ≤ k ∨ k = vb) : VK vb top d l0 blk base recs F q um pm H qb uo po B b0 ko oc w0 w' := by
  have off : ∀ k, F k ∨ H k ∨ B k ∨ k = b0 ∨ k = ko → ¬ S k := fun k hk hs => by
    have := h.lt k hk
    rcases hS k hs with h | h <;> omega
  have h0 := h.h0
  obtain ⟨uc, pc, ub, pb, hist, op, hm, hh⟩ := h.md
  obtain ⟨bu, bp, bop, hb⟩ := h.mb
  exact ⟨h.dk.keep ho (fun k hk => off k (.inl hk)), ⟨uc, pc, ub, pb, hist, op, hm.keep ho (fun k hk => off k (.inr (.inl hk))), hh⟩, ⟨bu, bp, bop, hb.keep ho (fun k hk => off k (.inr (.inr (.inl hk))))⟩, h.kb.keep ho (off _ (.inr (.inr (.inr (.inl rfl))))), h.kop.keep ho (off _ (.inr (.inr (.inr (.inr rfl))))), h.lt,
    Only.bel h.bel ho (fun k hk => by rcases hS k hk with h | h <;> omega), h.h0, Nat.le_trans h.le ho.size⟩
theorem VK.quiet {w' : World} (h : VK vb top d l0 blk base recs F q um pm H qb uo po B b0 ko oc w0 w) (ho : Only (fun _ => False) w w') : VK vb top d l0 blk base recs F q um pm H qb uo po B b0 ko oc w0 w' := h.keep ho (fun _ h => h.elim)
end

/-- The layer opened over a cut image. -/
structure VN (vb lo hi p l d : Nat) (D0 X : List ByteArray) (F G : Nat → Prop) (w : World) : Prop where
  pg : PG w p l d (recov D0) D0 (recRecs D0) false X (X.take 72) F G
  kv : Has w vb (belowC d l) 30
  rg : ∀ k, F k ∨ G k ∨ k = p → lo ≤ k ∧ k < hi ∧ k ≠ vb
  vh : vb < hi
  le : hi ≤ w.heap.size

section
variable {vb lo hi p l d : Nat} {D0 X : List ByteArray} {F G : Nat → Prop} {w : World}
theorem VN.keep {S : Nat → Prop} {w' : World} (h : VN vb lo hi p l d D0 X F G w) (ho : Only S w w') (hS : ∀ k, S k → hi ≤ k) : VN vb lo hi p l d D0 X F G w' := by
  have hv := h.vh
  refine ⟨h.pg.keep ho (fun k hk hs => ?_) (fun k hk hs => ?_) (fun hs => ?_), h.kv.keep ho (fun hs => ?_), h.rg, h.vh, Nat.le_trans h.le ho.size⟩
  · have := hS k hs; have := h.rg k (.inl hk); omega
  · have := hS k hs; have := h.rg k (.inr (.inl hk)); omega
  · have := hS _ hs; have := h.rg p (.inr (.inr rfl)); omega
  · have := hS _ hs; omega
theorem VN.quiet {w' : World} (h : VN vb lo hi p l d D0 X F G w) (ho : Only (fun _ => False) w w') : VN vb lo hi p l d D0 X F G w' := h.keep ho (fun _ h => h.elim)
theorem VN.look {w' : World} (h : VN vb lo hi p l d D0 X F G w) (ho : Only (fun k => G k ∨ k = p) w w') (hp : PG w' p l d (recov D0) D0 (recRecs D0) false X (X.take 72) F G) : VN vb lo hi p l d D0 X F G w' := by
  refine ⟨hp, h.kv.keep ho ?_, h.rg, h.vh, Nat.le_trans h.le ho.size⟩
  rintro (e | e)
  · exact (h.rg _ (.inr (.inl e))).2.2 rfl
  · exact (h.rg _ (.inr (.inr e))).2.2 rfl
theorem VN.off (h : VN vb lo hi p l d D0 X F G w) {E : Nat → Prop} (hE : ∀ k, E k → hi ≤ k) : ∀ k, E k → ¬ (G k ∨ k = p) := by
  rintro k hk (e | e)
  · have := hE k hk; have := h.rg k (.inr (.inl e)); omega
  · have := hE k hk; have := h.rg k (.inr (.inr e)); omega

/-- Two models over X behind the recovery, and the layer: the round's end. -/
theorem VN.fin {w0 : World} {base : List ByteArray} {recs : List (Nat × ByteArray)} {was com : List ByteArray} {kk : Nat} {q qb : Nat} {u : List Bool} {g : List ByteArray} {H B : Nat → Prop} (h : VN vb lo hi p l d D0 X F G w) (hcu : CutInv D0 (recRecs D0) X X)
    (lX : X.length = 80) (hs : SeesAll (X.take 72) u g) (hmp : MapOk ((X.take 72).getD 0 emptyB)) (hm : MPAt w q u g u g u g none false H) (hb : ∃ bu bp bop, MPAt w qb bu bp u g u g none bop B) (hlo : w0.heap.size ≤ lo) (hbel : Below w0.heap.size w0 w) (hvb : w0.heap.size ≤ vb)
    (hH : ∀ k, H k → w0.heap.size ≤ k ∧ k ≠ vb ∧ ¬ (F k ∨ G k ∨ k = p)) (hB : ∀ k, B k → w0.heap.size ≤ k ∧ k ≠ vb ∧ ¬ (F k ∨ G k ∨ k = p) ∧ ¬ H k) : VI w0 vb p q qb w := by
  have hpr := h.rg p (.inr (.inr rfl))
  refine ⟨⟨l, d, _, _, _, false, X, X, X.take 72, u, g, u, g, none, F, G, H, u, g, B, ⟨h.pg, ⟨u, g, hm, .inl ⟨rfl, rfl, rfl⟩⟩, hs, hs, hmp, hmp, fun k hk => (hH k hk).2.2⟩, hb, hs, hmp, lX, hcu, h.kv, ?_, ?_⟩, hbel, hvb, by omega⟩
  · rintro j (hj | hj | hj | hj)
    · have := h.rg j (.inl hj); omega
    · have := h.rg j (.inr (.inl hj)); omega
    · have := hH j hj; omega
    · have := hB j hj; omega
  · rintro k hk (e | e | e | e)
    · exact (hB k hk).2.2.1 (.inl e)
    · exact (hB k hk).2.2.1 (.inr (.inl e))
    · exact (hB k hk).2.2.2 e
    · exact (hB k hk).2.2.1 (.inr (.inr e))
end
end Go.Proofs.Qxb6500411aGreat
