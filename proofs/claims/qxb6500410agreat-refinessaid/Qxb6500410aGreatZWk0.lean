/-
  OWN WORK. THE B-TREE LAW: the walk's state.
-/
import Derived.Test.Qxb6500410aGreatZLvl
namespace Go.Proofs.Qxb6500410aGreat
open Go.RowKit Go.PlainAid
set_option linter.unusedSimpArgs false
set_option linter.unusedVariables false

structure ZL (lo : Nat) (w0 : World) (K : Nat → Prop) (q : Gnd) (z zb : Nat) (op : Bool) (S T U P : Vu) (hist : Option Vu) (H Hb : Nat → Prop) (was : List ByteArray) (w : World) : Prop where
  j : ZJ lo w q z op S T U hist H
  b : ∃ Sb opb, ZAt w zb Sb P P none opb Hb
  bs : ∀ k, Hb k → ¬ q.A k ∧ ¬ H k ∧ lo ≤ k
  kp : ∀ k, K k → ¬ q.A k ∧ ¬ H k ∧ ¬ Hb k ∧ lo ≤ k ∧ k < w.heap.size
  cu : CutI q.base q.recs was q.com
  cs : ComS was P
  lw : was.length = 80
  o : Only (fun k => lo ≤ k) w0 w
section
variable {lo : Nat} {w0 w w1 w2 : World} {K : Nat → Prop} {q q' : Gnd} {z zb : Nat} {op op' : Bool} {S T U P S' T' : Vu} {hist hist' : Option Vu} {H H' Hb : Nat → Prop} {was : List ByteArray} {vw : List ByteArray}
theorem ZL.go {B : Nat → Prop} (L : ZL lo w0 K q z zb op S T U P hist H Hb was w) (ho : Only B w w1) (hA : ∀ k, q.A k → ¬ B k) (hH : ∀ k, H k → ¬ B k) (hb : ∀ k, Hb k → ¬ B k) (hl : ∀ k, B k → lo ≤ k) : ZL lo w0 K q z zb op S T U P hist H Hb was w1 := by
  obtain ⟨Sb, opb, Zb⟩ := L.b
  exact ⟨L.j.keep ho hA hH, ⟨Sb, opb, Zb.keep ho hb⟩, L.bs, fun k hk => by have := L.kp k hk; have := ho.size; exact ⟨(L.kp k hk).1, (L.kp k hk).2.1, (L.kp k hk).2.2.1, (L.kp k hk).2.2.2.1, by omega⟩, L.cu, L.cs, L.lw, L.o.trans ho (fun k _ h => hl k h)⟩
theorem ZL.quiet (L : ZL lo w0 K q z zb op S T U P hist H Hb was w) (ho : Only (fun _ => False) w w1) : ZL lo w0 K q z zb op S T U P hist H Hb was w1 := L.go ho (fun _ _ h => h) (fun _ _ h => h) (fun _ _ h => h) (fun _ h => h.elim)
/-- A write into a block that is the walk's own. -/
theorem ZL.own (L : ZL lo w0 K q z zb op S T U P hist H Hb was w) (ho : Only K w w1) : ZL lo w0 K q z zb op S T U P hist H Hb was w1 := L.go ho (fun k hk c => (L.kp k c).1 hk) (fun k hk c => (L.kp k c).2.1 hk) (fun k hk c => (L.kp k c).2.2.1 hk) (fun k c => (L.kp k c).2.2.2.1)
theorem ZL.low (L : ZL lo w0 K q z zb op S T U P hist H Hb was w) : lo ≤ w.heap.size := by
  have := L.j.za.nem
  have := (L.j.sp z L.j.za.hm).2
  omega
theorem ZL.new (L : ZL lo w0 K q z zb op S T U P hist H Hb was w) {g : Nat} (hg : w.heap.size ≤ g) : ¬ q.A g ∧ ¬ H g ∧ ¬ Hb g ∧ lo ≤ g := by
  obtain ⟨Sb, opb, Zb⟩ := L.b
  have := L.low
  exact ⟨fun c => by have := L.j.fv.Alt g c; omega, fun c => by have := L.j.za.inn g c; omega, fun c => by have := Zb.inn g c; omega, by omega⟩
/-- One more block of the walk's own, made meanwhile. -/
theorem ZL.add (L : ZL lo w0 K q z zb op S T U P hist H Hb was w) (ho : Only (fun _ => False) w w1) {g : Nat} (hg : w.heap.size ≤ g) (hg1 : g < w1.heap.size) : ZL lo w0 (fun k => K k ∨ k = g) q z zb op S T U P hist H Hb was w1 := by
  have L1 := L.quiet ho
  have n := L.new hg
  exact ⟨L1.j, L1.b, L1.bs, fun k hk => by
    rcases hk with h | h
    · exact L1.kp k h
    · rw [h]; exact ⟨n.1, n.2.1, n.2.2.1, n.2.2.2, hg1⟩, L1.cu, L1.cs, L1.lw, L1.o⟩
theorem ZL.sub {K' : Nat → Prop} (L : ZL lo w0 K q z zb op S T U P hist H Hb was w) (h : ∀ k, K' k → K k) : ZL lo w0 K' q z zb op S T U P hist H Hb was w := ⟨L.j, L.b, L.bs, fun k hk => L.kp k (h k hk), L.cu, L.cs, L.lw, L.o⟩
theorem ZL.nS (L : ZL lo w0 K q z zb op S T U P hist H Hb was w) {k : Nat} (hk : K k) : ¬ q.S k := fun c => (L.kp k hk).1 (Gnd.S_A c)
/-- A look at the forest. -/
theorem ZL.look (L : ZL lo w0 K q z zb op S T U P hist H Hb was w) (A : FV q w1 op S) (ho : Only q.S w w1) : ZL lo w0 K q z zb op S T U P hist H Hb was w1 := by
  obtain ⟨Sb, opb, Zb⟩ := L.b
  have s := ho.size
  exact ⟨L.j.look A ho, ⟨Sb, opb, Zb.keep ho (fun k hk c => (L.bs k hk).1 (Gnd.S_A c))⟩, L.bs, fun k hk => ⟨(L.kp k hk).1, (L.kp k hk).2.1, (L.kp k hk).2.2.1, (L.kp k hk).2.2.2.1, by have := (L.kp k hk).2.2.2.2; omega⟩, L.cu, L.cs, L.lw, L.o.trans ho (fun k _ h => L.j.ql k (Gnd.S_A h))⟩
/-- What is written into blocks made since leaves it. -/
theorem ZL.far {w3 : World} {B : Nat → Prop} (L : ZL lo w0 K q z zb op S T U P hist H Hb was w) (L1 : ZL lo w0 K q z zb op S T U P hist H Hb was w1) (ho : Only B w1 w3) (hB : ∀ k, B k → w.heap.size ≤ k) : ZL lo w0 K q z zb op S T U P hist H Hb was w3 :=
  L1.go ho (fun k hk c => (L.new (hB k c)).1 hk) (fun k hk c => (L.new (hB k c)).2.1 hk) (fun k hk c => (L.new (hB k c)).2.2.1 hk) (fun k c => (L.new (hB k c)).2.2.2)
/-- Another forest, opened since, that shows the same. -/
theorem ZL.swap {V : Vu} {X : List ByteArray} {q2 : Gnd} (L : ZL lo w0 K q z zb false V V V V none H Hb X w) (L2 : ZL lo w0 K q z zb false V V V V none H Hb X w2) (A2 : FV q2 w2 false V) (cf : ComF q2.com V) (cu : CutI q2.base q2.recs X q2.com) (nA : ∀ k, q2.A k → w.heap.size ≤ k) : ZL lo w0 K q2 z zb false V V V V none H Hb X w2 := by
  obtain ⟨Sb, opb, Zb⟩ := L.b
  have hlo := L.low
  exact ⟨⟨A2, L2.j.za, cf, fun _ => rfl, fun k hk => ⟨fun c => by have := nA k c; have := L.j.za.inn k hk; omega, (L.j.sp k hk).2⟩, fun k hk => by have := nA k hk; omega, L.j.hh⟩, L2.b, fun k hk => ⟨fun c => by have := nA k c; have := Zb.inn k hk; omega, (L.bs k hk).2⟩, fun k hk => ⟨fun c => by have := nA k c; have := (L.kp k hk).2.2.2.2; omega, (L2.kp k hk).2⟩, cu, L.cs, L.lw, L2.o⟩
/-- Behind the marks and the clone, ahead of the op. -/
structure ZB (lo : Nat) (w0 : World) (K : Nat → Prop) (q : Gnd) (z zb : Nat) (op : Bool) (S T : Vu) (H Hb : Nat → Prop) (w : World) : Prop where
  j : ZJ lo w q z op S T T none H
  b : ZAt w zb S T T none op Hb
  bs : ∀ k, Hb k → ¬ q.A k ∧ ¬ H k ∧ lo ≤ k
  kp : ∀ k, K k → ¬ q.A k ∧ ¬ H k ∧ ¬ Hb k ∧ lo ≤ k ∧ k < w.heap.size
  qb : q.base = q.blk
  qr : q.recs = []
  o : Only (fun k => lo ≤ k) w0 w
/-- The ground is marked. -/
theorem ZL.marked (L : ZL lo w0 K q z zb op S T U P hist H Hb was w) (hd : DiskAt w1 q.d q.blk q.blk [] (Ext q.F w w1)) (ho : Only q.F w w1) : ZJ lo w1 (q.mark w w1) z op S T U hist H ∧ (∀ k, (q.mark w w1).A k → q.A k ∨ w.heap.size ≤ k) ∧ Only (fun k => lo ≤ k) w0 w1 ∧ ∀ k, K k → ¬ (q.mark w w1).A k ∧ ¬ H k ∧ lo ≤ k ∧ k < w1.heap.size := by
  have hlo := L.low
  have nA : ∀ k, (q.mark w w1).A k → q.A k ∨ w.heap.size ≤ k := fun k hk => (Gnd.mark_A hk).imp id (fun c => c.1)
  have s := ho.size
  have hH : ∀ k, H k → ¬ (q.mark w w1).A k := fun k hk c => by
    rcases nA k c with c | c
    · exact (L.j.sp k hk).1 c
    · have := L.j.za.inn k hk; omega
  refine ⟨⟨L.j.fv.marked hd ho, L.j.za.keep ho (fun k hk c => (L.j.sp k hk).1 (.inl c)), L.j.cf, L.j.sc, fun k hk => ⟨hH k hk, (L.j.sp k hk).2⟩, fun k hk => ?_, L.j.hh⟩, nA, L.o.trans ho (fun k _ h => L.j.ql k (.inl h)), fun k hk => ?_⟩
  · rcases nA k hk with c | c
    · exact L.j.ql k c
    · omega
  · have n := L.kp k hk
    refine ⟨fun c => ?_, n.2.1, n.2.2.2.1, by omega⟩
    rcases nA k c with c | c
    · exact n.1 c
    · omega
/-- The model is marked and cloned: ahead of the op. -/
theorem ZB.mk' {w3 : World} {zb' : Nat} (J : ZJ lo w1 q z op S T U hist H) (kp : ∀ k, K k → ¬ q.A k ∧ ¬ H k ∧ lo ≤ k ∧ k < w1.heap.size) (o : Only (fun k => lo ≤ k) w0 w1) (Z2 : ZAt w2 z S T T none op (Ext H w1 w2)) (o2 : Only (fun k => k = z) w1 w2) (Z3 : ZAt w3 zb' S T T none op Hb) (hb : ∀ k, Hb k → w2.heap.size ≤ k) (o3 : Only (fun _ => False) w2 w3) (qb : q.base = q.blk) (qr : q.recs = []) : ZB lo w0 K q z zb' op S T (Ext H w1 w2) Hb w3 := by
  have al := J.fv.Alt
  have s2 := o2.size
  have s3 := o3.size
  have hz := (J.sp z J.za.hm)
  have hlo : lo ≤ w1.heap.size := by have := J.za.nem; omega
  have hA : ∀ k, q.A k → k ≠ z := fun k hk e => hz.1 (by rw [← e]; exact hk)
  have hH1 : ∀ k, Ext H w1 w2 k → ¬ q.A k ∧ lo ≤ k := fun k hk => by
    rcases hk with c | c
    · exact J.sp k c
    · exact ⟨fun d => by have := al k d; omega, by omega⟩
  refine ⟨⟨(J.fv.keepA o2 hA).quiet o3, Z2.quiet o3, J.cf, J.sc, hH1, J.ql, .inl ⟨rfl, rfl⟩⟩, Z3, fun k hk => ?_, fun k hk => ?_, qb, qr, ?_⟩
  · have := hb k hk
    exact ⟨fun c => by have := al k c; omega, fun c => by have := Z2.inn k c; omega, by omega⟩
  · have n := kp k hk
    refine ⟨n.1, fun c => ?_, fun c => by have := hb k c; omega, n.2.2.1, by omega⟩
    rcases c with c | c
    · exact n.2.1 c
    · omega
  · exact (o.trans o2 (fun k _ e => by rw [e]; exact hz.2)).trans o3 (fun k _ h => h.elim)
/-- The op is played. -/
theorem ZB.played {cm : Bool} (B : ZB lo w0 K q z zb op S T H Hb w) (p : ZSt lo w q z T H cm q' op' S' T' hist' H' w1) : ZL lo w0 K q' z zb op' S' T' T T hist' H' Hb q.com w1 := by
  have hs := p.o.size
  have hbA : ∀ k, Hb k → ¬ (q.A k ∨ H k) := fun k hk c => c.elim (B.bs k hk).1 (B.bs k hk).2.1
  refine ⟨p.j, ⟨S, op, B.b.keep p.o hbA⟩, fun k hk => ?_, fun k hk => ?_, ?_, B.j.cf.toS, B.j.fv.lcom, B.o.trans p.o (fun k _ h => h.elim (B.j.ql k) (fun c => (B.j.sp k c).2))⟩
  · have := B.b.inn k hk
    exact ⟨fun c => (p.nA k c).elim (B.bs k hk).1 (fun d => by omega), fun c => (p.nH k c).elim (B.bs k hk).2.1 (fun d => by omega), (B.bs k hk).2.2⟩
  · have n := B.kp k hk
    exact ⟨fun c => (p.nA k c).elim n.1 (fun d => by omega), fun c => (p.nH k c).elim n.2.1 (fun d => by omega), n.2.2.1, n.2.2.2.1, by omega⟩
  · rcases p.qs with rfl | ⟨rs, com, F', rfl, h⟩
    · rw [B.qb, B.qr]
      exact B.j.fv.still.wide
    · show CutI q.base (q.recs ++ rs) q.com com
      rw [B.qb, B.qr, List.nil_append]
      exact h.wide
/-- The durable steps of the op. -/
theorem ZB.steps {ok : Int} (B : ZB lo w0 K q z zb op S T H Hb w) (p : ZSt lo w q z T H (cmB ok op) q' op' S' T' hist' H' w1) : q'.recs.length = 0 ∨ (ok = 2 ∧ op = true ∧ q'.recs.length ≤ 146) := by
  cases hc : cmB ok op with
  | false =>
    have := p.cm hc
    rw [this, B.qr]
    exact .inl rfl
  | true =>
    unfold cmB at hc
    simp at hc
    rcases p.qs with rfl | ⟨rs, com, F', rfl, h⟩
    · rw [B.qr]; exact .inl rfl
    · refine .inr ⟨hc.1, hc.2, ?_⟩
      show (q.recs ++ rs).length ≤ 146
      rw [B.qr, List.nil_append]
      exact h.short
end
section
variable {w : World} {p l d : Nat} {D0 X : List ByteArray} {F G : Nat → Prop} {S : Vu}
/-- Open over what a cut has left. -/
theorem gopen_any (h : PG w p l d (recov D0) D0 (recRecs D0) false X (X.take 72) F G) (cu : CutI D0 (recRecs D0) X X) (hS : ComS X S) :
    Calls Tryz.prog 28 #[.pointer (some ⟨p, 0, none⟩)] w fun e w' => ∃ q : Gnd, e = .returned (.pointer (some ⟨q.f, 0, none⟩)) ∧ q.p = p ∧ q.d = d ∧ FV q w' false S ∧ ComF q.com S ∧ CutI q.base q.recs X q.com ∧ (∀ k, q.A k → (F k ∨ G k ∨ k = p) ∨ w.heap.size ≤ k) ∧ Only (fun k => F k ∨ G k ∨ k = p) w w' := by
  have hl := recRecs_length D0
  refine (vopen_any h hS (by omega)).mono ?_
  rintro e w' ⟨f, rs, com', F', rfl, hf, hF', A, cf, CI, o⟩
  refine ⟨⟨f, p, l, d, replay (recov D0) rs, D0, recRecs D0 ++ rs, com', F', G⟩, rfl, rfl, rfl, A, cf, cu.join CI (by omega), ?_, o⟩
  rintro k (h | h | h | h)
  · rcases hF' k h with c | c
    · exact .inl (.inl c)
    · exact .inr c
  · exact .inl (.inr (.inl h))
  · exact .inl (.inr (.inr h))
  · have : k = f := h
    exact .inr (by omega)
theorem gnewF_any (h : PG w p l d (zeros 153) (zeros 153) [] false (zeros 80) ((zeros 80).take 72) F G) :
    Calls Tryz.prog 11 #[.pointer (some ⟨p, 0, none⟩)] w fun e w' => ∃ q : Gnd, e = .returned (.pointer (some ⟨q.f, 0, none⟩)) ∧ q.p = p ∧ q.d = d ∧ FV q w' false S0 ∧ ComF q.com S0 ∧ CutI q.base q.recs (zeros 80) q.com ∧ (∀ k, q.A k → (F k ∨ G k ∨ k = p) ∨ w.heap.size ≤ k) ∧ Only (fun k => F k ∨ G k ∨ k = p) w w' := by
  refine (vnew_any h (S := S0) (.inl ⟨NV_zero, rfl⟩) (by simp)).mono ?_
  rintro e w' ⟨f, rs, com', F', rfl, hf, hF', A, cf, CI, o⟩
  refine ⟨⟨f, p, l, d, replay (zeros 153) rs, zeros 153, [] ++ rs, com', F', G⟩, rfl, rfl, rfl, A, cf, CI.wide, ?_, o⟩
  rintro k (h | h | h | h)
  · rcases hF' k h with c | c
    · exact .inl (.inl c)
    · exact .inr c
  · exact .inl (.inr (.inl h))
  · exact .inl (.inr (.inr h))
  · have : k = f := h
    exact .inr (by omega)
end
/-- The walk's state at a beginning: a forest just opened, a model just made, marked, cloned. -/
theorem ZL.start {lo : Nat} {w0 w3 w4 w5 w6 : World} {K : Nat → Prop} {q : Gnd} {z zb : Nat} {S1 : Vu} {H0 Hb : Nat → Prop} {X : List ByteArray} (A : FV q w3 false S1) (cf : ComF q.com S1) (cu : CutI q.base q.recs X q.com) (cs : ComS X S1) (lX : X.length = 80) (ql : ∀ k, q.A k → lo ≤ k) (o : Only (fun k => lo ≤ k) w0 w3) (kp : ∀ k, K k → ¬ q.A k ∧ lo ≤ k ∧ k < w3.heap.size) (hlo : lo ≤ w3.heap.size)
    (hH0 : ∀ k, H0 k → w3.heap.size ≤ k) (hz : H0 z) (o4 : Only (fun _ => False) w3 w4) (Zm : ZAt w5 z S1 S1 S1 none false (Ext H0 w4 w5)) (o5 : Only (fun k => k = z) w4 w5) (Zc : ZAt w6 zb S1 S1 S1 none false Hb) (hHb : ∀ k, Hb k → w5.heap.size ≤ k) (o6 : Only (fun _ => False) w5 w6) : ZL lo w0 K q z zb false S1 S1 S1 S1 none (Ext H0 w4 w5) Hb X w6 := by
  have al := A.Alt
  have s4 := o4.size
  have s5 := o5.size
  have s6 := o6.size
  have hz3 := hH0 z hz
  have hE : ∀ k, Ext H0 w4 w5 k → w3.heap.size ≤ k := fun k hk => by
    rcases hk with c | c
    · exact hH0 k c
    · omega
  refine ⟨⟨((A.quiet o4).keepA o5 (fun k hk e => by have := al k hk; omega)).quiet o6, Zm.quiet o6, cf, fun _ => rfl, fun k hk => ⟨fun c => by have := al k c; have := hE k hk; omega, by have := hE k hk; omega⟩, ql, .inl ⟨rfl, rfl⟩⟩, ⟨S1, false, Zc⟩, fun k hk => ?_, fun k hk => ?_, cu, cs, lX, ?_⟩
  · have := hHb k hk
    exact ⟨fun c => by have := al k c; omega, fun c => by have := Zm.inn k c; omega, by omega⟩
  · have n := kp k hk
    exact ⟨n.1, fun c => by have := hE k c; omega, fun c => by have := hHb k c; omega, n.2.1, by omega⟩
  · exact ((o.trans o4 (fun _ _ h => h.elim)).trans o5 (fun k _ e => by omega)).trans o6 (fun _ _ h => h.elim)
/-- What the loop holds. -/
def LZ (lo : Nat) (w0 : World) (bb : Nat) (xv mv bv : Value) (w : World) : Prop :=
  ∃ q z zb op S T U P hist H Hb was, xv = .pointer (some ⟨q.f, 0, none⟩) ∧ mv = .pointer (some ⟨z, 0, none⟩) ∧ bv = .pointer (some ⟨zb, 0, none⟩) ∧ Has w bb #[.pointer (some ⟨q.d, 0, none⟩), .pointer (some ⟨q.p, 0, none⟩)] 31 ∧ ZL lo w0 (fun k => k = bb) q z zb op S T U P hist H Hb was w
theorem toBel {w0 w : World} (h : Only (fun k => w0.heap.size ≤ k) w0 w) : Below w0.heap.size w0 w := Only.bel (Below.refl _ _) h (fun _ h => h)
end Go.Proofs.Qxb6500410aGreat
