/-
  OWN WORK. THE TABLE LAW: the walk's state.
-/
import Derived.Test.Qxb6500413aGreatYQ4
import Derived.Test.Qxb6500413aGreatYW2
import Derived.Test.Qxb6500413aGreatOpsDef2
namespace Go.Proofs.Qxb6500413aGreat
open Go.RowKit Go.PlainAid
set_option linter.unusedSimpArgs false
set_option linter.unusedVariables false

structure YLs (lo : Nat) (w0 : World) (K : Nat → Prop) (q : Gnd) (x z zb : Nat) (op : Bool) (S C : Vu) (T TC : List (Tb × Hd)) (U PD : Db) (hist : Option Db) (H Hb : Nat → Prop) (w : World) : Prop where
  j : YJ lo w q x z op S C T TC U hist H
  b : ∃ Sb opb, YAt w zb Sb PD PD none opb Hb
  bs : ∀ k, Hb k → ¬ q.A k ∧ ¬ H k ∧ k ≠ x ∧ lo ≤ k
  kp : ∀ k, K k → ¬ q.A k ∧ ¬ H k ∧ ¬ Hb k ∧ k ≠ x ∧ lo ≤ k ∧ k < w.heap.size
  cu : CutX q.base q.recs (fun X => ComD X PD) (fun X => ComD X (dbOf TC))
  o : Only (fun k => lo ≤ k) w0 w
section
variable {lo : Nat} {w0 w w1 w2 : World} {K : Nat → Prop} {q q' : Gnd} {x z zb : Nat} {op op' : Bool} {S C : Vu} {T TC : List (Tb × Hd)} {U PD : Db} {hist : Option Db} {H Hb : Nat → Prop}
theorem YJ.keep {B : Nat → Prop} (J : YJ lo w q x z op S C T TC U hist H) (ho : Only B w w1) (hA : ∀ k, q.A k ∨ k = x → ¬ B k) (hH : ∀ k, H k → ¬ B k) : YJ lo w1 q x z op S C T TC U hist H := ⟨J.st.keep ho hA, J.la, J.za.keep ho hH, J.cf, J.lc, J.sp, J.ql, J.xl, J.hh⟩
theorem YLs.go {B : Nat → Prop} (L : YLs lo w0 K q x z zb op S C T TC U PD hist H Hb w) (ho : Only B w w1) (hA : ∀ k, q.A k ∨ k = x → ¬ B k) (hH : ∀ k, H k → ¬ B k) (hb : ∀ k, Hb k → ¬ B k) (hl : ∀ k, B k → lo ≤ k) : YLs lo w0 K q x z zb op S C T TC U PD hist H Hb w1 := by
  obtain ⟨Sb, opb, Zb⟩ := L.b
  exact ⟨L.j.keep ho hA hH, ⟨Sb, opb, Zb.keep ho hb⟩, L.bs, fun k hk => ⟨(L.kp k hk).1, (L.kp k hk).2.1, (L.kp k hk).2.2.1, (L.kp k hk).2.2.2.1, (L.kp k hk).2.2.2.2.1, Nat.lt_of_lt_of_le (L.kp k hk).2.2.2.2.2 ho.size⟩, L.cu, L.o.trans ho (fun k _ h => hl k h)⟩
theorem YLs.quiet (L : YLs lo w0 K q x z zb op S C T TC U PD hist H Hb w) (ho : Only (fun _ => False) w w1) : YLs lo w0 K q x z zb op S C T TC U PD hist H Hb w1 := L.go ho (fun _ _ h => h) (fun _ _ h => h) (fun _ _ h => h) (fun _ h => h.elim)
theorem YLs.own (L : YLs lo w0 K q x z zb op S C T TC U PD hist H Hb w) (ho : Only K w w1) : YLs lo w0 K q x z zb op S C T TC U PD hist H Hb w1 := L.go ho (fun k hk c => hk.elim (L.kp k c).1 (L.kp k c).2.2.2.1) (fun k hk c => (L.kp k c).2.1 hk) (fun k hk c => (L.kp k c).2.2.1 hk) (fun k c => (L.kp k c).2.2.2.2.1)
theorem YLs.low (L : YLs lo w0 K q x z zb op S C T TC U PD hist H Hb w) : lo ≤ w.heap.size := L.j.low
theorem YLs.new (L : YLs lo w0 K q x z zb op S C T TC U PD hist H Hb w) {g : Nat} (hg : w.heap.size ≤ g) : ¬ q.A g ∧ ¬ H g ∧ ¬ Hb g ∧ g ≠ x ∧ lo ≤ g := by
  obtain ⟨Sb, opb, Zb⟩ := L.b
  have := L.low
  have hx := L.j.st.has.lt
  exact ⟨fun c => by have := L.j.st.fv.Alt g c; omega, fun c => by have := L.j.za.inn g c; omega, fun c => by have := Zb.inn g c; omega, by omega, by omega⟩
theorem YLs.add (L : YLs lo w0 K q x z zb op S C T TC U PD hist H Hb w) (ho : Only (fun _ => False) w w1) {g : Nat} (hg : w.heap.size ≤ g) (hg1 : g < w1.heap.size) : YLs lo w0 (fun k => K k ∨ k = g) q x z zb op S C T TC U PD hist H Hb w1 := by
  have L1 := L.quiet ho
  have n := L.new hg
  exact ⟨L1.j, L1.b, L1.bs, fun k hk => by
    rcases hk with h | h
    · exact L1.kp k h
    · rw [h]; exact ⟨n.1, n.2.1, n.2.2.1, n.2.2.2.1, n.2.2.2.2, hg1⟩, L1.cu, L1.o⟩
theorem YLs.sub {K' : Nat → Prop} (L : YLs lo w0 K q x z zb op S C T TC U PD hist H Hb w) (h : ∀ k, K' k → K k) : YLs lo w0 K' q x z zb op S C T TC U PD hist H Hb w := ⟨L.j, L.b, L.bs, fun k hk => L.kp k (h k hk), L.cu, L.o⟩
theorem YLs.nS (L : YLs lo w0 K q x z zb op S C T TC U PD hist H Hb w) {k : Nat} (hk : K k) : ¬ q.S k := fun c => (L.kp k hk).1 (Gnd.S_A c)
theorem YLs.look (L : YLs lo w0 K q x z zb op S C T TC U PD hist H Hb w) (st : ST q w1 x op S) (ho : Only q.S w w1) : YLs lo w0 K q x z zb op S C T TC U PD hist H Hb w1 := by
  obtain ⟨Sb, opb, Zb⟩ := L.b
  exact ⟨L.j.look st ho, ⟨Sb, opb, Zb.keep ho (fun k hk c => (L.bs k hk).1 (Gnd.S_A c))⟩, L.bs, fun k hk => ⟨(L.kp k hk).1, (L.kp k hk).2.1, (L.kp k hk).2.2.1, (L.kp k hk).2.2.2.1, (L.kp k hk).2.2.2.2.1, Nat.lt_of_lt_of_le (L.kp k hk).2.2.2.2.2 ho.size⟩, L.cu, L.o.trans ho (fun k _ h => L.j.ql k (Gnd.S_A h))⟩
theorem YLs.far {w3 : World} {B : Nat → Prop} (L : YLs lo w0 K q x z zb op S C T TC U PD hist H Hb w) (L1 : YLs lo w0 K q x z zb op S C T TC U PD hist H Hb w1) (ho : Only B w1 w3) (hB : ∀ k, B k → w.heap.size ≤ k) : YLs lo w0 K q x z zb op S C T TC U PD hist H Hb w3 :=
  L1.go ho (fun k hk c => hk.elim (L.new (hB k c)).1 (L.new (hB k c)).2.2.2.1) (fun k hk c => (L.new (hB k c)).2.1 hk) (fun k hk c => (L.new (hB k c)).2.2.1 hk) (fun k c => (L.new (hB k c)).2.2.2.2)
theorem YJ.comd (J : YJ lo w q x z op S C T TC U hist H) : ComD q.com (dbOf TC) := ⟨C, J.cf.toS, .inl ⟨TC, J.lc, rfl⟩⟩
/-- Behind the marks and the clone, ahead of the op. -/
structure YB (lo : Nat) (w0 : World) (K : Nat → Prop) (q : Gnd) (x z zb : Nat) (op : Bool) (S C : Vu) (T TC : List (Tb × Hd)) (H Hb : Nat → Prop) (w : World) : Prop where
  j : YJ lo w q x z op S C T TC (dbOf TC) none H
  b : YAt w zb (dbOf T) (dbOf TC) (dbOf TC) none op Hb
  bs : ∀ k, Hb k → ¬ q.A k ∧ ¬ H k ∧ k ≠ x ∧ lo ≤ k
  kp : ∀ k, K k → ¬ q.A k ∧ ¬ H k ∧ ¬ Hb k ∧ k ≠ x ∧ lo ≤ k ∧ k < w.heap.size
  qb : q.base = q.blk
  qr : q.recs = []
  o : Only (fun k => lo ≤ k) w0 w
/-- The ground is marked. -/
theorem YLs.marked (L : YLs lo w0 K q x z zb op S C T TC U PD hist H Hb w) (hd : DiskAt w1 q.d q.blk q.blk [] (Ext q.F w w1)) (ho : Only q.F w w1) : YJ lo w1 (q.mark w w1) x z op S C T TC U hist H ∧ Only (fun k => lo ≤ k) w0 w1 ∧ ∀ k, K k → ¬ (q.mark w w1).A k ∧ ¬ H k ∧ k ≠ x ∧ lo ≤ k ∧ k < w1.heap.size := by
  have J := L.j
  have hlo := L.low
  have s := ho.size
  have nA : ∀ k, k < w.heap.size → ¬ q.A k → ¬ (q.mark w w1).A k := fun k hk h c => by
    rcases Gnd.mark_A c with d | d
    · exact h d
    · omega
  have st : ST (q.mark w w1) w1 x op S := ⟨J.st.fv.marked hd ho, J.st.has.keep ho (fun h => J.st.nx (.inl h)), nA x J.st.has.lt J.st.nx⟩
  refine ⟨⟨st, J.la, J.za.keep ho (fun k hk c => (J.sp k hk).1 (.inl c)), J.cf, J.lc, fun k hk => ⟨nA k (J.za.inn k hk) (J.sp k hk).1, (J.sp k hk).2⟩, fun k hk => ?_, J.xl, J.hh⟩, L.o.trans ho (fun k _ h => J.ql k (.inl h)), fun k hk => ?_⟩
  · rcases Gnd.mark_A hk with d | d
    · exact J.ql k d
    · omega
  · have n := L.kp k hk
    exact ⟨nA k n.2.2.2.2.2 n.1, n.2.1, n.2.2.2.1, n.2.2.2.2.1, by omega⟩
/-- The model is marked and cloned: ahead of the op. -/
theorem YB.mk' {w3 : World} {zb' : Nat} (J : YJ lo w1 q x z op S C T TC U hist H) (kp : ∀ k, K k → ¬ q.A k ∧ ¬ H k ∧ k ≠ x ∧ lo ≤ k ∧ k < w1.heap.size) (o : Only (fun k => lo ≤ k) w0 w1) (Z2 : YAt w2 z (dbOf T) (dbOf TC) (dbOf TC) none op (Ext H w1 w2)) (o2 : Only (fun k => k = z) w1 w2) (Z3 : YAt w3 zb' (dbOf T) (dbOf TC) (dbOf TC) none op Hb) (hb : ∀ k, Hb k → w2.heap.size ≤ k) (o3 : Only (fun _ => False) w2 w3) (qb : q.base = q.blk) (qr : q.recs = []) : YB lo w0 K q x z zb' op S C T TC (Ext H w1 w2) Hb w3 := by
  have al := J.st.fv.Alt
  have xl := J.st.has.lt
  have s2 := o2.size
  have s3 := o3.size
  have hz := (J.sp z J.za.hm)
  have hlo := J.low
  have hA : ∀ k, q.A k ∨ k = x → k ≠ z := fun k hk e => by
    subst e
    rcases hk with hk | hk
    · exact hz.1 hk
    · exact hz.2.1 hk
  have hH1 : ∀ k, Ext H w1 w2 k → ¬ q.A k ∧ k ≠ x ∧ lo ≤ k := fun k hk => by
    rcases hk with c | c
    · exact J.sp k c
    · exact ⟨fun d => by have := al k d; omega, by omega, by omega⟩
  refine ⟨⟨(J.st.keep o2 hA).quiet o3, J.la, Z2.quiet o3, J.cf, J.lc, hH1, J.ql, J.xl, .inl ⟨rfl, rfl⟩⟩, Z3, fun k hk => ?_, fun k hk => ?_, qb, qr, ?_⟩
  · have := hb k hk
    exact ⟨fun c => by have := al k c; omega, fun c => by have := Z2.inn k c; omega, by omega, by omega⟩
  · have n := kp k hk
    refine ⟨n.1, fun c => ?_, fun c => by have := hb k c; omega, n.2.2.1, n.2.2.2.1, by omega⟩
    rcases c with c | c
    · exact n.2.1 c
    · omega
  · exact (o.trans o2 (fun k _ e => by rw [e]; exact hz.2.2)).trans o3 (fun k _ h => h.elim)
/-- The op is played. -/
theorem YB.played {cm : Bool} {e : Ending} (B : YB lo w0 K q x z zb op S C T TC H Hb w) (p : YR lo w q x z TC (dbOf TC) H cm e w1) : ∃ q' op' S' C' T' TC' hist' H', YLs lo w0 K q' x z zb op' S' C' T' TC' (dbOf TC) (dbOf TC) hist' H' Hb w1 ∧ q'.d = q.d ∧ q'.f = q.f ∧ (q'.recs.length = 0 ∨ (cm = true ∧ q'.recs.length ≤ 146)) ∧ Only (fun k => q.A k ∨ H k) w w1 := by
  obtain ⟨_, q', op', S', C', T', TC', hist', H', J, hq, hH, oo⟩ := p
  have hs := oo.size
  have hbA : ∀ k, Hb k → ¬ (q.A k ∨ H k) := fun k hk c => c.elim (B.bs k hk).1 (B.bs k hk).2.1
  have nA : ∀ k, k < w.heap.size → ¬ q.A k → ¬ q'.A k := fun k hk h c => by
    rcases hq with ⟨rfl, _⟩ | ⟨_, rs, com, wa, wb, rfl, hwa, _⟩
    · exact h c
    · rcases done_A c with d | d
      · exact h d
      · omega
  have nH : ∀ k, k < w.heap.size → ¬ H k → ¬ H' k := fun k hk h c => by
    rcases hH k c with d | d
    · exact h d
    · omega
  refine ⟨q', op', S', C', T', TC', hist', H', ⟨J, ⟨_, op, B.b.keep oo hbA⟩, fun k hk => ?_, fun k hk => ?_, ?_, B.o.trans oo (fun k _ h => h.elim (B.j.ql k) (fun c => (B.j.sp k c).2.2))⟩, ?_, ?_, ?_, oo⟩
  · have := B.b.inn k hk
    exact ⟨nA k this (B.bs k hk).1, nH k this (B.bs k hk).2.1, (B.bs k hk).2.2⟩
  · have n := B.kp k hk
    exact ⟨nA k n.2.2.2.2.2 n.1, nH k n.2.2.2.2.2 n.2.1, n.2.2.1, n.2.2.2.1, n.2.2.2.2.1, by omega⟩
  · rcases hq with ⟨rfl, hD⟩ | ⟨_, rs, com, wa, wb, rfl, hwa, ci⟩
    · rw [B.qb, B.qr, hD]
      exact (B.j.st.fv.still).toX B.j.st.fv.lcom B.j.st.fv.lcom B.j.comd B.j.comd
    · have lc' : com.length = 80 := J.st.fv.lcom
      have h := CutInv.toX (P := fun X => ComD X (dbOf TC)) (Q := fun X => ComD X (dbOf TC')) ci B.j.st.fv.lcom lc' B.j.comd J.comd
      show CutX q.base (q.recs ++ rs) _ _
      rw [B.qb, B.qr, List.nil_append]
      exact h
  · rcases hq with ⟨rfl, _⟩ | ⟨_, rs, com, wa, wb, rfl, _⟩ <;> rfl
  · rcases hq with ⟨rfl, _⟩ | ⟨_, rs, com, wa, wb, rfl, _⟩ <;> rfl
  · rcases hq with ⟨rfl, _⟩ | ⟨hc, rs, com, wa, wb, rfl, _, ci⟩
    · exact .inl (by rw [B.qr]; rfl)
    · refine .inr ⟨hc, ?_⟩
      show (q.recs ++ rs).length ≤ 146
      rw [B.qr, List.nil_append]
      exact ci.short
/-- The walk's state at a beginning: a store just opened, a model just made, marked, cloned. -/
theorem YLs.start {w3 w4 w5 w6 : World} {S1 : Vu} {T1 : List (Tb × Hd)} {H0 : Nat → Prop} (st : ST q w3 x false S1) (la : Lay S1 T1) (cf : ComF q.com S1) (cu : CutX q.base q.recs (fun X => ComD X (dbOf T1)) (fun X => ComD X (dbOf T1))) (ql : ∀ k, q.A k → lo ≤ k) (xl : lo ≤ x) (o : Only (fun k => lo ≤ k) w0 w3) (kp : ∀ k, K k → ¬ q.A k ∧ k ≠ x ∧ lo ≤ k ∧ k < w3.heap.size) (hlo : lo ≤ w3.heap.size)
    (hH0 : ∀ k, H0 k → w3.heap.size ≤ k) (hz : H0 z) (o4 : Only (fun _ => False) w3 w4) (Zm : YAt w5 z (dbOf T1) (dbOf T1) (dbOf T1) none false (Ext H0 w4 w5)) (o5 : Only (fun k => k = z) w4 w5) (Zc : YAt w6 zb (dbOf T1) (dbOf T1) (dbOf T1) none false Hb) (hHb : ∀ k, Hb k → w5.heap.size ≤ k) (o6 : Only (fun _ => False) w5 w6) : YLs lo w0 K q x z zb false S1 S1 T1 T1 (dbOf T1) (dbOf T1) none (Ext H0 w4 w5) Hb w6 := by
  have al := st.fv.Alt
  have xl3 := st.has.lt
  have s4 := o4.size
  have s5 := o5.size
  have s6 := o6.size
  have hz3 := hH0 z hz
  have hE : ∀ k, Ext H0 w4 w5 k → w3.heap.size ≤ k := fun k hk => by
    rcases hk with c | c
    · exact hH0 k c
    · omega
  refine ⟨⟨((st.quiet o4).keep o5 (fun k hk e => by
      rcases hk with hk | hk
      · have := al k hk; omega
      · omega)).quiet o6, la, Zm.quiet o6, cf, la, fun k hk => ⟨fun c => by have := al k c; have := hE k hk; omega, by have := hE k hk; omega, by have := hE k hk; omega⟩, ql, xl, .inl ⟨rfl, rfl⟩⟩, ⟨_, false, Zc⟩, fun k hk => ?_, fun k hk => ?_, cu, ?_⟩
  · have := hHb k hk
    exact ⟨fun c => by have := al k c; omega, fun c => by have := Zm.inn k c; omega, by omega, by omega⟩
  · have n := kp k hk
    exact ⟨n.1, fun c => by have := hE k c; omega, fun c => by have := hHb k c; omega, n.2.1, n.2.2.1, by omega⟩
  · exact ((o.trans o4 (fun _ _ h => h.elim)).trans o5 (fun k _ e => by omega)).trans o6 (fun _ _ h => h.elim)
end
/-- What the loop holds. -/
def LY (lo : Nat) (w0 : World) (bb : Nat) (xv mv bv : Value) (w : World) : Prop :=
  ∃ q x z zb op S C T TC U PD hist H Hb, xv = .pointer (some ⟨x, 0, none⟩) ∧ mv = .pointer (some ⟨z, 0, none⟩) ∧ bv = .pointer (some ⟨zb, 0, none⟩) ∧ Has w bb #[.pointer (some ⟨q.d, 0, none⟩), .pointer (some ⟨q.f, 0, none⟩)] 30 ∧ YLs lo w0 (fun k => k = bb) q x z zb op S C T TC U PD hist H Hb w
theorem toBelY {w0 w : World} (h : Only (fun k => w0.heap.size ≤ k) w0 w) : Below w0.heap.size w0 w := Only.bel (Below.refl _ _) h (fun _ h => h)
end Go.Proofs.Qxb6500413aGreat
