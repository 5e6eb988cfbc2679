/-
  OWN WORK. TXN, Keeps: Step whole; the walk's state.
-/
import Derived.Test.Qxb6500414aGreatXKT1
import Derived.Test.Qxb6500414aGreatXKT2
import Derived.Test.Qxb6500414aGreatXKT3
import Derived.Test.Qxb6500414aGreatXKT4
import Derived.Test.Qxb6500414aGreatXKT5
import Derived.Test.Qxb6500414aGreatXKT6
import Derived.Test.Qxb6500414aGreatXKT7
import Derived.Test.Qxb6500414aGreatXKT8
import Derived.Test.Qxb6500414aGreatXKT9
import Derived.Test.Qxb6500414aGreatXKT10
import Derived.Test.Qxb6500414aGreatXKT11
import Derived.Test.Qxb6500414aGreatXKT12
import Derived.Test.Qxb6500414aGreatXKO1
import Derived.Test.Qxb6500414aGreatXKL
namespace Go.Proofs.Qxb6500414aGreat
open Go.RowKit Go.PlainAid
set_option linter.unusedSimpArgs false
set_option linter.unusedVariables false

section
variable {lo : Nat} {w w' : World} {k k2 : Nat} {M N : Mu} {am : AnM} {an : An}
theorem xlstep_any (H : Sht lo w k M) (H2 : Sht lo w k2 N) {lo3 : Nat} (H3 : Sht lo3 w k2 N) (A : AnAt w am an) (kd a ob oc : Int) (os ot : ByteArray) (ht : ot.size ≤ maxLen) (hne : k ≠ k2) (ok : MuOk M) (okN : MuOk N) (kM : MuK M) (kN : MuK N) (gM : MuG M) (gN : MuG N) (hop : MuOp M a ob oc os ot kd N an) : Calls Tryz.prog 22 #[.pointer (some ⟨k, 0, none⟩), .pointer (some ⟨k2, 0, none⟩), opX kd a ob oc os ot, .agg (anC am an)] w (StpP lo3 w k2 N) := by
  by_cases h1 : kd = 1
  · subst h1; exact xlstep_1 H H2 H3 ok.mub okN.mub A ob oc os ot ht ok okN kM kN gM gN hne hop
  by_cases h2 : kd = 2
  · subst h2; exact xlstep_2 H H2 H3 ok.mub okN.mub A ob oc os ot ht ok okN kM kN gM gN hne hop
  by_cases h3 : kd = 3
  · subst h3; exact xlstep_3 H H2 H3 ok.mub okN.mub A ob oc os ot ht ok okN kM kN gM gN hne hop
  by_cases h4 : kd = 4
  · subst h4; exact xlstep_4 H H2 H3 ok.mub okN.mub A ob oc os ot ht ok okN kM kN gM gN hop
  by_cases h5 : kd = 5
  · subst h5; exact xlstep_5 H H2 H3 ok.mub okN.mub A ob oc os ot ht ok okN kM kN gM gN hop
  by_cases h6 : kd = 6
  · subst h6; exact xlstep_6 H H2 H3 ok.mub okN.mub A ob oc os ot ht ok okN kM kN gM gN hop
  by_cases h7 : kd = 7
  · subst h7; exact xlstep_7 H H2 H3 ok.mub okN.mub A ob oc os ot ht ok okN kM kN gM gN hop
  by_cases h8 : kd = 8
  · subst h8; exact xlstep_8 H H2 H3 ok.mub okN.mub A ob oc os ot ht ok okN kM kN gM gN hop
  by_cases h9 : kd = 9
  · subst h9; exact xlstep_9 H H2 H3 ok.mub okN.mub A ob oc os ot ht ok okN kM kN gM gN hop
  by_cases h10 : kd = 10
  · subst h10; exact xlstep_10 H H2 H3 ok.mub okN.mub A ob oc os ot ht ok okN kM kN gM gN hop
  by_cases h11 : kd = 11
  · subst h11; exact xlstep_11 H H2 H3 ok.mub okN.mub A ob oc os ot ht ok okN kM kN gM gN hop
  have hk : kd < 1 ∨ 12 ≤ kd := by omega
  exact xlstep_o H H2 H3 ok.mub okN.mub A kd ob oc os ot ht hk (hop.stO hk)
end
/-- What lies below the shots. -/
structure KB (lo : Nat) (w : World) (kb : Nat) (q : Gnd) (g x : Nat) (M : Mu) (K : Nat → Prop) (DW : Db) : Prop where
  rx : RX q w g x M K
  bx : Has w kb (jbC q.d x) 30
  kq : ¬ q.A kb ∧ kb ≠ x ∧ ¬ K kb
  cu : CutX q.base q.recs (fun X => ComD X DW) (fun X => ComD X M.com)
  lo : ∀ k, q.A k ∨ k = x ∨ K k ∨ k = kb → lo ≤ k
/-- Behind PlayReal. -/
structure KR (lo : Nat) (w : World) (kb : Nat) (q : Gnd) (g x : Nat) (M M' : Mu) (K : Nat → Prop) (am : AnM) (an : An) : Prop where
  kb : KB lo w kb q g x M' K M.com
  sa : ∀ k, AnB am k → ¬ q.A k ∧ k ≠ x ∧ ¬ K k
  at_ : AnAt w am an
section
variable {lo : Nat} {q : Gnd} {w w' : World} {kb g x : Nat} {M M' : Mu} {K : Nat → Prop} {DW : Db} {am : AnM} {an : An} {kd a bb cc : Int} {s t : ByteArray} {e : Ending}
theorem KB.keep {B : Nat → Prop} (h : KB lo w kb q g x M K DW) (ho : Only B w w') (hB : ∀ k, q.A k ∨ k = x ∨ K k ∨ k = kb → ¬ B k) : KB lo w' kb q g x M K DW :=
  ⟨h.rx.keep ho (fun k hk => hB k (by rcases hk with c | c | c; exact .inl c; exact .inr (.inl c); exact .inr (.inr (.inl c)))), h.bx.keep ho (hB kb (.inr (.inr (.inr rfl)))), h.kq, h.cu, h.lo⟩
theorem KB.quiet (h : KB lo w kb q g x M K DW) (ho : Only (fun _ => False) w w') : KB lo w' kb q g x M K DW := h.keep ho (fun _ _ e => e)
theorem KB.obs (h : KB lo w kb q g x M K DW) (R : RX q w' g x M K) (ho : Only q.S w w') : KB lo w' kb q g x M K DW :=
  ⟨R, h.bx.keep ho (fun c => h.kq.1 (Gnd.S_A c)), h.kq, h.cu, h.lo⟩
theorem KB.ltA (h : KB lo w kb q g x M K DW) : ∀ k, q.A k ∨ k = x ∨ K k ∨ k = kb → k < w.heap.size := by
  intro k hk
  rcases hk with c | c | c | c
  · exact h.rx.Alt.1 k c
  · rw [c]; exact h.rx.Alt.2
  · exact (h.rx.kA k c).2.2
  · rw [c]; exact h.bx.lt
theorem KB.mark (h : KB lo w kb q g x M K DW) (hd : DiskAt w' q.d q.blk q.blk [] (Ext q.F w w')) (ho : Only q.F w w') : KB lo w' kb (q.mark w w') g x M K M.com := by
  have sz := ho.size
  have nA : ∀ k, k < w.heap.size → ¬ q.A k → ¬ (q.mark w w').A k := fun k hk h c => by
    rcases Gnd.mark_A c with d | d
    · exact h d
    · omega
  refine ⟨h.rx.mark hd ho, h.bx.keep ho (fun c => h.kq.1 (.inl c)), ⟨nA kb h.bx.lt h.kq.1, h.kq.2⟩, h.rx.still, fun k hk => ?_⟩
  rcases hk with c | c
  · rcases Gnd.mark_A c with d | d
    · exact h.lo k (.inl d)
    · have h1 := h.lo kb (.inr (.inr (.inr rfl)))
      have h2 := h.bx.lt
      omega
  · exact h.lo k (.inr c)
/-- PlayReal, out of a state that was marked. -/
theorem KB.real (h : KB lo w kb q g x M K M.com) (hb : q.base = q.blk) (hr : q.recs = []) (hp : PrP q w g x M K kd a bb cc s t e w') : ∃ M' an am q' K', e = .returned (.agg (anC am an)) ∧ MuOp M a bb cc s t kd M' an ∧ KR lo w' kb q' g x M M' K' am an ∧ (∀ k, K' k → K k ∨ w.heap.size ≤ k) ∧ (∀ k, q'.A k → q.A k ∨ w.heap.size ≤ k) ∧ Only (fun k => q.A k ∨ K k) w w' := by
  obtain ⟨M', an, am, he, hop, hA, hAb, hh⟩ := hp
  have kbl := h.bx.lt
  have hAl := h.rx.Alt
  have los : lo ≤ w.heap.size := by have := h.lo kb (.inr (.inr (.inr rfl))); omega
  rcases hh with ⟨K', rx, hK, hs, hcom, ho⟩ | ⟨hck, he0, rfl, rs, com, wa, wb, K', rx, hwa, ci, hK, ho⟩
  · have kln : ∀ k, k < w.heap.size → ¬ K k → ¬ K' k := fun k hl h1 c => by
      rcases hK k c with d | d
      · exact h1 d
      · omega
    refine ⟨M', an, am, q, K', he, hop, ⟨⟨rx, h.bx.keep ho (fun c => ?_), ⟨h.kq.1, h.kq.2.1, kln kb kbl h.kq.2.2⟩, ?_, fun k hk => ?_⟩, fun k hk => ⟨(hs k hk).2, fun c => ?_, (hs k hk).1⟩, hA⟩, hK, fun k hk => .inl hk, ho.mono (fun _ _ c => c.imp Gnd.S_A id)⟩
    · rcases c with c | c
      · exact h.kq.1 (Gnd.S_A c)
      · exact h.kq.2.2 c
    · have := h.cu; rw [hcom]; exact this
    · rcases hk with c | c | c | c
      · exact h.lo k (.inl c)
      · exact h.lo k (.inr (.inl c))
      · rcases hK k c with d | d
        · exact h.lo k (.inr (.inr (.inl d)))
        · omega
      · exact h.lo k (.inr (.inr (.inr c)))
    · have := hAb k hk; have := hAl.2; omega
  · have kln : ∀ k, k < w.heap.size → ¬ K k → ¬ K' k := fun k hl h1 c => by
      rcases hK k c with d | d
      · exact h1 d
      · omega
    have qln : ∀ k, (q.done rs com wa wb).A k → q.A k ∨ w.heap.size ≤ k := fun k c => by
      rcases Gnd.done_A c with d | d
      · exact .inl d
      · exact .inr (by omega)
    have qn : ∀ k, k < w.heap.size → ¬ q.A k → ¬ (q.done rs com wa wb).A k := fun k hl h1 c => by
      rcases qln k c with d | d
      · exact h1 d
      · omega
    refine ⟨M', an, AnM.z, q.done rs com wa wb, K', he, hop, ⟨⟨rx, h.bx.keep ho (fun c => ?_), ⟨qn kb kbl h.kq.1, h.kq.2.1, kln kb kbl h.kq.2.2⟩, ?_, fun k hk => ?_⟩, fun k hk => absurd hk AnB.z, hA⟩, hK, qln, ho⟩
    · rcases c with c | c
      · exact h.kq.1 c
      · exact h.kq.2.2 c
    · have e1 : (q.done rs com wa wb).base = q.blk := hb
      have e2 : (q.done rs com wa wb).recs = rs := by show q.recs ++ rs = rs; rw [hr]; rfl
      rw [e1, e2]
      exact ci.toX h.rx.comd.2 rx.comd.2 h.rx.comd.1 rx.comd.1
    · rcases hk with c | c | c | c
      · rcases qln k c with d | d
        · exact h.lo k (.inl d)
        · omega
      · exact h.lo k (.inr (.inl c))
      · rcases hK k c with d | d
        · exact h.lo k (.inr (.inr (.inl d)))
        · omega
      · exact h.lo k (.inr (.inr (.inr c)))
theorem KR.quiet (h : KR lo w kb q g x M M' K am an) (ho : Only (fun _ => False) w w') : KR lo w' kb q g x M M' K am an := ⟨h.kb.quiet ho, h.sa, h.at_.quiet ho⟩
theorem KR.obs (h : KR lo w kb q g x M M' K am an) (R : RX q w' g x M' K) (ho : Only q.S w w') : KR lo w' kb q g x M M' K am an :=
  ⟨h.kb.obs R ho, h.sa, h.at_.keep ho (fun k hk c => (h.sa k hk).1 (Gnd.S_A c))⟩
/-- Where the cut falls. -/
theorem KB.pick (h : KB lo w kb q g x M K DW) (a : Int) : ∃ X D, X.length = 80 ∧ Shows (recov (replay q.base (q.recs.take a.toNat))) X ∧ ComD X D ∧ (DW = D ∨ M.com = D) ∧ (a ≤ 0 → DW = D) ∧ ((q.recs.length : Int) ≤ a → M.com = D) := by
  obtain ⟨X, lX, hX, hor, h0, h1⟩ := h.cu.pick a.toNat
  rcases hor with c | c
  · exact ⟨X, DW, lX, hX, c, .inl rfl, fun _ => rfl, fun hl => (h1 (by omega)).uniq c⟩
  · exact ⟨X, M.com, lX, hX, c, .inr rfl, fun hl => (h0 (by omega)).uniq c, fun _ => rfl⟩
end
/-- The walk's state, seen from its variables. -/
def KWL (w0 : World) (kb : Nat) (xv nv p1 p0 : Value) (w : World) : Prop := ∃ q g x M K M0 k0 k1 l0 l1, xv = .pointer (some ⟨g, 0, none⟩) ∧ nv = .int .i64 (q.recs.length : Int) ∧ p1 = .pointer (some ⟨k1, 0, none⟩) ∧ p0 = .pointer (some ⟨k0, 0, none⟩) ∧ KB w0.heap.size w kb q g x M K M0.com ∧ Sht l0 w k0 M0 ∧ MuOk M0 ∧ kb < l0 ∧ Sht l1 w k1 M ∧ kb < l1 ∧ (∀ b, l1 ≤ b → ¬ q.A b ∧ b ≠ x ∧ ¬ K b) ∧ Only (fun k => w0.heap.size ≤ k) w0 w
theorem Sht.mono {lo lo' : Nat} {w : World} {k : Nat} {M : Mu} (h : Sht lo w k M) (hl : lo' ≤ lo) : Sht lo' w k M := by
  obtain ⟨S, h1, h2⟩ := h
  exact ⟨S, h1.mono hl, h2⟩
/-- A shot survives what turns only older blocks. -/
theorem Sht.keepB {B : Nat → Prop} {lo : Nat} {w w' : World} {k : Nat} {M : Mu} (h : Sht lo w k M) (ho : Only B w w') (hB : ∀ b, lo ≤ b → b < w.heap.size → ¬ B b) : Sht lo w' k M :=
  h.keep (ho.mono (T := fun b => B b ∧ b < w.heap.size) (fun b hb c => ⟨c, hb⟩)) (fun b hb c => hB b hb c.2 c.1)
end Go.Proofs.Qxb6500414aGreat
