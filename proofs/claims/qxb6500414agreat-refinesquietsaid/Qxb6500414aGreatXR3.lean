/-
  OWN WORK. THE TXN LAW: the walk's state: both sides, the model ahead of the step, blocks kept apart; its steps.
-/
import Derived.Test.Qxb6500414aGreatXR2
import Derived.Test.Qxb6500414aGreatXN3
import Derived.Test.Qxb6500414aGreatXN4
import Derived.Test.Qxb6500414aGreatXG8
namespace Go.Proofs.Qxb6500414aGreat
open Go.RowKit Go.PlainAid
set_option linter.unusedSimpArgs false
set_option linter.unusedVariables false

/-- The real side shows M, the model N; mb: the model as it stood ahead of the step; E: blocks kept apart from both. -/
structure WB (lo : Nat) (w : World) (q : Gnd) (g x : Nat) (M : Mu) (K : Nat → Prop) (m : Nat) (N : Mu) (U : Db) (hist : Option Db) (H : Nat → Prop) (mb : Nat) (Mb : Mu) (Ub : Db) (Hb : Nat → Prop) (E : Nat → Prop) : Prop where
  rx : RX q w g x M K
  nm : NX w m N U hist H
  nb : NX w mb Mb Ub none Hb
  ul : lastY hist U = N.com
  cu : CutX q.base q.recs (fun X => ComD X Ub) (fun X => ComD X M.com)
  sm : ∀ b, H b → ¬ q.A b ∧ b ≠ x ∧ ¬ K b ∧ lo ≤ b
  sb : ∀ b, Hb b → ¬ q.A b ∧ b ≠ x ∧ ¬ K b ∧ ¬ H b ∧ lo ≤ b
  lr : ∀ b, q.A b ∨ b = x ∨ K b → lo ≤ b
  ex : ∀ b, E b → ¬ q.A b ∧ b ≠ x ∧ ¬ K b ∧ ¬ H b ∧ ¬ Hb b ∧ b < w.heap.size ∧ lo ≤ b
  los : lo ≤ w.heap.size
section
variable {lo : Nat} {w w' w1 w2 w3 : World} {q : Gnd} {g x : Nat} {M M' N : Mu} {K : Nat → Prop} {m : Nat} {U : Db} {hist : Option Db} {H : Nat → Prop} {mb : Nat} {Mb : Mu} {Ub : Db} {Hb E E' : Nat → Prop} {e : Ending} {kd a bb cc : Int} {s t : ByteArray} {an : An} {am : AnM}
theorem WB.rlt (h : WB lo w q g x M K m N U hist H mb Mb Ub Hb E) : ∀ b, q.A b ∨ b = x ∨ K b → b < w.heap.size := fun b hb => by
  rcases hb with c | c | c
  · exact h.rx.Alt.1 b c
  · rw [c]; exact h.rx.Alt.2
  · exact (h.rx.kA b c).2.2
theorem WB.apt (h : WB lo w q g x M K m N U hist H mb Mb Ub Hb E) : Apt q x K H w := ⟨fun b hb => ⟨(h.sm b hb).1, (h.sm b hb).2.1, (h.sm b hb).2.2.1⟩, h.rlt, h.nm.lt⟩
theorem WB.quiet (h : WB lo w q g x M K m N U hist H mb Mb Ub Hb E) (o : Only (fun _ => False) w w') : WB lo w' q g x M K m N U hist H mb Mb Ub Hb E :=
  ⟨h.rx.quiet o, h.nm.quiet o, h.nb.quiet o, h.ul, h.cu, h.sm, h.sb, h.lr, fun b hb => ⟨(h.ex b hb).1, (h.ex b hb).2.1, (h.ex b hb).2.2.1, (h.ex b hb).2.2.2.1, (h.ex b hb).2.2.2.2.1, Nat.lt_of_lt_of_le (h.ex b hb).2.2.2.2.2.1 o.size, (h.ex b hb).2.2.2.2.2.2⟩, Nat.le_trans h.los o.size⟩
theorem WB.sub (h : WB lo w q g x M K m N U hist H mb Mb Ub Hb E) (hE : ∀ b, E' b → E b) : WB lo w q g x M K m N U hist H mb Mb Ub Hb E' := ⟨h.rx, h.nm, h.nb, h.ul, h.cu, h.sm, h.sb, h.lr, fun b hb => h.ex b (hE b hb), h.los⟩
/-- New blocks are apart. -/
theorem WB.fresh (h : WB lo w q g x M K m N U hist H mb Mb Ub Hb E) {b : Nat} (hb : w.heap.size ≤ b) : ¬ q.A b ∧ b ≠ x ∧ ¬ K b ∧ ¬ H b ∧ ¬ Hb b ∧ lo ≤ b :=
  ⟨fun c => by have := h.rlt b (.inl c); omega, fun c => by have := h.rlt b (.inr (.inl c)); omega, fun c => by have := h.rlt b (.inr (.inr c)); omega, fun c => by have := h.nm.lt b c; omega, fun c => by have := h.nb.lt b c; omega, by have := h.los; omega⟩
theorem WB.add (h : WB lo w q g x M K m N U hist H mb Mb Ub Hb E) (o : Only (fun _ => False) w w') (hE : ∀ b, E' b → E b ∨ (w.heap.size ≤ b ∧ b < w'.heap.size)) : WB lo w' q g x M K m N U hist H mb Mb Ub Hb E' := by
  have k := h.quiet o
  refine ⟨k.rx, k.nm, k.nb, k.ul, k.cu, k.sm, k.sb, k.lr, fun b hb => ?_, k.los⟩
  rcases hE b hb with c | c
  · exact k.ex b c
  · have f := h.fresh c.1
    exact ⟨f.1, f.2.1, f.2.2.1, f.2.2.2.1, f.2.2.2.2.1, c.2, f.2.2.2.2.2⟩
/-- The real side was looked at. -/
theorem WB.look (h : WB lo w q g x M K m N U hist H mb Mb Ub Hb E) (r : RX q w' g x M K) (o : Only q.S w w') : WB lo w' q g x M K m N U hist H mb Mb Ub Hb E := by
  have z := o.size
  exact ⟨r, h.nm.keep o (fun b hb c => (h.sm b hb).1 (Gnd.S_A c)), h.nb.keep o (fun b hb c => (h.sb b hb).1 (Gnd.S_A c)), h.ul, h.cu, h.sm, h.sb, h.lr, fun b hb => ⟨(h.ex b hb).1, (h.ex b hb).2.1, (h.ex b hb).2.2.1, (h.ex b hb).2.2.2.1, (h.ex b hb).2.2.2.2.1, by have := (h.ex b hb).2.2.2.2.2.1; omega, (h.ex b hb).2.2.2.2.2.2⟩, by have := h.los; omega⟩
/-- Both were looked at. -/
theorem WB.alike (h : WB lo w q g x M K m N U hist H mb Mb Ub Hb E) (A : AL q g x m M N K H U hist w w') : WB lo w' q g x M K m N U hist H mb Mb Ub Hb E := by
  have z := A.on.size
  refine ⟨A.rx, A.nx, h.nb.keep A.on (fun b hb c => ?_), h.ul, h.cu, h.sm, h.sb, h.lr, fun b hb => ⟨(h.ex b hb).1, (h.ex b hb).2.1, (h.ex b hb).2.2.1, (h.ex b hb).2.2.2.1, (h.ex b hb).2.2.2.2.1, by have := (h.ex b hb).2.2.2.2.2.1; omega, (h.ex b hb).2.2.2.2.2.2⟩, by have := h.los; omega⟩
  rcases c with c | c
  · exact (h.sb b hb).1 (Gnd.S_A c)
  · exact (h.sb b hb).2.2.2.1 (by rw [c]; exact h.nm.hm)
theorem WB.al (h : WB lo w q g x M K m N U hist H mb Mb Ub Hb E) : AL q g x m M N K H U hist w w := ⟨h.rx, h.nm, Only.refl _ _⟩
/-- A block kept apart stays as it is while both are looked at. -/
theorem WB.keepA (h : WB lo w q g x M K m N U hist H mb Mb Ub Hb E) {b : Nat} (hb : E b) : ¬ (q.S b ∨ b = m) := fun c => by
  rcases c with c | c
  · exact (h.ex b hb).1 (Gnd.S_A c)
  · exact (h.ex b hb).2.2.2.1 (by rw [c]; exact h.nm.hm)
/-- The law writes into its own blocks. -/
theorem WB.own {B : Nat → Prop} (h : WB lo w q g x M K m N U hist H mb Mb Ub Hb E) (o : Only B w w') (hB : ∀ b, B b → E b) : WB lo w' q g x M K m N U hist H mb Mb Ub Hb E := by
  have z := o.size
  refine ⟨h.rx.keep o (fun b hb c => ?_), h.nm.keep o (fun b hb c => (h.ex b (hB b c)).2.2.2.1 hb), h.nb.keep o (fun b hb c => (h.ex b (hB b c)).2.2.2.2.1 hb), h.ul, h.cu, h.sm, h.sb, h.lr, fun b hb => ⟨(h.ex b hb).1, (h.ex b hb).2.1, (h.ex b hb).2.2.1, (h.ex b hb).2.2.2.1, (h.ex b hb).2.2.2.2.1, by have := (h.ex b hb).2.2.2.2.2.1; omega, (h.ex b hb).2.2.2.2.2.2⟩, by have := h.los; omega⟩
  have k := h.ex b (hB b c)
  rcases hb with d | d | d
  · exact k.1 d
  · exact k.2.1 d
  · exact k.2.2.1 d
theorem WB.toLo {B : Nat → Prop} (h : WB lo w q g x M K m N U hist H mb Mb Ub Hb E) (o : Only B w w') (hB : ∀ b, B b → q.A b ∨ b = x ∨ K b ∨ H b ∨ E b) : Only (fun b => lo ≤ b) w w' := o.mono (fun b _ c => by
  rcases hB b c with d | d | d | d | d
  · exact h.lr b (.inl d)
  · exact h.lr b (.inr (.inl d))
  · exact h.lr b (.inr (.inr d))
  · exact (h.sm b d).2.2.2
  · exact (h.ex b d).2.2.2.2.2.2)
/-- Mark, the model's Mark and Clone. -/
theorem WB.marked {m' : Nat} {Hb' : Nat → Prop} (h : WB lo w q g x M K m M U hist H mb Mb Ub Hb E) (hd : DiskAt w1 q.d q.blk q.blk [] (Ext q.F w w1)) (o1 : Only q.F w w1) (n2 : NX w2 m M M.com none (Ext H w1 w2)) (o2 : Only (fun b => b = m) w1 w2) (n3 : NX w3 m' M M.com none Hb') (hn3 : ∀ b, Hb' b → w2.heap.size ≤ b) (o3 : Only (fun _ => False) w2 w3) : WB lo w3 (q.mark w w1) g x M K m M M.com none (Ext H w1 w2) m' M M.com Hb' E := by
  have z1 := o1.size
  have z2 := o2.size
  have z3 := o3.size
  have r1 := h.rx.mark hd o1
  have ml := h.nm.lt m h.nm.hm
  have mk := h.sm m h.nm.hm
  have nA : ∀ b, b < w.heap.size → ¬ q.A b → ¬ (q.mark w w1).A b := fun b hb hn c => by
    rcases Gnd.mark_A c with d | d
    · exact hn d
    · omega
  have lt1 : ∀ b, (q.mark w w1).A b ∨ b = x ∨ K b → b < w1.heap.size := fun b hb => by
    rcases hb with c | c | c
    · exact r1.Alt.1 b c
    · rw [c]; exact r1.Alt.2
    · exact (r1.kA b c).2.2
  have r2 := r1.keep o2 (fun b hb e => by
    have e' : b = m := e
    subst e'
    rcases hb with c | c | c
    · exact nA b ml mk.1 c
    · exact mk.2.1 c
    · exact mk.2.2.1 c)
  refine ⟨r2.quiet o3, n2.quiet o3, n3, rfl, h.rx.still, fun b hb => ?_, fun b hb => ?_, fun b hb => ?_, fun b hb => ?_, by have := h.los; omega⟩
  · rcases hb with c | c
    · have k := h.sm b c
      exact ⟨nA b (h.nm.lt b c) k.1, k.2.1, k.2.2.1, k.2.2.2⟩
    · exact ⟨fun d => by have := lt1 b (.inl d); omega, fun d => by have := lt1 b (.inr (.inl d)); omega, fun d => by have := lt1 b (.inr (.inr d)); omega, by have := h.los; omega⟩
  · have k := hn3 b hb
    exact ⟨fun d => by have := lt1 b (.inl d); omega, fun d => by have := lt1 b (.inr (.inl d)); omega, fun d => by have := lt1 b (.inr (.inr d)); omega, fun d => by have := n2.lt b d; omega, by have := h.los; omega⟩
  · rcases hb with c | c
    · rcases Gnd.mark_A c with d | d
      · exact h.lr b (.inl d)
      · have := h.los; omega
    · exact h.lr b (.inr c)
  · have k := h.ex b hb
    refine ⟨nA b k.2.2.2.2.2.1 k.1, k.2.1, k.2.2.1, fun c => ?_, fun c => ?_, by omega, k.2.2.2.2.2.2⟩
    · rcases c with c | c
      · exact k.2.2.2.1 c
      · omega
    · have := hn3 b c; omega
/-- PlayReal, out of a state that was marked. -/
theorem WB.real (h : WB lo w q g x M K m M U none H mb Mb M.com Hb E) (hb : q.base = q.blk) (hr : q.recs = []) (hp : PrP q w g x M K kd a bb cc s t e w') : ∃ M' an am q' K', e = .returned (.agg (anC am an)) ∧ MuOp M a bb cc s t kd M' an ∧ AnAt w' am an ∧ WB lo w' q' g x M' K' m M U none H mb Mb M.com Hb (fun b => E b ∨ AnB am b) ∧ q'.d = q.d ∧ (q'.recs.length = 0 ∨ (cmK kd ∧ an.e = 0 ∧ q'.recs.length ≤ 146)) ∧ Only (fun k => q.A k ∨ K k) w w' ∧ (∀ b, AnB am b → w.heap.size ≤ b) := by
  obtain ⟨M', an, am, he, hop, hA, hAb, hh⟩ := hp
  have hAl := h.rlt
  rcases hh with ⟨K', rx, hK, hs, hcom, ho⟩ | ⟨hck, he0, rfl, rs, com, wa, wb, K', rx, hwa, ci, hK, ho⟩
  · have kln : ∀ k, k < w.heap.size → ¬ K k → ¬ K' k := fun k hl h1 c => by
      rcases hK k c with d | d
      · exact h1 d
      · omega
    have z := ho.size
    have hoA : ∀ b, (q.S b ∨ K b) → q.A b ∨ K b := fun b c => c.imp Gnd.S_A id
    refine ⟨M', an, am, q, K', he, hop, hA, ⟨rx, h.nm.keep ho (fun b hb c => ?_), h.nb.keep ho (fun b hb c => ?_), h.ul, ?_, fun b hb => ?_, fun b hb => ?_, fun b hb => ?_, fun b hb => ?_, by have := h.los; omega⟩, rfl, .inl (by rw [hr]; rfl), ho.mono (fun b _ c => hoA b c), hAb⟩
    · exact (hoA b c).elim (h.sm b hb).1 (h.sm b hb).2.2.1
    · exact (hoA b c).elim (h.sb b hb).1 (h.sb b hb).2.2.1
    · have := h.cu; rw [hcom]; exact this
    · exact ⟨(h.sm b hb).1, (h.sm b hb).2.1, kln b (h.nm.lt b hb) (h.sm b hb).2.2.1, (h.sm b hb).2.2.2⟩
    · exact ⟨(h.sb b hb).1, (h.sb b hb).2.1, kln b (h.nb.lt b hb) (h.sb b hb).2.2.1, (h.sb b hb).2.2.2⟩
    · rcases hb with c | c | c
      · exact h.lr b (.inl c)
      · exact h.lr b (.inr (.inl c))
      · rcases hK b c with d | d
        · exact h.lr b (.inr (.inr d))
        · have := h.los; omega
    · rcases hb with c | c
      · have k := h.ex b c
        exact ⟨k.1, k.2.1, kln b k.2.2.2.2.2.1 k.2.2.1, k.2.2.2.1, k.2.2.2.2.1, by omega, k.2.2.2.2.2.2⟩
      · have f := h.fresh (hAb b c)
        exact ⟨(hs b c).2, f.2.1, (hs b c).1, f.2.2.2.1, f.2.2.2.2.1, hA.lt b c, f.2.2.2.2.2⟩
  · have kln : ∀ k, k < w.heap.size → ¬ K k → ¬ K' k := fun k hl h1 c => by
      rcases hK k c with d | d
      · exact h1 d
      · omega
    have qln : ∀ k, (q.done rs com wa wb).A k → q.A k ∨ w.heap.size ≤ k := fun k c => by
      rcases Gnd.done_A c with d | d
      · exact .inl d
      · exact .inr (by omega)
    have qn : ∀ k, k < w.heap.size → ¬ q.A k → ¬ (q.done rs com wa wb).A k := fun k hl h1 c => by
      rcases qln k c with d | d
      · exact h1 d
      · omega
    have z := ho.size
    have e1 : (q.done rs com wa wb).base = q.blk := hb
    have e2 : (q.done rs com wa wb).recs = rs := by show q.recs ++ rs = rs; rw [hr]; rfl
    refine ⟨M', an, AnM.z, q.done rs com wa wb, K', he, hop, hA, ⟨rx, h.nm.keep ho (fun b hb c => ?_), h.nb.keep ho (fun b hb c => ?_), h.ul, ?_, fun b hb => ?_, fun b hb => ?_, fun b hb => ?_, fun b hb => ?_, by have := h.los; omega⟩, rfl, .inr ⟨hck, he0, by rw [e2]; exact ci.short⟩, ho, hAb⟩
    · exact c.elim (h.sm b hb).1 (h.sm b hb).2.2.1
    · exact c.elim (h.sb b hb).1 (h.sb b hb).2.2.1
    · rw [e1, e2]
      exact ci.toX h.rx.comd.2 rx.comd.2 h.rx.comd.1 rx.comd.1
    · exact ⟨qn b (h.nm.lt b hb) (h.sm b hb).1, (h.sm b hb).2.1, kln b (h.nm.lt b hb) (h.sm b hb).2.2.1, (h.sm b hb).2.2.2⟩
    · exact ⟨qn b (h.nb.lt b hb) (h.sb b hb).1, (h.sb b hb).2.1, kln b (h.nb.lt b hb) (h.sb b hb).2.2.1, (h.sb b hb).2.2.2⟩
    · rcases hb with c | c | c
      · rcases qln b c with d | d
        · exact h.lr b (.inl d)
        · have := h.los; omega
      · exact h.lr b (.inr (.inl c))
      · rcases hK b c with d | d
        · exact h.lr b (.inr (.inr d))
        · have := h.los; omega
    · rcases hb with c | c
      · have k := h.ex b c
        exact ⟨qn b k.2.2.2.2.2.1 k.1, k.2.1, kln b k.2.2.2.2.2.1 k.2.2.1, k.2.2.2.1, k.2.2.2.2.1, by omega, k.2.2.2.2.2.2⟩
      · exact absurd c AnB.z
/-- PlayModel. -/
theorem WB.model (h : WB lo w q g x M' K m M U none H mb Mb Ub Hb E) (hop : MuOp M a bb cc s t kd M' an) (hp : PmP w m M U H kd a bb cc s t e w') : ∃ am2 hist' H', e = .returned (.agg (anC am2 an)) ∧ AnAt w' am2 an ∧ (∀ b, AnB am2 b → w.heap.size ≤ b) ∧ WB lo w' q g x M' K m M' U hist' H' mb Mb Ub Hb E ∧ Only H w w' := by
  obtain ⟨an2, am2, rfl, hA, M2, hist', H', hop2, hN, hH, hb, ho, hh⟩ := hp
  obtain ⟨rfl, rfl⟩ := hop.det hop2 rfl
  have z := ho.size
  have lt := h.rlt
  refine ⟨am2, hist', H', rfl, hA, fun b c => (hb b c).1, ⟨h.rx.keep ho (fun b hb' c => ?_), hN, h.nb.keep ho (fun b hb' c => (h.sb b hb').2.2.2.1 c), ?_, h.cu, fun b hb' => ?_, fun b hb' => ?_, h.lr, fun b hb' => ?_, by have := h.los; omega⟩, ho⟩
  · have k := h.sm b c
    rcases hb' with d | d | d
    · exact k.1 d
    · exact k.2.1 d
    · exact k.2.2.1 d
  · rcases hh with ⟨rfl, hc⟩ | rfl
    · have := h.ul
      rw [hc]
      exact this
    · rfl
  · rcases hH b hb' with c | c
    · exact h.sm b c
    · have f := h.fresh c
      exact ⟨f.1, f.2.1, f.2.2.1, f.2.2.2.2.2⟩
  · have k := h.sb b hb'
    refine ⟨k.1, k.2.1, k.2.2.1, fun c => ?_, k.2.2.2.2⟩
    rcases hH b c with d | d
    · exact k.2.2.2.1 d
    · have := h.nb.lt b hb'; omega
  · have k := h.ex b hb'
    refine ⟨k.1, k.2.1, k.2.2.1, fun c => ?_, k.2.2.2.2.1, by omega, k.2.2.2.2.2.2⟩
    rcases hH b c with d | d
    · exact k.2.2.2.1 d
    · omega
/-- Follow. -/
theorem WB.follow {kG : Nat} {gm : GhM} (h : WB lo w q g x M K m N U hist H mb Mb Ub Hb E) (hE : ∀ b, gm.A kG b ∨ AnB am b → E b) (hf : FoP q w g x M K kG gm am e w') : e = .returned (.bool true) ∧ ∃ m2, GhAt w' kG m2 M.com ∧ SerI M m2 M.com ∧ WB lo w' q g x M K m N U hist H mb Mb Ub Hb (fun b => E b ∨ m2.A kG b) ∧ Only (fun k => q.S k ∨ gm.T kG k) w w' ∧ (∀ k, m2.A kG k → gm.A kG k ∨ AnB am k ∨ w.heap.size ≤ k) := by
  obtain ⟨he, m2, sh2, gh, se, rx, hA, hT, ho⟩ := hf
  obtain rfl := se.1
  have z := ho.size
  have nS : ∀ b, (q.S b ∨ gm.T kG b) → q.A b ∨ E b := fun b c => c.imp Gnd.S_A (fun d => hE b (.inl (.inl d)))
  refine ⟨he, m2, gh, se, ⟨rx, h.nm.keep ho (fun b hb c => ?_), h.nb.keep ho (fun b hb c => ?_), h.ul, h.cu, h.sm, h.sb, h.lr, fun b hb => ?_, by have := h.los; omega⟩, ho, hA⟩
  · rcases nS b c with d | d
    · exact (h.sm b hb).1 d
    · exact (h.ex b d).2.2.2.1 hb
  · rcases nS b c with d | d
    · exact (h.sb b hb).1 d
    · exact (h.ex b d).2.2.2.2.1 hb
  · have up : E b → ¬ q.A b ∧ b ≠ x ∧ ¬ K b ∧ ¬ H b ∧ ¬ Hb b ∧ b < w'.heap.size ∧ lo ≤ b := fun c => by
      have k := h.ex b c
      exact ⟨k.1, k.2.1, k.2.2.1, k.2.2.2.1, k.2.2.2.2.1, by omega, k.2.2.2.2.2.2⟩
    rcases hb with c | c
    · exact up c
    · rcases hA b c with d | d | d
      · exact up (hE b (.inl d))
      · exact up (hE b (.inr d))
      · have f := h.fresh d
        exact ⟨f.1, f.2.1, f.2.2.1, f.2.2.2.1, f.2.2.2.2.1, gh.lt b c, f.2.2.2.2.2⟩
/-- Where the cut falls. -/
theorem WB.pick (h : WB lo w q g x M K m N U hist H mb Mb Ub Hb E) (a : Int) : ∃ X D, X.length = 80 ∧ Shows (recov (replay q.base (q.recs.take a.toNat))) X ∧ ComD X D ∧ (D = Ub ∨ D = M.com) ∧ (a ≤ 0 → D = Ub) ∧ ((q.recs.length : Int) ≤ a → D = M.com) := by
  obtain ⟨X, lX, hX, hor, hf, hw⟩ := h.cu.pick a.toNat
  rcases hor with c | c
  · exact ⟨X, _, lX, hX, c, .inl rfl, fun _ => rfl, fun ha => c.uniq (hw (by omega))⟩
  · exact ⟨X, _, lX, hX, c, .inr rfl, fun ha => c.uniq (hf (by omega)), fun _ => rfl⟩
end
end Go.Proofs.Qxb6500414aGreat
