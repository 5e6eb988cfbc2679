/-
  OWN WORK. QUERY's LAW: the walk's state: both sides, the model ahead of the step, the answers kept; its steps.
-/
import Derived.Test.Qxb6500412aGreatQL9
import Derived.Test.Qxb6500412aGreatXBQ
namespace Go.Proofs.Qxb6500412aGreat
open Go.RowKit Go.PlainAid
set_option linter.unusedSimpArgs false
set_option linter.unusedVariables false

/-- The real side's blocks. -/
def RSb (p : Gnd) (x k : Nat) (K : Nat → Prop) (b : Nat) : Prop := p.A b ∨ b = x ∨ K b ∨ b = k
theorem apa_iff {p : Gnd} {x k : Nat} {K : Nat → Prop} {b : Nat} : Apa p x k K b ↔ ¬ RSb p x k K b := by
  unfold Apa RSb
  constructor
  · rintro ⟨h1, h2, h3, h4⟩ (h | h | h | h)
    · exact h1 h
    · exact h2 h
    · exact h3 h
    · exact h4 h
  · intro h
    exact ⟨fun c => h (.inl c), fun c => h (.inr (.inl c)), fun c => h (.inr (.inr (.inl c))), fun c => h (.inr (.inr (.inr c)))⟩
/-- The real side shows M, the model N; mb: the model as it stood ahead of the step; E: blocks kept apart from both. -/
structure WQ (lo : Nat) (w : World) (p : Gnd) (k g x : Nat) (M : Mu) (K : Nat → Prop) (last : Int) (k2 q2 : Nat) (N : Mu) (H : Nat → Prop) (kb qb : Nat) (Mb : Mu) (Hb : Nat → Prop) (E : Nat → Prop) : Prop where
  qr : QR p w k g x M K last
  me : ME w k2 q2 N H
  mb : ME w kb qb Mb Hb
  cu : CutX p.base p.recs (fun X => ComD X Mb.com) (fun X => ComD X M.com)
  l0 : 0 ≤ last ∧ last ≤ 4
  sm : ∀ b, H b ∨ b = k2 → ¬ RSb p x k K b ∧ lo ≤ b
  sb : ∀ b, Hb b ∨ b = kb → ¬ RSb p x k K b ∧ ¬ (H b ∨ b = k2) ∧ lo ≤ b
  lr : ∀ b, RSb p x k K b → lo ≤ b
  ex : ∀ b, E b → ¬ RSb p x k K b ∧ ¬ (H b ∨ b = k2) ∧ ¬ (Hb b ∨ b = kb) ∧ b < w.heap.size ∧ lo ≤ b
  los : lo ≤ w.heap.size
/-- The answers of the Exec before. -/
def KpQ (w : World) (kk : Nat) (R : Rs) (B : Nat → Prop) : Prop := ∃ na nn nc ra rn rc na2 nn2 nc2 ra2 rn2 rc2, Has w kk #[.int .i64 R.e, .int .i64 R.n, .slice na nn nc, .slice ra rn rc, .int .i64 R.e, .int .i64 R.n, .slice na2 nn2 nc2, .slice ra2 rn2 rc2] 54 ∧ RsN B w (.slice na nn nc) (.slice ra rn rc) R ∧ RsN B w (.slice na2 nn2 nc2) (.slice ra2 rn2 rc2) R ∧ RsB R ∧ ¬ B kk
section
variable {lo : Nat} {w w' w1 w2 w3 : World} {p : Gnd} {k g x : Nat} {M M' N : Mu} {K : Nat → Prop} {last : Int} {k2 q2 : Nat} {H : Nat → Prop} {kb qb : Nat} {Mb : Mu} {Hb E E' B : Nat → Prop} {kk : Nat} {R : Rs} {e : Ending} {pl : Int} {L : Prop} {RR : Mu × Rs}
theorem KpQ.keep {X : Nat → Prop} (h : KpQ w kk R B) (o : Only X w w') (hX : ∀ b, B b ∨ b = kk → ¬ X b) : KpQ w' kk R B := by
  obtain ⟨na, nn, nc, ra, rn, rc, na2, nn2, nc2, ra2, rn2, rc2, h1, h2, h3, h4, h5⟩ := h
  exact ⟨na, nn, nc, ra, rn, rc, na2, nn2, nc2, ra2, rn2, rc2, h1.keep o (hX kk (.inr rfl)), h2.keep o (fun b hb => hX b (.inl hb)), h3.keep o (fun b hb => hX b (.inl hb)), h4, h5⟩
theorem KpQ.quiet (h : KpQ w kk R B) (o : Only (fun _ => False) w w') : KpQ w' kk R B := h.keep o (fun _ _ e => e)
theorem WQ.rlt (h : WQ lo w p k g x M K last k2 q2 N H kb qb Mb Hb E) : ∀ b, RSb p x k K b → b < w.heap.size := fun b hb => by
  obtain ⟨h1, h2, h3, h4⟩ := h.qr.lts
  rcases hb with c | c | c | c
  · exact h1 b c
  · rw [c]; exact h2
  · exact h3 b c
  · rw [c]; exact h4
theorem ME.lt (h : ME w k2 q2 N H) : ∀ b, H b ∨ b = k2 → b < w.heap.size := fun b hb => by
  rcases hb with c | c
  · exact h.mx.lt b c
  · rw [c]; exact h.kl
theorem WQ.aq (h : WQ lo w p k g x M K last k2 q2 N H kb qb Mb Hb E) : AQ p k g x k2 q2 M N K H last w w := ⟨h.qr, h.me, Only.refl _ _⟩
theorem WQ.apq (h : WQ lo w p k g x M K last k2 q2 N H kb qb Mb Hb E) : ApQ p x k k2 K H w := ⟨fun b hb => apa_iff.mpr (h.sm b hb).1, h.rlt, h.me.lt⟩
theorem QR.keepR {X : Nat → Prop} (h : QR p w k g x M K last) (o : Only X w w') (hX : ∀ b, X b → ¬ RSb p x k K b) : QR p w' k g x M K last := h.keep o (fun b hb c => hX b c hb)
theorem WQ.turn {X : Nat → Prop} (h : WQ lo w p k g x M K last k2 q2 N H kb qb Mb Hb E) (o : Only X w w') (h1 : ∀ b, X b → ¬ RSb p x k K b) (h2 : ∀ b, X b → ¬ (H b ∨ b = k2)) (h3 : ∀ b, X b → ¬ (Hb b ∨ b = kb)) : WQ lo w' p k g x M K last k2 q2 N H kb qb Mb Hb E := by
  have z := o.size
  exact ⟨h.qr.keepR o h1, h.me.keep o (fun b hb c => h2 b c hb), h.mb.keep o (fun b hb c => h3 b c hb), h.cu, h.l0, h.sm, h.sb, h.lr, fun b hb => ⟨(h.ex b hb).1, (h.ex b hb).2.1, (h.ex b hb).2.2.1, by have := (h.ex b hb).2.2.2.1; omega, (h.ex b hb).2.2.2.2⟩, by have := h.los; omega⟩
theorem WQ.quiet (h : WQ lo w p k g x M K last k2 q2 N H kb qb Mb Hb E) (o : Only (fun _ => False) w w') : WQ lo w' p k g x M K last k2 q2 N H kb qb Mb Hb E := h.turn o (fun _ e => e.elim) (fun _ e => e.elim) (fun _ e => e.elim)
theorem WQ.own {X : Nat → Prop} (h : WQ lo w p k g x M K last k2 q2 N H kb qb Mb Hb E) (o : Only X w w') (hX : ∀ b, X b → E b) : WQ lo w' p k g x M K last k2 q2 N H kb qb Mb Hb E := h.turn o (fun b c => (h.ex b (hX b c)).1) (fun b c => (h.ex b (hX b c)).2.1) (fun b c => (h.ex b (hX b c)).2.2.1)
theorem WQ.sub (h : WQ lo w p k g x M K last k2 q2 N H kb qb Mb Hb E) (hE : ∀ b, E' b → E b) : WQ lo w p k g x M K last k2 q2 N H kb qb Mb Hb E' := ⟨h.qr, h.me, h.mb, h.cu, h.l0, h.sm, h.sb, h.lr, fun b hb => h.ex b (hE b hb), h.los⟩
/-- New blocks are apart. -/
theorem WQ.fresh (h : WQ lo w p k g x M K last k2 q2 N H kb qb Mb Hb E) {b : Nat} (hb : w.heap.size ≤ b) : ¬ RSb p x k K b ∧ ¬ (H b ∨ b = k2) ∧ ¬ (Hb b ∨ b = kb) ∧ lo ≤ b :=
  ⟨fun c => by have := h.rlt b c; omega, fun c => by have := h.me.lt b c; omega, fun c => by have := h.mb.lt b c; omega, by have := h.los; omega⟩
theorem WQ.add (h : WQ lo w p k g x M K last k2 q2 N H kb qb Mb Hb E) (o : Only (fun _ => False) w w') (hE : ∀ b, E' b → E b ∨ (w.heap.size ≤ b ∧ b < w'.heap.size)) : WQ lo w' p k g x M K last k2 q2 N H kb qb Mb Hb E' := by
  have j := h.quiet o
  refine ⟨j.qr, j.me, j.mb, j.cu, j.l0, j.sm, j.sb, j.lr, fun b hb => ?_, j.los⟩
  rcases hE b hb with c | c
  · exact j.ex b c
  · have f := h.fresh c.1
    exact ⟨f.1, f.2.1, f.2.2.1, c.2, f.2.2.2⟩
/-- Both were looked at. -/
theorem WQ.alike (h : WQ lo w p k g x M K last k2 q2 N H kb qb Mb Hb E) (A : AQ p k g x k2 q2 M N K H last w w') : WQ lo w' p k g x M K last k2 q2 N H kb qb Mb Hb E := by
  have z := A.on.size
  have nS : ∀ b, p.S b → RSb p x k K b := fun b c => .inl (Gnd.S_A c)
  exact ⟨A.qr, A.me, h.mb.keep A.on (fun b hb c => (h.sb b hb).1 (nS b c)), h.cu, h.l0, h.sm, h.sb, h.lr, fun b hb => ⟨(h.ex b hb).1, (h.ex b hb).2.1, (h.ex b hb).2.2.1, by have := (h.ex b hb).2.2.2.1; omega, (h.ex b hb).2.2.2.2⟩, by have := h.los; omega⟩
/-- What the observers turn is none of the law's own blocks. -/
theorem WQ.nS (h : WQ lo w p k g x M K last k2 q2 N H kb qb Mb Hb E) {b : Nat} (hb : E b) : ¬ p.S b := fun c => (h.ex b hb).1 (.inl (Gnd.S_A c))
/-- All that a step may turn lies above lo. -/
theorem WQ.toLo {X : Nat → Prop} (h : WQ lo w p k g x M K last k2 q2 N H kb qb Mb Hb E) (o : Only X w w') (hX : ∀ b, X b → RSb p x k K b ∨ (H b ∨ b = k2) ∨ E b) : Only (fun b => lo ≤ b) w w' := o.mono (fun b _ c => by
  rcases hX b c with d | d | d
  · exact h.lr b d
  · exact (h.sm b d).2
  · exact (h.ex b d).2.2.2.2)
/-- Mark; the model cloned. -/
theorem WQ.marked {k3 q3 : Nat} {H3 : Nat → Prop} (h : WQ lo w p k g x M K last k2 q2 M H kb qb Mb Hb E) (hd : DiskAt w1 p.d p.blk p.blk [] (Ext p.F w w1)) (o1 : Only p.F w w1) (n3 : ME w2 k3 q3 M H3) (hk3 : w1.heap.size ≤ k3) (hn3 : ∀ b, H3 b → w1.heap.size ≤ b) (o2 : Only (fun _ => False) w1 w2) : WQ lo w2 (p.mark w w1) k g x M K last k2 q2 M H k3 q3 M H3 E := by
  have z1 := o1.size
  have z2 := o2.size
  have r1 := h.qr.rx.mark hd o1
  have hmA : ∀ b, RSb (p.mark w w1) x k K b → RSb p x k K b ∨ (w.heap.size ≤ b ∧ b < w1.heap.size) := fun b c => by
    rcases c with c | c
    · rcases Gnd.mark_A c with d | d
      · exact .inl (.inl d)
      · exact .inr ⟨by omega, r1.Alt.1 b c⟩
    · exact .inl (.inr c)
  have nA : ∀ b, b < w.heap.size → ¬ RSb p x k K b → ¬ RSb (p.mark w w1) x k K b := fun b hb hn c => (hmA b c).elim hn (fun c => by omega)
  have q1 : QR (p.mark w w1) w1 k g x M K last := ⟨r1, h.qr.has.keep o1 (fun c => h.qr.off.1 (.inl c)), fun c => by
    rcases Gnd.mark_A c with d | d
    · exact h.qr.off.1 d
    · have := h.qr.has.lt; omega, h.qr.off.2⟩
  have oF : ∀ b, p.F b → RSb p x k K b := fun b c => .inl (.inl c)
  refine ⟨q1.quiet o2, (h.me.keep o1 (fun b hb c => (h.sm b hb).1 (oF b c))).quiet o2, n3, h.qr.rx.still, h.l0, fun b hb => ⟨nA b (h.me.lt b hb) (h.sm b hb).1, (h.sm b hb).2⟩, fun b hb => ?_, fun b hb => ?_, fun b hb => ?_, by have := h.los; omega⟩
  · have hb3 : w1.heap.size ≤ b := hb.elim (hn3 b) (fun e => by rw [e]; exact hk3)
    refine ⟨fun c => (hmA b c).elim (fun c => by have := h.rlt b c; omega) (fun c => by omega), fun c => by have := h.me.lt b c; omega, by have := h.los; omega⟩
  · rcases hmA b hb with c | c
    · exact h.lr b c
    · have := h.los; omega
  · have e := h.ex b hb
    exact ⟨nA b e.2.2.2.1 e.1, e.2.1, fun c => (by have hb3 : w1.heap.size ≤ b := c.elim (hn3 b) (fun e => by rw [e]; exact hk3); omega), by omega, e.2.2.2.2⟩
/-- Exec of the real side, out of a state that was marked. -/
theorem WQ.real (h : WQ lo w p k g x M K last k2 q2 M H kb qb M Hb E) (hbs : p.base = p.blk) (hr : p.recs = []) (hl : 0 ≤ pl ∧ pl ≤ 4) (hp : ExP L p w k g x M K RR pl e w') : ∃ na nn nc ra rn rc p' K' B', e = .returned (.agg #[.int .i64 RR.2.e, .int .i64 RR.2.n, .slice na nn nc, .slice ra rn rc]) ∧ RsN B' w' (.slice na nn nc) (.slice ra rn rc) RR.2 ∧ (∀ b, B' b → w.heap.size ≤ b) ∧ WQ lo w' p' k g x RR.1 K' pl k2 q2 M H kb qb M Hb (fun b => E b ∨ B' b) ∧ p'.d = p.d ∧ (p'.recs.length = 0 ∨ (RR.2.e = 0 ∧ L ∧ p'.recs.length ≤ 146)) ∧ Only (RSb p x k K) w w' := by
  obtain ⟨na, nn, nc, ra, rn, rc, hi, p', K', he, hR, hA, hQ, hK, hc⟩ := hp
  have kln : ∀ b, b < w.heap.size → ¬ K b → ¬ K' b := fun b hl h1 c => (hK b c).elim h1 (fun c => by omega)
  obtain ⟨Y, y1, y2, y3, y4⟩ := hR.rl
  have hRN : RsN (fun b => w.heap.size ≤ b ∧ b < hi ∧ b < w'.heap.size) w' (.slice na nn nc) (.slice ra rn rc) RR.2 := ⟨hR.cn, fun b hb => ⟨(hR.cb b hb).1, (hR.cb b hb).2, ownsRow_lt hR.cn b hb⟩, Y, y1.lower (Nat.zero_le _), y2, fun b hb => ⟨y1.nb b hb, y3 b hb, ownsRow_lt y1.own b hb⟩, fun z hz b hb => ⟨(y1.row z hz).2 b hb, y4 z hz b hb, ownsRow_lt (y1.row z hz).1 b hb⟩⟩
  rcases hc with ⟨rfl, hcm, ho⟩ | ⟨rs, com, wa, wb, rfl, ⟨he0, hL⟩, hwa, ci, ho⟩
  · have z := ho.size
    have ho2 : Only (RSb p' x k K) w w' := ho.mono (fun b _ c => by
      rcases c with c | c | c
      · exact .inl (Gnd.S_A c)
      · exact .inr (.inr (.inl c))
      · exact .inr (.inr (.inr c)))
    have nr : ∀ b, b < w.heap.size → ¬ RSb p' x k K b → ¬ RSb p' x k K' b := fun b hb hn c => by
      rcases c with c | c | c | c
      · exact hn (.inl c)
      · exact hn (.inr (.inl c))
      · exact kln b hb (fun d => hn (.inr (.inr (.inl d)))) c
      · exact hn (.inr (.inr (.inr c)))
    refine ⟨na, nn, nc, ra, rn, rc, p', K', _, he, hRN, fun b hb => hb.1, ⟨hQ, h.me.keep ho2 (fun b hb c => (h.sm b hb).1 c), h.mb.keep ho2 (fun b hb c => (h.sb b hb).1 c), by rw [hcm]; exact h.cu, hl, fun b hb => ⟨nr b (h.me.lt b hb) (h.sm b hb).1, (h.sm b hb).2⟩, fun b hb => ⟨nr b (h.mb.lt b hb) (h.sb b hb).1, (h.sb b hb).2⟩, fun b hb => ?_, fun b hb => ?_, by have := h.los; omega⟩, rfl, .inl (by rw [hr]; rfl), ho2⟩
    · rcases hb with c | c | c | c
      · exact h.lr b (.inl c)
      · exact h.lr b (.inr (.inl c))
      · rcases hK b c with d | d
        · exact h.lr b (.inr (.inr (.inl d)))
        · have := h.los; omega
      · exact h.lr b (.inr (.inr (.inr c)))
    · rcases hb with c | c
      · have e := h.ex b c
        exact ⟨nr b e.2.2.2.1 e.1, e.2.1, e.2.2.1, by omega, e.2.2.2.2⟩
      · have f := h.fresh c.1
        exact ⟨apa_iff.mp (hA b c.1 c.2.1), f.2.1, f.2.2.1, c.2.2, f.2.2.2⟩
  · have z := ho.size
    have ho2 : Only (RSb p x k K) w w' := ho.mono (fun b _ c => by
      rcases c with c | c | c
      · exact .inl c
      · exact .inr (.inr (.inl c))
      · exact .inr (.inr (.inr c)))
    have qln : ∀ b, (p.done rs com wa wb).A b → p.A b ∨ w.heap.size ≤ b := fun b c => (Gnd.done_A c).imp id (fun d => by omega)
    have nr : ∀ b, b < w.heap.size → ¬ RSb p x k K b → ¬ RSb (p.done rs com wa wb) x k K' b := fun b hb hn c => by
      rcases c with c | c | c | c
      · exact (qln b c).elim (fun d => hn (.inl d)) (fun d => by omega)
      · exact hn (.inr (.inl c))
      · exact kln b hb (fun d => hn (.inr (.inr (.inl d)))) c
      · exact hn (.inr (.inr (.inr c)))
    have e1 : (p.done rs com wa wb).base = p.blk := hbs
    have e2 : (p.done rs com wa wb).recs = rs := by show p.recs ++ rs = rs; rw [hr]; rfl
    refine ⟨na, nn, nc, ra, rn, rc, p.done rs com wa wb, K', _, he, hRN, fun b hb => hb.1, ⟨hQ, h.me.keep ho2 (fun b hb c => (h.sm b hb).1 c), h.mb.keep ho2 (fun b hb c => (h.sb b hb).1 c), ?_, hl, fun b hb => ⟨nr b (h.me.lt b hb) (h.sm b hb).1, (h.sm b hb).2⟩, fun b hb => ⟨nr b (h.mb.lt b hb) (h.sb b hb).1, (h.sb b hb).2⟩, fun b hb => ?_, fun b hb => ?_, by have := h.los; omega⟩, rfl, .inr ⟨he0, hL, by rw [e2]; exact ci.short⟩, ho2⟩
    · rw [e1, e2]
      exact ci.toX h.qr.rx.comd.2 hQ.rx.comd.2 h.qr.rx.comd.1 hQ.rx.comd.1
    · rcases hb with c | c | c | c
      · rcases qln b c with d | d
        · exact h.lr b (.inl d)
        · have := h.los; omega
      · exact h.lr b (.inr (.inl c))
      · rcases hK b c with d | d
        · exact h.lr b (.inr (.inr (.inl d)))
        · have := h.los; omega
      · exact h.lr b (.inr (.inr (.inr c)))
    · rcases hb with c | c
      · have e := h.ex b c
        exact ⟨nr b e.2.2.2.1 e.1, e.2.1, e.2.2.1, by omega, e.2.2.2.2⟩
      · have f := h.fresh c.1
        exact ⟨apa_iff.mp (hA b c.1 c.2.1), f.2.1, f.2.2.1, c.2.2, f.2.2.2⟩
/-- Exec of the model. -/
theorem WQ.model (h : WQ lo w p k g x M' K last k2 q2 M H kb qb Mb Hb E) (hp : MnP w k2 q2 w.heap.size H RR e w') : ∃ na nn nc ra rn rc H' B', e = .returned (.agg #[.int .i64 RR.2.e, .int .i64 RR.2.n, .slice na nn nc, .slice ra rn rc]) ∧ RsN B' w' (.slice na nn nc) (.slice ra rn rc) RR.2 ∧ (∀ b, B' b → w.heap.size ≤ b) ∧ WQ lo w' p k g x M' K last k2 q2 RR.1 H' kb qb Mb Hb (fun b => E b ∨ B' b) ∧ Only H w w' := by
  obtain ⟨na, nn, nc, ra, rn, rc, H', B', he, hR, hB, hM, hH, ho⟩ := hp
  have z := ho.size
  refine ⟨na, nn, nc, ra, rn, rc, H', B', he, hR, fun b hb => (hB b hb).1, ⟨h.qr.keepR ho (fun b c => (h.sm b (.inl c)).1), hM, h.mb.keep ho (fun b hb c => (h.sb b hb).2.1 (.inl c)), h.cu, h.l0, fun b hb => ?_, fun b hb => ?_, h.lr, fun b hb => ?_, by have := h.los; omega⟩, ho⟩
  · rcases hb with c | c
    · rcases hH b c with d | d
      · exact h.sm b (.inl d)
      · have f := h.fresh d
        exact ⟨f.1, f.2.2.2⟩
    · exact h.sm b (.inr c)
  · have e := h.sb b hb
    refine ⟨e.1, fun c => ?_, e.2.2⟩
    rcases c with c | c
    · rcases hH b c with d | d
      · exact e.2.1 (.inl d)
      · have := h.mb.lt b hb; omega
    · exact e.2.1 (.inr c)
  · rcases hb with c | c
    · have e := h.ex b c
      refine ⟨e.1, fun d => ?_, e.2.2.1, by omega, e.2.2.2.2⟩
      rcases d with d | d
      · rcases hH b d with j | j
        · exact e.2.1 (.inl j)
        · omega
      · exact e.2.1 (.inr d)
    · have hb2 := hB b c
      have f := h.fresh hb2.1
      exact ⟨f.1, fun d => d.elim hb2.2.2 (fun d => f.2.1 (.inr d)), f.2.2.1, hb2.2.1, f.2.2.2⟩
/-- Where the cut falls. -/
theorem WQ.pick (h : WQ lo w p k g x M K last k2 q2 N H kb qb Mb Hb E) (a : Int) : ∃ X D, X.length = 80 ∧ Shows (recov (replay p.base (p.recs.take a.toNat))) X ∧ ComD X D ∧ (D = Mb.com ∨ D = M.com) ∧ (a ≤ 0 → D = Mb.com) ∧ ((p.recs.length : Int) ≤ a → D = M.com) := by
  obtain ⟨X, lX, hX, hor, hf, hw⟩ := h.cu.pick a.toNat
  rcases hor with c | c
  · exact ⟨X, _, lX, hX, c, .inl rfl, fun _ => rfl, fun ha => c.uniq (hw (by omega))⟩
  · exact ⟨X, _, lX, hX, c, .inr rfl, fun ha => c.uniq (hf (by omega)), fun _ => rfl⟩
end
end Go.Proofs.Qxb6500412aGreat
