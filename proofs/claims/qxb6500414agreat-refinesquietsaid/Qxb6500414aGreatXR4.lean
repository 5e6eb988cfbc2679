/-
  OWN WORK. THE TXN LAW: the walk's start (of a script, and behind a cut); Check.
-/
import Derived.Test.Qxb6500414aGreatXR3
import Derived.Test.Qxb6500414aGreatXH0
namespace Go.Proofs.Qxb6500414aGreat
open Go.RowKit Go.PlainAid
set_option linter.unusedSimpArgs false
set_option linter.unusedVariables false

theorem rcheck_any {q : Gnd} {w : World} {g x : Nat} {M : Mu} {K : Nat → Prop} (R : RX q w g x M K) : Calls Tryz.prog 28 #[.pointer (some ⟨g, 0, none⟩)] w fun e w' => e = .returned (.bool true) ∧ RX q w' g x M K ∧ Only q.S w w' := by
  obtain ⟨X, S, T, hx, la, cf, ok, sh, hk⟩ := R.ex
  refine (xcheck_any hx la ok).mono ?_
  rintro e w' ⟨rfl, h, o⟩
  exact ⟨rfl, R.look h la cf ok sh hk o, o⟩
theorem WB.start {lo : Nat} {w3 w4 w5 w6 : World} {q : Gnd} {g x : Nat} {D : Db} {m mb : Nat} {H0 Hb E : Nat → Prop} (rx : RX q w3 g x (Mu0 D) (fun k => k = g)) (cu : CutX q.base q.recs (fun X => ComD X D) (fun X => ComD X D)) (hlo : ∀ k, q.A k ∨ k = x ∨ k = g → lo ≤ k) (los : lo ≤ w3.heap.size) (hH0 : ∀ b, H0 b → w3.heap.size ≤ b) (hm : H0 m) (o4 : Only (fun _ => False) w3 w4)
    (n5 : NX w5 m (Mu0 D) D none (Ext H0 w4 w5)) (o5 : Only (fun b => b = m) w4 w5) (n6 : NX w6 mb (Mu0 D) D none Hb) (hHb : ∀ b, Hb b → w5.heap.size ≤ b) (o6 : Only (fun _ => False) w5 w6) (hE : ∀ b, E b → ¬ q.A b ∧ b ≠ x ∧ b ≠ g ∧ b < w3.heap.size ∧ lo ≤ b) :
    WB lo w6 q g x (Mu0 D) (fun k => k = g) m (Mu0 D) D none (Ext H0 w4 w5) mb (Mu0 D) D Hb E := by
  have z4 := o4.size
  have z5 := o5.size
  have z6 := o6.size
  have hmw := hH0 m hm
  have gl := (rx.kA g rfl).2.2
  have rl : ∀ b, q.A b ∨ b = x ∨ b = g → b < w3.heap.size := fun b hb => by
    rcases hb with c | c | c
    · exact rx.Alt.1 b c
    · rw [c]; exact rx.Alt.2
    · rw [c]; exact gl
  have hH : ∀ b, Ext H0 w4 w5 b → w3.heap.size ≤ b := fun b hb => by
    rcases hb with c | c
    · exact hH0 b c
    · omega
  have fr : ∀ b, w3.heap.size ≤ b → ¬ q.A b ∧ b ≠ x ∧ ¬ b = g := fun b hb => ⟨fun c => by have := rl b (.inl c); omega, fun c => by have := rl b (.inr (.inl c)); omega, fun c => by have := rl b (.inr (.inr c)); omega⟩
  refine ⟨((rx.quiet o4).keep o5 (fun b hb e => by have := rl b hb; have e' : b = m := e; omega)).quiet o6, n5.quiet o6, n6, rfl, cu, fun b hb => ?_, fun b hb => ?_, hlo, fun b hb => ?_, by omega⟩
  · have := hH b hb
    exact ⟨(fr b this).1, (fr b this).2.1, (fr b this).2.2, by omega⟩
  · have := hHb b hb
    exact ⟨(fr b (by omega)).1, (fr b (by omega)).2.1, (fr b (by omega)).2.2, fun c => (by have := n5.lt b c; omega), by omega⟩
  · have k := hE b hb
    exact ⟨k.1, k.2.1, k.2.2.1, fun c => (by have := hH b c; omega), fun c => (by have := hHb b c; omega), by omega, k.2.2.2.2⟩
section
variable {lo : Nat} {wd w w' : World} {q q3 : Gnd} {g x g3 x3 : Nat} {M N : Mu} {K : Nat → Prop} {m : Nat} {U : Db} {hist : Option Db} {H : Nat → Prop} {mb : Nat} {Mb : Mu} {Ub : Db} {Hb E : Nat → Prop}
/-- New layers turned; the old ones (as they stood at wd) did not. -/
theorem WB.far {B : Nat → Prop} (hD : WB lo wd q g x M K m N U hist H mb Mb Ub Hb E) (h : WB lo w q g x M K m N U hist H mb Mb Ub Hb E) (o : Only B w w') (hB : ∀ b, B b → wd.heap.size ≤ b) : WB lo w' q g x M K m N U hist H mb Mb Ub Hb E := by
  have z := o.size
  refine ⟨h.rx.keep o (fun b hb c => by have := hB b c; have := hD.rlt b hb; omega), h.nm.keep o (fun b hb c => by have := hB b c; have := hD.nm.lt b hb; omega), h.nb.keep o (fun b hb c => by have := hB b c; have := hD.nb.lt b hb; omega), h.ul, h.cu, h.sm, h.sb, h.lr, fun b hb => ?_, by have := h.los; omega⟩
  have k := h.ex b hb
  exact ⟨k.1, k.2.1, k.2.2.1, k.2.2.2.1, k.2.2.2.2.1, by omega, k.2.2.2.2.2.2⟩
/-- Other layers in the place of those that were looked at. -/
theorem WB.swap {D : Db} (hD : WB lo wd q g x (Mu0 D) K m (Mu0 D) U hist H mb Mb D Hb E) (h : WB lo w q g x (Mu0 D) K m (Mu0 D) U hist H mb Mb D Hb E) (rx : RX q3 w g3 x3 (Mu0 D) (fun k => k = g3)) (cu : CutX q3.base q3.recs (fun X => ComD X D) (fun X => ComD X D)) (hf : ∀ k, q3.A k ∨ k = x3 ∨ k = g3 → wd.heap.size ≤ k) : WB lo w q3 g3 x3 (Mu0 D) (fun k => k = g3) m (Mu0 D) U hist H mb Mb D Hb E := by
  have fr : ∀ b, b < wd.heap.size → ¬ q3.A b ∧ b ≠ x3 ∧ ¬ b = g3 := fun b hb => ⟨fun c => by have := hf b (.inl c); omega, fun c => by have := hf b (.inr (.inl c)); omega, fun c => by have := hf b (.inr (.inr c)); omega⟩
  refine ⟨rx, h.nm, h.nb, h.ul, cu, fun b hb => ?_, fun b hb => ?_, fun b hb => ?_, fun b hb => ?_, h.los⟩
  · have f := fr b (hD.nm.lt b hb)
    exact ⟨f.1, f.2.1, f.2.2, (h.sm b hb).2.2.2⟩
  · have f := fr b (hD.nb.lt b hb)
    exact ⟨f.1, f.2.1, f.2.2, (h.sb b hb).2.2.2.1, (h.sb b hb).2.2.2.2⟩
  · have := hf b hb
    have := hD.los
    omega
  · have f := fr b (hD.ex b hb).2.2.2.2.2.1
    have k := h.ex b hb
    exact ⟨f.1, f.2.1, f.2.2, k.2.2.2.1, k.2.2.2.2.1, k.2.2.2.2.2.1, k.2.2.2.2.2.2⟩
theorem NX.dok (h : NX w m N U hist H) : DGd N.com := by
  obtain ⟨k, P, X, c0⟩ := h.multi
  obtain ⟨Z, hZ, hS, hA⟩ := X.ex
  exact hS.cok.gd
end
/-- The walk's state, seen from its variables: with the ghost. -/
def LX (w0 : World) (kb : Nat) (tv mv bv gv : Value) (w : World) : Prop := ∃ q g x M K m U hist H mb Mb Ub Hb kG gm, tv = .pointer (some ⟨g, 0, none⟩) ∧ mv = .pointer (some ⟨m, 0, none⟩) ∧ bv = .pointer (some ⟨mb, 0, none⟩) ∧ gv = .pointer (some ⟨kG, 0, none⟩) ∧ Has w kb (jbC q.d x) 30 ∧ GhAt w kG gm M.com ∧ SerI M gm M.com ∧ ¬ gm.A kG kb ∧ WB w0.heap.size w q g x M K m M U hist H mb Mb Ub Hb (fun b => b = kb ∨ gm.A kG b) ∧ Only (fun k => w0.heap.size ≤ k) w0 w
/-- Without it (the quiet walk). -/
def LQ (w0 : World) (kb : Nat) (tv mv bv : Value) (w : World) : Prop := ∃ q g x M K m U hist H mb Mb Ub Hb, tv = .pointer (some ⟨g, 0, none⟩) ∧ mv = .pointer (some ⟨m, 0, none⟩) ∧ bv = .pointer (some ⟨mb, 0, none⟩) ∧ Has w kb (jbC q.d x) 30 ∧ WB w0.heap.size w q g x M K m M U hist H mb Mb Ub Hb (fun b => b = kb ∨ False) ∧ Only (fun k => w0.heap.size ≤ k) w0 w
end Go.Proofs.Qxb6500414aGreat
