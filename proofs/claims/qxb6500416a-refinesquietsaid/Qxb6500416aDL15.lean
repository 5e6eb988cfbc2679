/-
  OWN WORK. THE LAW OF DIFF: the registers turn.
-/
import Derived.Test.Qxb6500416aDL14
namespace Go.Proofs.Qxb6500416a
open Go.RowKit Go.PlainAid
set_option linter.unusedSimpArgs false
set_option linter.unusedVariables false

section
variable {B : Nat} {w w' : World} {l e : Nat} {mp pv r0 r1 k0 k1 k2 k3 : Value} {tx : ByteArray} {hs : List HV} {p : List Hk} {A0 A1 : List Fl} {L : List Str} {F R M : Nat → Prop}
/-- The registers turn: only the law's block and register blocks are written. -/
theorem LS.regs {S R' : Nat → Prop} {v r0' r1' : Value} {tx' : ByteArray} {hs' : List HV} {p' : List Hk} {A0' A1' : List Fl} (h : LS B w l e mp pv r0 r1 k0 k1 k2 k3 tx hs p A0 A1 L F R M)
    (hw : LW w' l (.pointer (some ⟨e, 0, none⟩)) mp v (.string tx') r0' r1' k0 k1 k2 k3) (hP : PatO w' v hs' p' R') (hD : Dst hs') (hB : PB p') (g0 : OwnF w' r0' A0') (g1 : OwnF w' r1' A1') (n0 : A0'.length ≤ 9) (n1 : A1'.length ≤ 9) (rf : ∀ y, r0'.ownBlock = some y ∨ r1'.ownBlock = some y → R' y) (r01 : ∀ y, r0'.ownBlock = some y → r1'.ownBlock ≠ some y)
    (ho : Only S w w') (hS : ∀ y, S y → y = l ∨ R y) (dn : ∀ y, R' y → R y ∨ (w.heap.size ≤ y ∧ y < w'.heap.size)) : LS B w' l e mp v r0' r1' k0 k1 k2 k3 tx' hs' p' A0' A1' L F R' M := by
  have hz := ho.size
  have ll := Has.lt h.lw
  have nF : ∀ y, F y → ¬ S y := fun y hy hs => by
    rcases hS y hs with h1 | h1
    · subst h1; exact h.lF hy
    · exact h.sFR y hy h1
  have nM : ∀ y, M y → ¬ S y := fun y hy hs => by
    rcases hS y hs with h1 | h1
    · subst h1; exact h.lM hy
    · exact h.sRM y h1 hy
  exact { lw := hw, ep := h.ep.keep ho nF, pat := hP, dst := hD, pb := hB, f0 := g0, f1 := g1, n0 := n0, n1 := n1, rf := rf, r01 := r01, kl0 := h.kl0.keep ho nM, kl1 := h.kl1.keep ho nM, kl2 := h.kl2.keep ho nM, kl3 := h.kl3.keep ho nM,
          sFR := fun y hf hr => by rcases dn y hr with h1 | h1; exact h.sFR y hf h1; have := h.ep.inn y hf; omega,
          sFM := h.sFM,
          sRM := fun y hr hm => by rcases dn y hr with h1 | h1; exact h.sRM y h1 hm; have := h.Mlt y hm; omega,
          lF := h.lF,
          lR := fun hr => by rcases dn l hr with h1 | h1; exact h.lR h1; omega,
          lM := h.lM,
          Rlt := fun y hr => by rcases dn y hr with h1 | h1; have := h.Rlt y h1; omega; exact h1.2,
          Mlt := fun y hm => Nat.lt_of_lt_of_le (h.Mlt y hm) hz, bl := h.bl, bF := h.bF,
          bR := fun y hr => by rcases dn y hr with h1 | h1; exact h.bR y h1; have := h.bw; omega,
          bM := h.bM, bw := Nat.le_trans h.bw hz }
theorem LS.stp {S R' : Nat → Prop} (h : LS B w l e mp pv r0 r1 k0 k1 k2 k3 tx hs p A0 A1 L F R M) (h' : LI B w' l) (ho : Only S w w') (hS : ∀ y, S y → y = l ∨ R y) : Stp B l w w' := by
  refine ⟨h', ho.mono (fun y _ hy => ?_)⟩
  rcases hS y hy with h1 | h1
  · subst h1; exact h.bl
  · exact h.bR y h1
/-- The text register turns. -/
theorem LS.text (h : LS B w l e mp pv r0 r1 k0 k1 k2 k3 tx hs p A0 A1 L F R M) (s : ByteArray) : LS B (w.setCell ⟨l, 3, none⟩ (.string s)) l e mp pv r0 r1 k0 k1 k2 k3 s hs p A0 A1 L F R M := by
  have ho := donly1 (w := w) (p := l) 3 (.string s)
  have nR : ∀ y, R y → ¬ y = l := fun y hy e => h.lR (e ▸ hy)
  exact h.regs (h.lw.set3 _) (h.pat.keep ho nR) h.dst h.pb (ownsRow_keep h.f0 ho (fun y hy => nR y (h.rf y (.inl hy)))) (ownsRow_keep h.f1 ho (fun y hy => nR y (h.rf y (.inr hy)))) h.n0 h.n1 h.rf h.r01 ho (fun y hy => .inl hy) (fun y hy => .inl hy)
/-- Both row registers are emptied. -/
theorem LS.empty (h : LS B w l e mp pv r0 r1 k0 k1 k2 k3 tx hs p A0 A1 L F R M) : LS B ((w.setCell ⟨l, 4, none⟩ (.slice none 0 0)).setCell ⟨l, 5, none⟩ (.slice none 0 0)) l e mp pv (.slice none 0 0) (.slice none 0 0) k0 k1 k2 k3 tx hs p [] [] L F R M := by
  have ho := (donly1 (w := w) (p := l) 4 (.slice none 0 0)).trans (donly1 (p := l) 5 (.slice none 0 0)) (fun _ _ h => h)
  have nR : ∀ y, R y → ¬ y = l := fun y hy e => h.lR (e ▸ hy)
  exact h.regs ((h.lw.set4 _).set5 _) (h.pat.keep ho nR) h.dst h.pb (World.ownsRow_nil _ _ _ _) (World.ownsRow_nil _ _ _ _) (by simp) (by simp) (fun y hy => by simp [Value.ownBlock] at hy) (fun y hy => by simp [Value.ownBlock] at hy) ho (fun y hy => .inl hy) (fun y hy => .inl hy)
end
end Go.Proofs.Qxb6500416a
