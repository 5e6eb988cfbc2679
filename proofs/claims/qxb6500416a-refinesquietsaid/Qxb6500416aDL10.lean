/-
  OWN WORK. THE LAW OF DIFF: SameDiff, SameApply.
-/
import Derived.Test.Qxb6500416aDL9
namespace Go.Proofs.Qxb6500416a
open Go.RowKit Go.PlainAid
set_option linter.unusedSimpArgs false
set_option linter.unusedVariables false

section
variable {B : Nat} {w w' : World} {l e : Nat} {mp pv r0 r1 k0 k1 k2 k3 : Value} {tx : ByteArray} {hs : List HV} {p : List Hk} {A0 A1 : List Fl} {L : List Str} {F R M : Nat → Prop}
theorem LS.li (h : LS B w l e mp pv r0 r1 k0 k1 k2 k3 tx hs p A0 A1 L F R M) : LI B w l := ⟨_, _, _, _, _, _, _, _, _, _, _, _, _, _, _, _, _, _, h⟩
/-- Room that none of the state lies in. -/
structure Room (B : Nat) (w : World) (l : Nat) (F R M G : Nat → Prop) : Prop where
  lt : ∀ y, G y → y < w.heap.size
  nF : ∀ y, G y → ¬ F y
  nR : ∀ y, G y → ¬ R y
  nM : ∀ y, G y → ¬ M y
  nl : ¬ G l
  bG : ∀ y, G y → B ≤ y
theorem LS.setPatch {G : Nat → Prop} {v : Value} {hs' : List HV} {p' : List Hk} (h : LS B w l e mp pv r0 r1 k0 k1 k2 k3 tx hs p A0 A1 L F R M) (hP : PatO w v hs' p' G) (hD : Dst hs') (hB : PB p') (hG : Room B w l F R M G) : LS B (w.setCell ⟨l, 2, none⟩ v) l e mp v r0 r1 k0 k1 k2 k3 tx hs' p' A0 A1 L F (fun y => G y ∨ r0.ownBlock = some y ∨ r1.ownBlock = some y) M := by
  have ho := donly1 (w := w) (p := l) 2 v
  have hz := ho.size
  have nF : ∀ y, F y → ¬ y = l := fun y hy e => h.lF (e ▸ hy)
  have nR : ∀ y, R y → ¬ y = l := fun y hy e => h.lR (e ▸ hy)
  have nM : ∀ y, M y → ¬ y = l := fun y hy e => h.lM (e ▸ hy)
  have nG : ∀ y, G y → ¬ y = l := fun y hy e => hG.nl (e ▸ hy)
  have hR : ∀ y, (G y ∨ r0.ownBlock = some y ∨ r1.ownBlock = some y) → G y ∨ R y := fun y hy => by
    rcases hy with h1 | h1
    · exact .inl h1
    · exact .inr (h.rf y h1)
  exact { lw := h.lw.set2 v, ep := h.ep.keep ho nF, pat := (hP.keep ho nG).mono (fun y _ hy => .inl hy), dst := hD, pb := hB, f0 := ownsRow_keep h.f0 ho (fun y hy => nR y (h.rf y (.inl hy))), f1 := ownsRow_keep h.f1 ho (fun y hy => nR y (h.rf y (.inr hy))), n0 := h.n0, n1 := h.n1, rf := fun y hy => .inr hy, r01 := h.r01, kl0 := h.kl0.keep ho nM, kl1 := h.kl1.keep ho nM, kl2 := h.kl2.keep ho nM, kl3 := h.kl3.keep ho nM,
          sFR := fun y hf hr => by rcases hR y hr with h1 | h1; exact hG.nF y h1 hf; exact h.sFR y hf h1,
          sFM := h.sFM,
          sRM := fun y hr hm => by rcases hR y hr with h1 | h1; exact hG.nM y h1 hm; exact h.sRM y h1 hm,
          lF := h.lF,
          lR := fun hr => by rcases hR l hr with h1 | h1; exact hG.nl h1; exact h.lR h1,
          lM := h.lM,
          Rlt := fun y hr => by rcases hR y hr with h1 | h1; exact Nat.lt_of_lt_of_le (hG.lt y h1) hz; exact Nat.lt_of_lt_of_le (h.Rlt y h1) hz,
          Mlt := fun y hm => Nat.lt_of_lt_of_le (h.Mlt y hm) hz, bl := h.bl, bF := h.bF,
          bR := fun y hr => by rcases hR y hr with h1 | h1; exact hG.bG y h1; exact h.bR y h1,
          bM := h.bM, bw := Nat.le_trans h.bw hz }
theorem LS.owned {G S M' : Nat → Prop} {k0' k1' k2' k3' : Value} (h : LS B w l e mp pv r0 r1 k0 k1 k2 k3 tx hs p A0 A1 L F R M) (hw : LW w' l (.pointer (some ⟨e, 0, none⟩)) mp pv (.string tx) r0 r1 k0' k1' k2' k3')
    (K0 : KL w' 49 9 1 patS k0' M') (K1 : KL w' 33 62 3 patH k1' M') (K2 : KL w' 34 60 3 patF k2' M') (K3 : KL w' 63 65 3 patC k3' M') (ho : Only S w w') (hS : ∀ y, S y → y = l ∨ M y ∨ G y) (dn : ∀ y, M' y → M y ∨ G y ∨ (w.heap.size ≤ y ∧ y < w'.heap.size)) (hG : Room B w l F R M G) : LS B w' l e mp pv r0 r1 k0' k1' k2' k3' tx hs p A0 A1 L F R M' := by
  have hz := ho.size
  have ll := Has.lt h.lw
  have nF : ∀ y, F y → ¬ S y := fun y hy hs => by
    rcases hS y hs with h1 | h1 | h1
    · subst h1; exact h.lF hy
    · exact h.sFM y hy h1
    · exact hG.nF y h1 hy
  have nR : ∀ y, R y → ¬ S y := fun y hy hs => by
    rcases hS y hs with h1 | h1 | h1
    · subst h1; exact h.lR hy
    · exact h.sRM y hy h1
    · exact hG.nR y h1 hy
  exact { lw := hw, ep := h.ep.keep ho nF, pat := h.pat.keep ho nR, dst := h.dst, pb := h.pb, f0 := ownsRow_keep h.f0 ho (fun y hy => nR y (h.rf y (.inl hy))), f1 := ownsRow_keep h.f1 ho (fun y hy => nR y (h.rf y (.inr hy))), n0 := h.n0, n1 := h.n1, rf := h.rf, r01 := h.r01, kl0 := K0, kl1 := K1, kl2 := K2, kl3 := K3, sFR := h.sFR,
          sFM := fun y hf hm => by rcases dn y hm with h1 | h1 | h1; exact h.sFM y hf h1; exact hG.nF y h1 hf; have := h.ep.inn y hf; omega,
          sRM := fun y hr hm => by rcases dn y hm with h1 | h1 | h1; exact h.sRM y hr h1; exact hG.nR y h1 hr; have := h.Rlt y hr; omega,
          lF := h.lF, lR := h.lR,
          lM := fun hm => by rcases dn l hm with h1 | h1 | h1; exact h.lM h1; exact hG.nl h1; omega,
          Rlt := fun y hr => Nat.lt_of_lt_of_le (h.Rlt y hr) hz,
          Mlt := fun y hm => by rcases dn y hm with h1 | h1 | h1; exact Nat.lt_of_lt_of_le (h.Mlt y h1) hz; exact Nat.lt_of_lt_of_le (hG.lt y h1) hz; exact h1.2,
          bl := h.bl, bF := h.bF, bR := h.bR,
          bM := fun y hm => by rcases dn y hm with h1 | h1 | h1; exact h.bM y h1; exact hG.bG y h1; have := h.bw; omega,
          bw := Nat.le_trans h.bw hz }
/-- OwnPatch over the state. -/
theorem ownPatch_li {G : Nat → Prop} {v : Value} {hs' : List HV} {p' : List Hk} (h : LS B w l e mp pv r0 r1 k0 k1 k2 k3 tx hs p A0 A1 L F R M) (hP : PatO w v hs' p' G) (hD : Dst hs') (hl : p'.length ≤ 100000) (hG : Room B w l F R M G) :
    Calls Try.prog 23 #[.pointer (some ⟨l, 0, none⟩), v] w fun x w' => x = .returned (.tuple #[]) ∧ LI B w' l ∧ Only (fun y => B ≤ y) w w' := by
  refine (ownPatch_any h.lw h.kl0 h.kl1 v hs' p' hP hD hG.nM h.lM hl).mono ?_
  rintro x w1 ⟨rfl, k0', k1', M', hw, K0, K1, up, dn, ho⟩
  have hS : ∀ y, (y = l ∨ k0.ownBlock = some y ∨ k1.ownBlock = some y ∨ (G y ∧ y < w.heap.size)) → y = l ∨ M y ∨ G y := fun y hy => by
    rcases hy with h1 | h1 | h1 | h1
    · exact .inl h1
    · exact .inr (.inl (h.kl0.own y h1))
    · exact .inr (.inl (h.kl1.own y h1))
    · exact .inr (.inr h1.1)
  have hT : ∀ y, (y = l ∨ k0.ownBlock = some y ∨ k1.ownBlock = some y ∨ (G y ∧ y < w.heap.size)) → ¬ M y ∨ ∃ c t', Has w y c t' ∧ (t' = 41 ∨ t' = 49 ∨ t' = 33) := fun y hy => by
    rcases hy with h1 | h1 | h1 | h1
    · subst h1; exact .inl h.lM
    · obtain ⟨c, hc⟩ := h.kl0.ty y h1; exact .inr ⟨c, _, hc, .inr (.inl rfl)⟩
    · obtain ⟨c, hc⟩ := h.kl1.ty y h1; exact .inr ⟨c, _, hc, .inr (.inr rfl)⟩
    · exact .inl (hG.nM y h1.1)
  have K2 := (h.kl2.keepT ho (fun y hy => by
    rcases hT y hy with h1 | ⟨c, t', h1, h2⟩
    · exact .inl h1
    · exact .inr ⟨c, t', h1, by rcases h2 with rfl | rfl | rfl <;> decide, by rcases h2 with rfl | rfl | rfl <;> decide⟩)).mono up
  have K3 := (h.kl3.keepT ho (fun y hy => by
    rcases hT y hy with h1 | ⟨c, t', h1, h2⟩
    · exact .inl h1
    · exact .inr ⟨c, t', h1, by rcases h2 with rfl | rfl | rfl <;> decide, by rcases h2 with rfl | rfl | rfl <;> decide⟩)).mono up
  refine ⟨rfl, (h.owned hw K0 K1 K2 K3 ho hS dn hG).li, ho.mono (fun y _ hy => ?_)⟩
  rcases hS y hy with h1 | h1 | h1
  · subst h1; exact h.bl
  · exact h.bM y h1
  · exact hG.bG y h1
end
theorem dst_of_nodup {hs : List HV} (h : (hvB hs).Nodup) : Dst hs := by
  unfold Dst
  exact h.imp (fun hn => .inr hn)
end Go.Proofs.Qxb6500416a
