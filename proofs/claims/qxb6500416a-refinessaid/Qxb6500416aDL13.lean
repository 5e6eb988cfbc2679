/-
  OWN WORK. THE LAW OF DIFF: SameTreeDiff.
-/
import Derived.Test.Qxb6500416aDL12
namespace Go.Proofs.Qxb6500416a
open Go.RowKit Go.PlainAid
set_option linter.unusedSimpArgs false
set_option linter.unusedVariables false

theorem tdF_len : ∀ (n : Nat) (a b : List Fl), a.length + b.length ≤ n → (tdF a b).length ≤ a.length + b.length
  | n, [], [], _ => by rw [tdF_00]; simp
  | 0, [], y :: b, h => by simp at h
  | 0, x :: a, b, h => by simp at h
  | n + 1, [], y :: b, h => by
    rw [tdF_0]
    have := tdF_len n [] b (by simp at h ⊢; omega)
    simp at this ⊢; omega
  | n + 1, x :: a, [], h => by
    rw [tdF_1]
    have := tdF_len n a [] (by simp at h ⊢; omega)
    simp at this ⊢; omega
  | n + 1, x :: a, y :: b, h => by
    rw [tdF_2]
    simp only [List.length_cons] at h
    have h1 := tdF_len n a (y :: b) (by simp only [List.length_cons]; omega)
    have h2 := tdF_len n (x :: a) b (by simp only [List.length_cons]; omega)
    have h3 := tdF_len n a b (by omega)
    simp only [List.length_cons] at h1 h2
    split
    · simp only [List.length_cons]; omega
    · split
      · simp only [List.length_cons]; omega
      · split
        · simp only [List.length_cons]; omega
        · simp only [List.length_cons]; omega
theorem tdRes_len (a b : List Fl) : (tdRes a b).length ≤ a.length + b.length := by
  unfold tdRes
  split
  · exact tdF_len _ a b (Nat.le_refl _)
  · simp
section
variable {B : Nat} {w w' : World} {l e : Nat} {mp pv r0 r1 k0 k1 k2 k3 : Value} {tx : ByteArray} {hs : List HV} {p : List Hk} {A0 A1 : List Fl} {L : List Str} {F R M : Nat → Prop}
theorem ownFiles_li {v : Value} {A : List Fl} (h : LS B w l e mp pv r0 r1 k0 k1 k2 k3 tx hs p A0 A1 L F R M) (hv : OwnF w v A) (hG : Room B w l F R M (fun y => v.ownBlock = some y)) :
    Calls Try.prog 35 #[.pointer (some ⟨l, 0, none⟩), v] w fun x w' => x = .returned (.tuple #[]) ∧ ∃ k2', LS B w' l e mp pv r0 r1 k0 k1 k2' k3 tx hs p A0 A1 L F R (Mx M v w w') ∧ Only (fun y => y = l ∨ v.ownBlock = some y ∨ k2.ownBlock = some y) w w' ∧ Only (fun y => B ≤ y) w w' := by
  refine (ownFiles_any h.lw h.kl2 v A hv hG.nM h.lM).mono ?_
  rintro x w1 ⟨rfl, k2', hw, K2, ho, _⟩
  have hS : ∀ y, (y = l ∨ v.ownBlock = some y ∨ k2.ownBlock = some y) → y = l ∨ M y ∨ v.ownBlock = some y := fun y hy => by
    rcases hy with h1 | h1 | h1
    · exact .inl h1
    · exact .inr (.inr h1)
    · exact .inr (.inl (h.kl2.own y h1))
  have hT : ∀ y, (y = l ∨ v.ownBlock = some y ∨ k2.ownBlock = some y) → ¬ M y ∨ ∃ c, Has w y c 34 := fun y hy => by
    rcases hy with h1 | h1 | h1
    · subst h1; exact .inl h.lM
    · exact .inl (hG.nM y h1)
    · exact .inr (h.kl2.ty y h1)
  have up : ∀ y, M y → Mx M v w w1 y := fun y hy => .inl hy
  have K0 := (h.kl0.keepT ho (fun y hy => by
    rcases hT y hy with h1 | ⟨c, h1⟩
    · exact .inl h1
    · exact .inr ⟨c, _, h1, by decide, by decide⟩)).mono up
  have K1 := (h.kl1.keepT ho (fun y hy => by
    rcases hT y hy with h1 | ⟨c, h1⟩
    · exact .inl h1
    · exact .inr ⟨c, _, h1, by decide, by decide⟩)).mono up
  have K3 := (h.kl3.keepT ho (fun y hy => by
    rcases hT y hy with h1 | ⟨c, h1⟩
    · exact .inl h1
    · exact .inr ⟨c, _, h1, by decide, by decide⟩)).mono up
  refine ⟨rfl, k2', h.owned hw K0 K1 K2 K3 ho hS (fun y hy => hy) hG, ho, ho.mono (fun y _ hy => ?_)⟩
  rcases hS y hy with h1 | h1 | h1
  · subst h1; exact h.bl
  · exact h.bM y h1
  · exact hG.bG y h1
theorem ownChanges_li {v : Value} {A : List Chg} (h : LS B w l e mp pv r0 r1 k0 k1 k2 k3 tx hs p A0 A1 L F R M) (hv : OwnC w v A) (hG : Room B w l F R M (fun y => v.ownBlock = some y)) :
    Calls Try.prog 36 #[.pointer (some ⟨l, 0, none⟩), v] w fun x w' => x = .returned (.tuple #[]) ∧ ∃ k3', LS B w' l e mp pv r0 r1 k0 k1 k2 k3' tx hs p A0 A1 L F R (Mx M v w w') ∧ Only (fun y => B ≤ y) w w' := by
  refine (ownChanges_any h.lw h.kl3 v A hv hG.nM h.lM).mono ?_
  rintro x w1 ⟨rfl, k3', hw, K3, ho, _⟩
  have hS : ∀ y, (y = l ∨ v.ownBlock = some y ∨ k3.ownBlock = some y) → y = l ∨ M y ∨ v.ownBlock = some y := fun y hy => by
    rcases hy with h1 | h1 | h1
    · exact .inl h1
    · exact .inr (.inr h1)
    · exact .inr (.inl (h.kl3.own y h1))
  have hT : ∀ y, (y = l ∨ v.ownBlock = some y ∨ k3.ownBlock = some y) → ¬ M y ∨ ∃ c, Has w y c 63 := fun y hy => by
    rcases hy with h1 | h1 | h1
    · subst h1; exact .inl h.lM
    · exact .inl (hG.nM y h1)
    · exact .inr (h.kl3.ty y h1)
  have up : ∀ y, M y → Mx M v w w1 y := fun y hy => .inl hy
  have K0 := (h.kl0.keepT ho (fun y hy => by
    rcases hT y hy with h1 | ⟨c, h1⟩
    · exact .inl h1
    · exact .inr ⟨c, _, h1, by decide, by decide⟩)).mono up
  have K1 := (h.kl1.keepT ho (fun y hy => by
    rcases hT y hy with h1 | ⟨c, h1⟩
    · exact .inl h1
    · exact .inr ⟨c, _, h1, by decide, by decide⟩)).mono up
  have K2 := (h.kl2.keepT ho (fun y hy => by
    rcases hT y hy with h1 | ⟨c, h1⟩
    · exact .inl h1
    · exact .inr ⟨c, _, h1, by decide, by decide⟩)).mono up
  refine ⟨rfl, k3', h.owned hw K0 K1 K2 K3 ho hS (fun y hy => hy) hG, ho.mono (fun y _ hy => ?_)⟩
  rcases hS y hy with h1 | h1 | h1
  · subst h1; exact h.bl
  · exact h.bM y h1
  · exact hG.bG y h1
end
end Go.Proofs.Qxb6500416a
