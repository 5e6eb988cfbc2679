/-
  OWN WORK. THE INDEX: lawful lists, in plain terms.
-/
import Derived.Test.Qxb6500418aIList
namespace Go.Proofs.Qxb6500418a
open Go.RowKit Go.PlainAid
set_option linter.unusedSimpArgs false
set_option linter.unusedVariables false

def GoodF (f : Fl) : Prop := goodB (pth f) = true ∧ 0 ≤ f.mode ∧ f.mode ≤ 3 ∧ f.data.size ≤ 180
structure Law (L : List Fl) : Prop where
  good : ∀ f ∈ L, GoodF f
  srt : L.Pairwise (fun a b => bl (pth a) (pth b) = true)
  ncl : ∀ f ∈ L, ∀ g ∈ L, clashB (pth f) (pth g) = false
theorem clashB_comm (p q : Str) : clashB p q = clashB q p := by unfold clashB; rw [Bool.or_comm]
theorem clashB_self (p : Str) : clashB p p = false := by
  cases h : clashB p p with
  | false => rfl
  | true =>
    rw [clashB_iff] at h
    have : p ++ [47] <+: p := h.elim id id
    have := this.length_le
    simp at this
    omega
theorem Law.nil : Law [] := ⟨fun f hf => by simp at hf, List.Pairwise.nil, fun f hf => by simp at hf⟩
theorem law_snoc {A : List Fl} {f : Fl} : Law (A ++ [f]) ↔ Law A ∧ GoodF f ∧ (∀ g ∈ A, bl (pth g) (pth f) = true) ∧ ∀ g ∈ A, clashB (pth g) (pth f) = false := by
  constructor
  · intro h
    have hp := List.pairwise_append.1 h.srt
    refine ⟨⟨fun g hg => h.good g (by simp [hg]), hp.1, fun g hg k hk => h.ncl g (by simp [hg]) k (by simp [hk])⟩, h.good f (by simp), fun g hg => hp.2.2 g hg f (by simp), fun g hg => h.ncl g (by simp [hg]) f (by simp)⟩
  · rintro ⟨h, hf, hs, hc⟩
    refine ⟨fun g hg => ?_, ?_, fun g hg k hk => ?_⟩
    · simp at hg
      rcases hg with hg | rfl
      · exact h.good g hg
      · exact hf
    · refine List.pairwise_append.2 ⟨h.srt, by simp, fun a ha b hb => ?_⟩
      simp at hb
      rw [hb]
      exact hs a ha
    · simp at hg hk
      rcases hg with hg | rfl
      · rcases hk with hk | rfl
        · exact h.ncl g hg k hk
        · exact hc g hg
      · rcases hk with hk | rfl
        · rw [clashB_comm]; exact hc k hk
        · exact clashB_self _
theorem last_least {A : List Fl} {a : Fl} {q : Str} (hs : (A ++ [a]).Pairwise (fun a b => bl (pth a) (pth b) = true)) : bl (pth a) q = true ↔ ∀ g ∈ A ++ [a], bl (pth g) q = true := by
  constructor
  · intro h g hg
    simp at hg
    rcases hg with hg | rfl
    · exact bl_trans _ _ _ ((List.pairwise_append.1 hs).2.2 g hg a (by simp)) h
    · exact h
  · intro h
    exact h a (by simp)
theorem row_law {A : List Fl} {f : Fl} (hA : Law A) : rowErr f.path f.mode f.data.size (A.map Fl.path) = 0 ↔ Law (A ++ [f]) := by
  rw [law_snoc]
  have hsrt : (¬ (A.map Fl.path ≠ [] ∧ ltS ((A.map Fl.path).getLastD ⟨#[]⟩) f.path = false)) ↔ ∀ g ∈ A, bl (pth g) (pth f) = true := by
    rcases List.eq_nil_or_concat A with rfl | ⟨B, a, rfl⟩
    · simp
    · have hs := hA.srt
      rw [List.concat_eq_append] at hs ⊢
      rw [← last_least hs]
      have e : ((B ++ [a]).map Fl.path).getLastD ⟨#[]⟩ = a.path := by simp
      rw [e, ltS_eq]
      simp
      rfl
  have hany : (¬ (A.map Fl.path).any (fun q => clashB (ls q) (ls f.path)) = true) ↔ ∀ g ∈ A, clashB (pth g) (pth f) = false := by
    rw [List.any_map, Bool.not_eq_true, List.any_eq_false]
    simp [pth]
  unfold rowErr GoodF
  by_cases h1 : goodB (ls f.path) = false
  · rw [if_pos h1]
    constructor
    · intro h; omega
    · rintro ⟨_, hg, _⟩
      have := hg.1
      unfold pth at this
      rw [h1] at this
      cases this
  · rw [if_neg h1]
    have h1' : goodB (pth f) = true := by unfold pth; simpa using h1
    by_cases h2 : f.mode < 0 ∨ 3 < f.mode
    · rw [if_pos h2]
      constructor
      · intro h; omega
      · rintro ⟨_, hg, _⟩; omega
    · rw [if_neg h2]
      by_cases h3 : 180 < f.data.size
      · rw [if_pos h3]
        constructor
        · intro h; omega
        · rintro ⟨_, hg, _⟩; omega
      · rw [if_neg h3]
        by_cases h4 : A.map Fl.path ≠ [] ∧ ltS ((A.map Fl.path).getLastD ⟨#[]⟩) f.path = false
        · rw [if_pos h4]
          constructor
          · intro h; omega
          · rintro ⟨_, _, hs, _⟩; exact absurd h4 (hsrt.2 hs)
        · rw [if_neg h4]
          by_cases h5 : (A.map Fl.path).any (fun q => clashB (ls q) (ls f.path)) = true
          · rw [if_pos h5]
            constructor
            · intro h; omega
            · rintro ⟨_, _, _, hc⟩; exact absurd h5 (hany.2 hc)
          · rw [if_neg h5]
            exact ⟨fun _ => ⟨hA, ⟨h1', by omega, by omega, by omega⟩, hsrt.1 h4, hany.1 h5⟩, fun _ => rfl⟩
theorem chk_law : ∀ {l A : List Fl}, Law A → (chkF l (A.map Fl.path) = 0 ↔ Law (A ++ l))
  | [], A, hA => by
    rw [List.append_nil]
    exact ⟨fun _ => hA, fun _ => rfl⟩
  | f :: r, A, hA => by
    have hrow := row_law (f := f) hA
    unfold chkF
    have e : A ++ f :: r = (A ++ [f]) ++ r := by simp
    by_cases h : rowErr f.path f.mode f.data.size (A.map Fl.path) = 0
    · rw [if_pos h]
      have hA2 := hrow.1 h
      have := chk_law (l := r) hA2
      rw [List.map_append] at this
      rw [e]
      exact this
    · rw [if_neg h]
      refine ⟨fun h2 => absurd h2 h, fun h2 => absurd (hrow.2 ?_) h⟩
      rw [e] at h2
      have hp := List.pairwise_append.1 h2.srt
      exact ⟨fun g hg => h2.good g (List.mem_append_left _ hg), hp.1, fun g hg k hk => h2.ncl g (List.mem_append_left _ hg) k (List.mem_append_left _ hk)⟩
theorem checkF_law (l : List Fl) : checkF l = 0 ↔ Lawful l := by
  unfold checkF
  by_cases h : 8 < l.length
  · rw [if_pos h]
    exact ⟨fun h => by omega, fun h2 => by have := h2.cnt; omega⟩
  · rw [if_neg h]
    have := chk_law (l := l) Law.nil
    rw [List.nil_append] at this
    refine Iff.trans this ⟨fun h2 => ⟨by omega, h2.good, h2.srt, h2.ncl⟩, fun h2 => ⟨h2.good, h2.srt, h2.ncl⟩⟩
theorem withL_end {A : List Fl} {f : Fl} (h : Law (A ++ [f])) : withL A f = A ++ [f] := by
  obtain ⟨hA, _, hs, _⟩ := law_snoc.1 h
  refine sorted_ext (withL_sorted hA.srt) h.srt (fun g => ?_)
  rw [withL_mem hA.srt]
  simp
  constructor
  · rintro (rfl | ⟨h1, _⟩)
    · exact .inr rfl
    · exact .inl h1
  · rintro (h1 | rfl)
    · refine .inr ⟨h1, fun e => ?_⟩
      have := hs g h1
      rw [e, bl_irr] at this
      cases this
    · exact .inl rfl
end Go.Proofs.Qxb6500418a
