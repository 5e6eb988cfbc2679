/-
  OWN WORK. THE TREE: what a device shows behind a step that was cut; Put of an object that is no tree.
-/
import Derived.Test.Qxb6500417aGreatTGet
namespace Go.Proofs.Qxb6500417aGreat
open Go.RowKit Go.PlainAid
set_option linter.unusedSimpArgs false
set_option linter.unusedVariables false

/-- What a device shows one who opens it. -/
def Shows (D : Nat → Nat) (rt : Nat) (J : Nat → Sl) : Prop := ∃ po, Img D rt po ∧ Rep po J
def JEq (J J' : Nat → Sl) : Prop := ∀ i, In i → J i = J' i
theorem JEq.refl (J : Nat → Sl) : JEq J J := fun _ _ => rfl
theorem JEq.trans {J J1 J2 : Nat → Sl} (h1 : JEq J J1) (h2 : JEq J1 J2) : JEq J J2 := fun i hi => (h1 i hi).trans (h2 i hi)
theorem JEq.symm {J J1 : Nat → Sl} (h1 : JEq J J1) : JEq J1 J := fun i hi => (h1 i hi).symm
theorem Shows.congr {D : Nat → Nat} {rt : Nat} {J J' : Nat → Sl} (h : Shows D rt J) (he : JEq J J') : Shows D rt J' := by
  obtain ⟨po, h1, h2⟩ := h
  exact ⟨po, h1, fun i hi => by rw [← he i hi]; exact h2 i hi⟩
/-- However many of the block writes news were done, the device shows J. -/
def Cuts (D : Nat → Nat) (news : List Rec) (rt : Nat) (J : Nat → Sl) : Prop := ∀ kk, Shows (replayB D (news.take kk)) rt J
theorem Cuts.nil {D : Nat → Nat} {rt : Nat} {J : Nat → Sl} (h : Shows D rt J) : Cuts D [] rt J := fun kk => by simpa [replayB] using h
theorem Cuts.app {D : Nat → Nat} {n1 n2 : List Rec} {rt : Nat} {J : Nat → Sl} (h1 : Cuts D n1 rt J) (h2 : Cuts (replayB D n1) n2 rt J) : Cuts D (n1 ++ n2) rt J := fun kk => by
  by_cases h : kk ≤ n1.length
  · rw [List.take_append_of_le_length h]
    exact h1 kk
  · have e : (n1 ++ n2).take kk = n1 ++ n2.take (kk - n1.length) := by rw [List.take_append, List.take_of_length_le (by omega)]
    rw [e, replayB_append]
    exact h2 _
theorem Cuts.congr {D : Nat → Nat} {news : List Rec} {rt : Nat} {J J' : Nat → Sl} (h : Cuts D news rt J) (he : JEq J J') : Cuts D news rt J' := fun kk => (h kk).congr he
section
variable {w w' : World} {t s d : Nat} {D B : Nat → Nat} {recs : List Rec} {J : Nat → Sl} {rt : Nat} {F : Nat → Prop}
theorem TS.shows (h : TS w t s d D B recs J rt F) : Shows D rt (abortJ J) := by
  obtain ⟨ob, hO, hR⟩ := h.ex
  exact ⟨_, hO.img, hR.abort⟩
theorem abort_new {J : Nat → Sl} (hI : Inv J) {i : Nat} (hi : In i) (h0 : (J i).st = 0) {x : Sl} (hx : x.st = 1) : JEq (abortJ (updT J i x)) (abortJ J) := fun j hj => by
  unfold abortJ
  by_cases e : j = i
  · rw [e, updJ_self, hI.fr i hi h0]
    unfold abortS
    rw [if_pos hx]
    rfl
  · rw [updT_other _ _ _ _ e]
def findB (J : Nat → Sl) (k : Nat) (dat : List Nat) : Option Nat := (List.range 49).find? (fun i => i != 0 && (liveS (J i) && ((J i).kd == k && decide ((J i).dat = dat))))
theorem findB_some {J : Nat → Sl} {k : Nat} {dat : List Nat} {i : Nat} (h : findB J k dat = some i) : In i ∧ liveS (J i) = true ∧ (J i).kd = k ∧ (J i).dat = dat := by
  unfold findB at h
  have h1 := List.find?_some h
  have h2 := List.mem_of_find?_eq_some h
  simp at h1 h2
  exact ⟨⟨by omega, by omega⟩, h1.2.1, h1.2.2.1, h1.2.2.2⟩
theorem findB_none {J : Nat → Sl} {k : Nat} {dat : List Nat} (h : findB J k dat = none) : ∀ j, In j → liveS (J j) = true → ¬ ((J j).kd = k ∧ (J j).dat = dat) := by
  unfold findB at h
  rw [List.find?_eq_none] at h
  intro j hj h1 h2
  have := h j (by simp; have := hj.2; omega)
  apply this
  have := hj.1
  simp [h1, h2.1, h2.2]
  omega
def putJ (J : Nat → Sl) (k : Nat) (dat : List Nat) : (Nat → Sl) × Nat × Nat := match findB J k dat with
  | some i => (J, i, 0)
  | none => match lowJ J with
    | some i => (updT J i ⟨1, k, dat, [], []⟩, i, 0)
    | none => (J, 0, 5)
theorem kindJ_upd {J : Nat → Sl} {i : Nat} (hi : In i) {x : Sl} (hx : x.st = 1) (j : Nat) : kindJ (updT J i x) j = updT (kindJ J) i x.kd j := by
  unfold kindJ
  by_cases e : j = i
  · subst e
    rw [updJ_self, updT_same, if_pos ⟨by have := hi.1; omega, by rw [liveS_iff]; exact .inl hx⟩]
  · rw [updT_other _ _ _ _ e, updT_other _ _ _ _ e]
theorem cntJ_upd {J : Nat → Sl} {i : Nat} (hi : In i) (h0 : (J i).st = 0) {x : Sl} (hx : x.st = 1) (j : Nat) : ∀ n, cntJ (updT J i x) j n = cntJ J j n + (if i < n then occ x.rws j else 0)
  | 0 => by simp [cntJ]
  | n + 1 => by
    unfold cntJ
    rw [cntJ_upd hi h0 hx j n]
    by_cases e : n = i
    · have c1 : n ≠ 0 ∧ liveS (updT J i x n) = true := ⟨by have := hi.1; omega, by rw [e, updJ_self, liveS_iff]; exact .inl hx⟩
      have c2 : ¬ (n ≠ 0 ∧ liveS (J n) = true) := fun hh => by have := hh.2; rw [liveS_iff, e] at this; omega
      have c3 : ¬ i < n := by omega
      have c4 : i < n + 1 := by omega
      rw [if_pos c1, if_neg c2, if_neg c3, if_pos c4, e, updJ_self]
    · have c0 : updT J i x n = J n := updT_other _ _ _ _ e
      rw [c0]
      by_cases e2 : i < n
      · have c4 : i < n + 1 := by omega
        rw [if_pos e2, if_pos c4]; omega
      · have c4 : ¬ i < n + 1 := by omega
        rw [if_neg e2, if_neg c4]; omega
theorem frJ_upd {J : Nat → Sl} {i : Nat} (hi : In i) (h0 : (J i).st = 0) {x : Sl} (hx : x.st = 1) : frJ J = frJ (updT J i x) + 1 := by
  unfold frJ
  refine cntTo_turn (j := i) ?_ ?_ (fun k hk => ?_) 49 (by have := hi.2; omega)
  · have := hi.1
    simp [isFreeS, h0]; omega
  · simp [isFreeS, updJ_self, hx]
  · unfold isFreeS
    rw [updT_other _ _ _ _ hk]
end
end Go.Proofs.Qxb6500417aGreat
