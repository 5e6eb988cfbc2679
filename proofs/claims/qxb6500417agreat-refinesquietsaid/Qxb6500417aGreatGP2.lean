/-
  OWN WORK. THE GRAPH: Save, plain.
-/
import Derived.Test.Qxb6500417aGreatGP1
import Derived.Test.Qxb6500417aGreatTDrp
namespace Go.Proofs.Qxb6500417aGreat
open Go.RowKit Go.PlainAid
set_option linter.unusedSimpArgs false
set_option linter.unusedVariables false

theorem cntTo_mono {p q : Nat → Bool} : ∀ n, (∀ i, i < n → p i = true → q i = true) → cntTo p n ≤ cntTo q n
  | 0, _ => by simp [cntTo]
  | n + 1, h => by
    have ih := cntTo_mono n (fun i hi => h i (by omega))
    have hn := h n (by omega)
    unfold cntTo
    cases hp : p n with
    | false => simp; split <;> omega
    | true => rw [hn hp]; simp; omega
theorem frJ_mono {J J' : Nat → Sl} (h : ∀ i, In i → (J i).st = 0 → (J' i).st = 0) : frJ J ≤ frJ J' := by
  unfold frJ
  apply cntTo_mono
  intro i hi hp
  unfold isFreeS at hp ⊢
  simp only [Bool.and_eq_true, bne_iff_ne, ne_eq, beq_iff_eq] at hp ⊢
  exact ⟨hp.1, h i ⟨by omega, by omega⟩ hp.2⟩
theorem frJ_congr {J J' : Nat → Sl} (h : ∀ i, In i → ((J i).st = 0 ↔ (J' i).st = 0)) : frJ J = frJ J' :=
  Nat.le_antisymm (frJ_mono (fun i hi => (h i hi).1)) (frJ_mono (fun i hi => (h i hi).2))
theorem frJ_full {J : Nat → Sl} (h : ∀ i, In i → (J i).st ≠ 0) : frJ J = 0 := by
  have : frJ J ≤ cntTo (fun _ => false) 49 := by
    unfold frJ
    apply cntTo_mono
    intro i hi hp
    unfold isFreeS at hp
    simp only [Bool.and_eq_true, bne_iff_ne, ne_eq, beq_iff_eq] at hp
    exact absurd hp.2 (h i ⟨by omega, by omega⟩)
  have z : cntTo (fun _ => false) 49 = 0 := by decide
  omega
theorem frJ_le (J : Nat → Sl) : frJ J ≤ 49 := cntTo_le (isFreeS J) 49
/-- What a Put of an object that is no tree does. -/
inductive PutC (J : Nat → Sl) (k : Nat) (dat : List Nat) : Prop where
  | old (i : Nat) (e : putJ J k dat = (J, i, 0)) (hi : In i) (hl : liveS (J i) = true) (hk : (J i).kd = k) (hd : (J i).dat = dat)
  | new (i : Nat) (e : putJ J k dat = (updT J i ⟨1, k, dat, [], []⟩, i, 0)) (hi : In i) (h0 : (J i).st = 0) (hno : ∀ j, In j → liveS (J j) = true → ¬ ((J j).kd = k ∧ (J j).dat = dat))
  | full (e : putJ J k dat = (J, 0, 5)) (hf : ∀ i, In i → (J i).st ≠ 0)
theorem putC (J : Nat → Sl) (k : Nat) (dat : List Nat) : PutC J k dat := by
  cases hF : findB J k dat with
  | some i =>
    obtain ⟨h1, h2, h3, h4⟩ := findB_some hF
    exact .old i (by unfold putJ; rw [hF]) h1 h2 h3 h4
  | none =>
    cases hL : lowJ J with
    | some i =>
      obtain ⟨h1, h2, _⟩ := lowJ_some hL
      exact .new i (by unfold putJ; rw [hF]; simp only; rw [hL]) h1 h2 (findB_none hF)
    | none => exact .full (by unfold putJ; rw [hF]; simp only; rw [hL]) (lowJ_none hL)
theorem Inv.putNew {J : Nat → Sl} (h : Inv J) {i k : Nat} {dat : List Nat} (hi : In i) (h0 : (J i).st = 0) (h1 : 1 ≤ k) (h4 : k ≤ 4) (h2 : k ≠ 2) : Inv (updT J i ⟨1, k, dat, [], []⟩) ∧ Grow J (updT J i ⟨1, k, dat, [], []⟩) :=
  h.add hi h0 rfl ⟨h1, h4⟩ (fun e => absurd e h2) (fun _ => ⟨rfl, rfl⟩) (by simp) (fun e => absurd e h2)
/-- A row of a live tree names a blob or a tree. -/
theorem Inv.rowKind {J : Nat → Sl} (h : Inv J) {i : Nat} (hi : In i) (hl : liveS (J i) = true) {r : Rw} (hr : r ∈ (J i).rws) : (J r.id).kd = 1 ∨ (J r.id).kd = 2 := by
  by_cases hk : (J i).kd = 2
  · have hT := h.tr i hi (liveS_ne hl) hk
    obtain ⟨k, hk', rfl⟩ := List.getElem_of_mem hr
    have hlen := hT.rel.len
    have := hT.rel.get k (by omega) hk'
    cases hq : (tp (J i).lst)[k]'(by omega) with
    | f e => rw [hq] at this; exact .inl this.2.2.2.2
    | d a sub => rw [hq] at this; exact .inr this.2.2.2.1
  · rw [(h.nt i hi (liveS_ne hl) hk).2] at hr; simp at hr
theorem Inv.notBusy {J : Nat → Sl} (h : Inv J) {i : Nat} (h1 : (J i).kd ≠ 1) (h2 : (J i).kd ≠ 2) : ¬ busy J i := by
  rintro ⟨t, ht, hl, r, hr, rfl⟩
  rcases h.rowKind ht hl hr with e | e <;> omega
theorem dropS_live (s : Sl) : liveS (dropS s) = false := by
  unfold dropS
  by_cases h : s.st = 1
  · rw [if_pos h]; rfl
  · rw [if_neg h]; rfl
theorem abort_comJ {J : Nat → Sl} (h : Inv J) : JEq (abortJ (comJ J)) (comJ J) := fun i hi => by
  unfold abortJ comJ
  rcases com_case (h.st3 i hi) (h.fr i hi) with ⟨e, _⟩ | ⟨e, _⟩
  · rw [e]; rfl
  · unfold abortS; rw [if_neg (by omega), if_neg (by omega)]
theorem free_com (J : Nat → Sl) : frJ J ≤ frJ (comJ J) := frJ_mono (fun i hi h0 => by
  unfold comJ comS
  rw [if_neg (by omega), if_neg (by omega)]; exact h0)
theorem free_drop {J : Nat → Sl} {i : Nat} (hl : liveS (J i) = true) : frJ J ≤ frJ (dropJ J i) := frJ_mono (fun j hj h0 => by
  unfold dropJ
  by_cases e : j = i
  · subst e; exact absurd h0 (liveS_ne hl)
  · rw [updT_other _ _ _ _ e]; exact h0)
/-- The state behind a Save whose refs object is new. -/
def savJ (J : Nat → Sl) (i rt : Nat) (dat : List Nat) : Nat → Sl := comJ (dropJ (updT J i ⟨1, 4, dat, [], []⟩) rt)
section
variable {J : Nat → Sl} {rt : Nat} {T : Gt}
theorem GI.saveNew (h : GI J rt T) {i : Nat} {dat : List Nat} (hi : In i) (h0 : (J i).st = 0) : GI (savJ J i rt dat) i T ∧ absG (savJ J i rt dat) T = absG J T ∧ (savJ J i rt dat i).dat = dat ∧ Inv (updT J i ⟨1, 4, dat, [], []⟩) ∧ Inv (dropJ (updT J i ⟨1, 4, dat, [], []⟩) rt) ∧ liveS (updT J i ⟨1, 4, dat, [], []⟩ rt) = true ∧ ¬ busy (updT J i ⟨1, 4, dat, [], []⟩) rt ∧ liveS (dropJ (updT J i ⟨1, 4, dat, [], []⟩) rt i) = true ∧ i ≠ rt := by
  obtain ⟨hI1, hG1⟩ := h.inv.putNew (dat := dat) hi h0 (by omega) (by omega) (by omega : (4 : Nat) ≠ 2)
  have hne : i ≠ rt := fun e => by have := liveS_ne h.rut.rlv; rw [← e] at this; exact this h0
  have er : updT J i ⟨1, 4, dat, [], []⟩ rt = J rt := updT_other _ _ _ _ (fun e => hne e.symm)
  have hlr : liveS (updT J i ⟨1, 4, dat, [], []⟩ rt) = true := by rw [er]; exact h.rut.rlv
  have hnb : ¬ busy (updT J i ⟨1, 4, dat, [], []⟩) rt := hI1.notBusy (by rw [er, h.rut.rkd]; omega) (by rw [er, h.rut.rkd]; omega)
  have hI2 := hI1.drop h.rut.rin hlr hnb
  have e1 : ∀ j, j ≠ rt → j ≠ i → savJ J i rt dat j = comS (J j) := fun j h1 h2 => by
    unfold savJ comJ dropJ
    rw [updT_other _ _ _ _ h1, updT_other _ _ _ _ h2]
  have e2 : savJ J i rt dat i = ⟨2, 4, dat, [], []⟩ := by
    unfold savJ comJ dropJ
    rw [updT_other _ _ _ _ hne, updJ_self]
    rfl
  have e3 : liveS (savJ J i rt dat rt) = false := by
    unfold savJ comJ dropJ
    rw [updJ_self, (comK_live _).1, dropS_live]
  have hlv : liveS (dropJ (updT J i ⟨1, 4, dat, [], []⟩) rt i) = true := by
    unfold dropJ
    rw [updT_other _ _ _ _ hne, updJ_self]
    rfl
  have hR : Res J (savJ J i rt dat) (fun j => j ≠ rt) := by
    refine ⟨fun j hj hk hl => ?_, fun j hj hk hl r hr e => ?_⟩
    · have hji : j ≠ i := fun e => by rw [e] at hl; exact liveS_ne hl h0
      rw [e1 j hk hji]
      exact ⟨by rw [(comK_live _).1]; exact hl, (comK_live _).2 hl⟩
    · have := h.inv.rowKind hj hl hr
      rw [e, h.rut.rkd] at this
      omega
  have hback : ∀ k, k ≠ 4 → ∀ j, In j → liveS (savJ J i rt dat j) = true → (savJ J i rt dat j).kd = k → liveS (J j) = true ∧ (J j).kd = k := fun k hk4 j hj hl hk => by
    have hjr : j ≠ rt := fun e => by rw [e, e3] at hl; cases hl
    have hji : j ≠ i := fun e => by rw [e, e2] at hk; exact hk4 hk.symm
    rw [e1 j hjr hji] at hl hk
    rw [(comK_live _).1] at hl
    exact ⟨hl, by rw [← hk, ((comK_live _).2 hl).kd]⟩
  have hI3 : Inv (savJ J i rt dat) := hI2.commit
  have hroot : RootI (savJ J i rt dat) i := by
    refine ⟨hi, by rw [e2]; rfl, by rw [e2], fun j hj hl hk => ?_⟩
    by_cases e : j = i
    · exact e
    · have hjr : j ≠ rt := fun e => by rw [e, e3] at hl; cases hl
      rw [e1 j hjr e] at hl hk
      rw [(comK_live _).1] at hl
      have := h.rut.r1 j hj hl (by rw [← hk, ((comK_live _).2 hl).kd])
      exact absurd this hjr
  have nr : ∀ j, (J j).kd = 3 ∨ (J j).kd = 2 → j ≠ rt := fun j hk e => by rw [e, h.rut.rkd] at hk; omega
  obtain ⟨a, b⟩ := h.res (rt' := i) hR hI3 (fun j hj => ⟨nr j (.inl ((h.tab.cu j hj.1).1 hj.2).2), nr _ (.inr (h.tab.ct j hj).2.2)⟩) (nr _ (.inr h.ax.2.2)) (hback 3 (by omega)) hroot
  exact ⟨a, b, by rw [e2], hI1, hI2, hlr, hnb, hlv, hne⟩
theorem GI.saveOld (h : GI J rt T) (hd : (J rt).dat = rdat T) : SavI (comJ J) rt (absG J T) := by
  obtain ⟨a, b⟩ := h.com
  have he := abort_comJ h.inv
  obtain ⟨c, e⟩ := a.congr he.symm a.inv.abort
  refine ⟨T, c, ?_, e.trans b⟩
  rw [he rt h.rut.rin]
  show (comS (J rt)).dat = _
  rw [((comK_live _).2 h.rut.rlv).dat, hd]
theorem GI.saveNewS (h : GI J rt T) {i : Nat} (hi : In i) (h0 : (J i).st = 0) : SavI (savJ J i rt (rdat T)) i (absG J T) := by
  obtain ⟨a, b, c, h1, h2, _⟩ := h.saveNew (dat := rdat T) hi h0
  have he : JEq (abortJ (savJ J i rt (rdat T))) (savJ J i rt (rdat T)) := abort_comJ h2
  obtain ⟨x, y⟩ := a.congr he.symm a.inv.abort
  refine ⟨T, x, ?_, y.trans b⟩
  rw [he i hi, c]
theorem save_free {i : Nat} {dat : List Nat} (hi : In i) (h0 : (J i).st = 0) (hl : liveS (updT J i ⟨1, 4, dat, [], []⟩ rt) = true) : frJ J ≤ frJ (savJ J i rt dat) + 1 := by
  have h1 := frJ_upd hi h0 (x := ⟨1, 4, dat, [], []⟩) rfl
  have h2 := free_drop hl
  have h3 := free_com (dropJ (updT J i ⟨1, 4, dat, [], []⟩) rt)
  unfold savJ
  omega
end
end Go.Proofs.Qxb6500417aGreat
