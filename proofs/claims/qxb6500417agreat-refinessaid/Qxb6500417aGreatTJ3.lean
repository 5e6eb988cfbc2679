/-
  OWN WORK. THE TREE: Commit, Abort, Drop and WriteTree, plain.
-/
import Derived.Test.Qxb6500417aGreatTJ2
namespace Go.Proofs.Qxb6500417aGreat
open Go.RowKit Go.PlainAid
set_option linter.unusedSimpArgs false
set_option linter.unusedVariables false

def stS (s : Sl) (x : Nat) : Sl := { s with st := x }
def abortS (s : Sl) : Sl := if s.st = 1 then Sl.free else if s.st = 3 then stS s 2 else s
def comS (s : Sl) : Sl := if s.st = 1 then stS s 2 else if s.st = 3 then Sl.free else s
def dropS (s : Sl) : Sl := if s.st = 1 then Sl.free else stS s 3
/-- What a slot keeps whatever its state. -/
structure Kept (s t : Sl) : Prop where
  kd : t.kd = s.kd
  dat : t.dat = s.dat
  lst : t.lst = s.lst
  rws : t.rws = s.rws
theorem Kept.refl (s : Sl) : Kept s s := ⟨rfl, rfl, rfl, rfl⟩
theorem Kept.st (s : Sl) (x : Nat) : Kept s (stS s x) := ⟨rfl, rfl, rfl, rfl⟩
theorem free_st {s : Sl} (h : s = Sl.free) : s.st = 0 := by rw [h]; rfl
theorem free_live : liveS Sl.free = false := rfl
theorem free_last : lastS Sl.free = false := rfl
theorem Inv.map {J K : Nat → Sl} (h : Inv J) (hK : ∀ i, In i → K i = Sl.free ∨ ((K i).st ≠ 0 ∧ (K i).st ≤ 3 ∧ (J i).st ≠ 0 ∧ Kept (J i) (K i)))
    (lv : ∀ i, In i → liveS (K i) = true → ∀ r ∈ (J i).rws, In r.id ∧ liveS (K r.id) = true) (ls : ∀ i, In i → lastS (K i) = true → ∀ r ∈ (J i).rws, In r.id ∧ lastS (K r.id) = true)
    (ul : ∀ i j, In i → In j → liveS (K i) = true → liveS (K j) = true → (J i).kd = 2 → (J j).kd = 2 → (J i).lst = (J j).lst → i = j)
    (ull : ∀ i j, In i → In j → lastS (K i) = true → lastS (K j) = true → (J i).kd = 2 → (J j).kd = 2 → (J i).lst = (J j).lst → i = j) : Inv K := by
  have kp : ∀ i, In i → (K i).st ≠ 0 → (K i).st ≤ 3 ∧ (J i).st ≠ 0 ∧ Kept (J i) (K i) := fun i hi h0 => by
    rcases hK i hi with e | e
    · exact absurd (free_st e) h0
    · exact e.2
  refine ⟨?_, ?_, ?_, ?_, ?_, ?_, ?_, ?_, ?_⟩
  · intro i hi
    rcases hK i hi with e | e
    · rw [free_st e]; omega
    · exact e.2.1
  · intro i hi h0
    rcases hK i hi with e | e
    · exact e
    · exact absurd h0 e.1
  · intro i hi h0
    obtain ⟨_, h1, h2⟩ := kp i hi h0
    rw [h2.kd]; exact h.kd i hi h1
  · intro i hi h0 hk
    obtain ⟨h3, h1, h2⟩ := kp i hi h0
    rw [h2.kd] at hk
    have ht := h.tr i hi h1 hk
    refine ⟨?_, by rw [h2.rws]; exact ht.wf, by rw [h2.dat, h2.rws]; exact ht.dat, by rw [h2.lst]; exact ht.fine⟩
    rw [h2.lst, h2.rws]
    refine ht.rel.congr (fun r hr => ?_)
    have hin : In r.id ∧ (K r.id).st ≠ 0 := by
      rcases st_cases h3 h0 with hh | hh
      · have := lv i hi hh r hr; exact ⟨this.1, liveS_ne this.2⟩
      · have := ls i hi hh r hr; exact ⟨this.1, lastS_ne this.2⟩
    have := (kp r.id hin.1 hin.2).2.2
    exact ⟨this.kd, this.lst⟩
  · intro i hi h0 hk
    obtain ⟨h3, h1, h2⟩ := kp i hi h0
    rw [h2.kd] at hk
    rw [h2.lst, h2.rws]
    exact h.nt i hi h1 hk
  · intro i hi hl r hr
    rw [(kp i hi (liveS_ne hl)).2.2.rws] at hr
    exact lv i hi hl r hr
  · intro i hi hl r hr
    rw [(kp i hi (lastS_ne hl)).2.2.rws] at hr
    exact ls i hi hl r hr
  · intro i j hi hj h1 h2 h3 h4 h5
    have a := (kp i hi (liveS_ne h1)).2.2
    have b := (kp j hj (liveS_ne h2)).2.2
    rw [a.kd] at h3
    rw [b.kd] at h4
    rw [a.lst, b.lst] at h5
    exact ul i j hi hj h1 h2 h3 h4 h5
  · intro i j hi hj h1 h2 h3 h4 h5
    have a := (kp i hi (lastS_ne h1)).2.2
    have b := (kp j hj (lastS_ne h2)).2.2
    rw [a.kd] at h3
    rw [b.kd] at h4
    rw [a.lst, b.lst] at h5
    exact ull i j hi hj h1 h2 h3 h4 h5
theorem abort_case {s : Sl} (h3 : s.st ≤ 3) (hf : s.st = 0 → s = Sl.free) : (abortS s = Sl.free ∧ lastS s = false) ∨ ((abortS s).st = 2 ∧ s.st ≠ 0 ∧ Kept s (abortS s) ∧ lastS s = true) := by
  unfold abortS
  by_cases h1 : s.st = 1
  · rw [if_pos h1]
    exact .inl ⟨rfl, by simp [lastS, h1]⟩
  · rw [if_neg h1]
    by_cases h4 : s.st = 3
    · rw [if_pos h4]
      exact .inr ⟨rfl, by omega, Kept.st _ _, by simp [lastS, h4]⟩
    · rw [if_neg h4]
      by_cases h0 : s.st = 0
      · exact .inl ⟨hf h0, by simp [lastS, h0]⟩
      · have : s.st = 2 := by omega
        exact .inr ⟨this, h0, Kept.refl _, by simp [lastS, this]⟩
theorem com_case {s : Sl} (h3 : s.st ≤ 3) (hf : s.st = 0 → s = Sl.free) : (comS s = Sl.free ∧ liveS s = false) ∨ ((comS s).st = 2 ∧ s.st ≠ 0 ∧ Kept s (comS s) ∧ liveS s = true) := by
  unfold comS
  by_cases h1 : s.st = 1
  · rw [if_pos h1]
    exact .inr ⟨rfl, by omega, Kept.st _ _, by simp [liveS, h1]⟩
  · rw [if_neg h1]
    by_cases h4 : s.st = 3
    · rw [if_pos h4]
      exact .inl ⟨rfl, by simp [liveS, h4]⟩
    · rw [if_neg h4]
      by_cases h0 : s.st = 0
      · exact .inl ⟨hf h0, by simp [liveS, h0]⟩
      · have : s.st = 2 := by omega
        exact .inr ⟨this, h0, Kept.refl _, by simp [liveS, this]⟩
theorem two_both {s : Sl} (h : s.st = 2) : liveS s = true ∧ lastS s = true := by simp [liveS, lastS, h]
theorem Inv.abort {J : Nat → Sl} (h : Inv J) : Inv (fun i => abortS (J i)) := by
  have c := fun i hi => abort_case (h.st3 i hi) (h.fr i hi)
  have lv : ∀ i, In i → (liveS (abortS (J i)) = true ∨ lastS (abortS (J i)) = true) → lastS (J i) = true := fun i hi hl => by
    rcases c i hi with e | e
    · rw [e.1] at hl; rcases hl with hl | hl <;> cases hl
    · exact e.2.2.2
  have bk : ∀ i, In i → lastS (J i) = true → liveS (abortS (J i)) = true ∧ lastS (abortS (J i)) = true := fun i hi hl => by
    rcases c i hi with e | e
    · rw [e.2] at hl; cases hl
    · exact two_both e.1
  refine h.map (fun i hi => ?_) ?_ ?_ ?_ ?_
  · rcases c i hi with e | e
    · exact .inl e.1
    · exact .inr ⟨by show (abortS (J i)).st ≠ 0; omega, by show (abortS (J i)).st ≤ 3; omega, e.2.1, e.2.2.1⟩
  · intro i hi hl r hr
    have := h.ls i hi (lv i hi (.inl hl)) r hr
    exact ⟨this.1, (bk r.id this.1 this.2).1⟩
  · intro i hi hl r hr
    have := h.ls i hi (lv i hi (.inr hl)) r hr
    exact ⟨this.1, (bk r.id this.1 this.2).2⟩
  · intro i j hi hj h1 h2
    exact h.ull i j hi hj (lv i hi (.inl h1)) (lv j hj (.inl h2))
  · intro i j hi hj h1 h2
    exact h.ull i j hi hj (lv i hi (.inr h1)) (lv j hj (.inr h2))
theorem Inv.commit {J : Nat → Sl} (h : Inv J) : Inv (fun i => comS (J i)) := by
  have c := fun i hi => com_case (h.st3 i hi) (h.fr i hi)
  have lv : ∀ i, In i → (liveS (comS (J i)) = true ∨ lastS (comS (J i)) = true) → liveS (J i) = true := fun i hi hl => by
    rcases c i hi with e | e
    · rw [e.1] at hl; rcases hl with hl | hl <;> cases hl
    · exact e.2.2.2
  have bk : ∀ i, In i → liveS (J i) = true → liveS (comS (J i)) = true ∧ lastS (comS (J i)) = true := fun i hi hl => by
    rcases c i hi with e | e
    · rw [e.2] at hl; cases hl
    · exact two_both e.1
  refine h.map (fun i hi => ?_) ?_ ?_ ?_ ?_
  · rcases c i hi with e | e
    · exact .inl e.1
    · exact .inr ⟨by show (comS (J i)).st ≠ 0; omega, by show (comS (J i)).st ≤ 3; omega, e.2.1, e.2.2.1⟩
  · intro i hi hl r hr
    have := h.lv i hi (lv i hi (.inl hl)) r hr
    exact ⟨this.1, (bk r.id this.1 this.2).1⟩
  · intro i hi hl r hr
    have := h.lv i hi (lv i hi (.inr hl)) r hr
    exact ⟨this.1, (bk r.id this.1 this.2).2⟩
  · intro i j hi hj h1 h2
    exact h.ul i j hi hj (lv i hi (.inl h1)) (lv j hj (.inl h2))
  · intro i j hi hj h1 h2
    exact h.ul i j hi hj (lv i hi (.inr h1)) (lv j hj (.inr h2))
/-- A live tree names i. -/
def busy (J : Nat → Sl) (i : Nat) : Prop := ∃ t, In t ∧ liveS (J t) = true ∧ ∃ r ∈ (J t).rws, r.id = i
theorem Inv.drop {J : Nat → Sl} (h : Inv J) {i : Nat} (hi : In i) (hl : liveS (J i) = true) (hb : ¬ busy J i) : Inv (updT J i (dropS (J i))) := by
  have cas : ∀ j, j = i ∨ (j ≠ i ∧ updT J i (dropS (J i)) j = J j) := fun j => by
    by_cases e : j = i
    · exact .inl e
    · exact .inr ⟨e, updT_other _ _ _ _ e⟩
  have at_ : updT J i (dropS (J i)) i = dropS (J i) := updJ_self
  have nl : liveS (dropS (J i)) = false := by
    unfold dropS
    split
    · rfl
    · simp [liveS, stS]
  have la : lastS (dropS (J i)) = lastS (J i) := by
    rw [liveS_iff] at hl
    unfold dropS
    rcases hl with e | e
    · rw [if_pos e]; simp [lastS, Sl.free, e]
    · rw [if_neg (by omega)]; simp [lastS, stS, e]
  have lv : ∀ j, In j → liveS (updT J i (dropS (J i)) j) = true → j ≠ i ∧ liveS (J j) = true := fun j hj hh => by
    rcases cas j with e | ⟨e, e'⟩
    · rw [e, at_, nl] at hh; cases hh
    · rw [e'] at hh; exact ⟨e, hh⟩
  have ll : ∀ j, lastS (updT J i (dropS (J i)) j) = lastS (J j) := fun j => by
    rcases cas j with e | ⟨e, e'⟩
    · rw [e, at_, la]
    · rw [e']
  refine h.map (fun j hj => ?_) ?_ ?_ ?_ ?_
  · rcases cas j with e | ⟨e, e'⟩
    · rw [e, at_]
      unfold dropS
      by_cases h1 : (J i).st = 1
      · rw [if_pos h1]; exact .inl rfl
      · rw [if_neg h1]; exact .inr ⟨by simp [stS], by simp [stS], liveS_ne hl, Kept.st _ _⟩
    · rw [e']
      by_cases h0 : (J j).st = 0
      · exact .inl (h.fr j hj h0)
      · exact .inr ⟨h0, h.st3 j hj, h0, Kept.refl _⟩
  · intro j hj hh r hr
    obtain ⟨h1, h2⟩ := lv j hj hh
    have := h.lv j hj h2 r hr
    refine ⟨this.1, ?_⟩
    rcases cas r.id with e | ⟨e, e'⟩
    · exact absurd ⟨j, hj, h2, r, hr, e⟩ hb
    · rw [e']; exact this.2
  · intro j hj hh r hr
    rw [ll] at hh
    have := h.ls j hj hh r hr
    exact ⟨this.1, by rw [ll]; exact this.2⟩
  · intro j k hj hk h1 h2
    exact h.ul j k hj hk (lv j hj h1).2 (lv k hk h2).2
  · intro j k hj hk h1 h2
    rw [ll] at h1 h2
    exact h.ull j k hj hk h1 h2
def findT (J : Nat → Sl) (l : List En) : Option Nat := (List.range 49).find? (fun i => i != 0 && (liveS (J i) && ((J i).kd == 2 && decide ((J i).lst = l))))
def lowJ (J : Nat → Sl) : Option Nat := (List.range 49).find? (fun i => i != 0 && (J i).st == 0)
theorem findT_some {J : Nat → Sl} {l : List En} {i : Nat} (h : findT J l = some i) : In i ∧ liveS (J i) = true ∧ (J i).kd = 2 ∧ (J i).lst = l := by
  unfold findT at h
  have h1 := List.find?_some h
  have h2 := List.mem_of_find?_eq_some h
  simp at h1 h2
  exact ⟨⟨by omega, by omega⟩, h1.2.1, h1.2.2.1, h1.2.2.2⟩
theorem findT_none {J : Nat → Sl} {l : List En} (h : findT J l = none) : ∀ j, In j → liveS (J j) = true → (J j).kd = 2 → (J j).lst ≠ l := by
  unfold findT at h
  rw [List.find?_eq_none] at h
  intro j hj h1 h2 h3
  have := h j (by simp; have := hj.2; omega)
  apply this
  have := hj.1
  simp [h1, h2, h3]
  omega
theorem lowJ_some {J : Nat → Sl} {i : Nat} (h : lowJ J = some i) : In i ∧ (J i).st = 0 ∧ ∀ j, In j → j < i → (J j).st ≠ 0 := by
  unfold lowJ at h
  have h1 := List.find?_some h
  have h2 := List.mem_of_find?_eq_some h
  simp at h1 h2
  refine ⟨⟨by omega, by omega⟩, h1.2, fun j hj hlt h0 => ?_⟩
  rw [List.find?_eq_some_iff_getElem] at h
  obtain ⟨_, k, hk, e, hb⟩ := h
  simp at e
  subst e
  have := hb j hlt
  have := hj.1
  simp [h0] at *
  omega
theorem lowJ_none {J : Nat → Sl} (h : lowJ J = none) : ∀ j, In j → (J j).st ≠ 0 := by
  unfold lowJ at h
  rw [List.find?_eq_none] at h
  intro j hj h0
  have := h j (by simp; have := hj.2; omega)
  apply this
  have := hj.1
  simp [h0]
  omega
theorem lowJ_eq {J : Nat → Sl} {i : Nat} (hi : In i) (h0 : (J i).st = 0) (hb : ∀ j, In j → j < i → (J j).st ≠ 0) : lowJ J = some i := by
  cases h : lowJ J with
  | none => exact absurd h0 (lowJ_none h i hi)
  | some k =>
    obtain ⟨h1, h2, h3⟩ := lowJ_some h
    rcases Nat.lt_trichotomy i k with e | e | e
    · exact absurd h0 (h3 i hi e)
    · rw [e]
    · exact absurd h2 (hb k h1 e)
theorem lowJ_full {J : Nat → Sl} (hb : ∀ j, In j → (J j).st ≠ 0) : lowJ J = none := by
  cases h : lowJ J with
  | none => rfl
  | some k => exact absurd (lowJ_some h).2.1 (hb k (lowJ_some h).1)
def finJ (J : Nat → Sl) (l : List En) (rows : List Rw) : (Nat → Sl) × Nat × Nat := match findT J l with
  | some i => (J, i, 0)
  | none => match lowJ J with
    | some i => (updT J i ⟨1, 2, encs rows, l, rows⟩, i, 0)
    | none => (J, 0, 5)
def fileR (e : En) : Rw := ⟨false, e.mode.toNat, e.id.toNat, e.path⟩
def bldL (rec : (Nat → Sl) → List En → (Nat → Sl) × Nat × Nat) : (Nat → Sl) → List Tp → List Rw → (Nat → Sl) × List Rw × Nat
  | J, [], acc => (J, acc, 0)
  | J, .f e :: ts, acc => bldL rec J ts (acc ++ [fileR e])
  | J, .d a sub :: ts, acc => if (rec J sub).2.2 = 0 then bldL rec (rec J sub).1 ts (acc ++ [⟨true, 0, (rec J sub).2.1, a⟩]) else ((rec J sub).1, acc, (rec J sub).2.2)
def bld : Nat → (Nat → Sl) → List En → (Nat → Sl) × Nat × Nat
  | 0, J, _ => (J, 0, 5)
  | n + 1, J, l => if (bldL (bld n) J (tp l) []).2.2 = 0 then finJ (bldL (bld n) J (tp l) []).1 l (bldL (bld n) J (tp l) []).2.1 else ((bldL (bld n) J (tp l) []).1, 0, (bldL (bld n) J (tp l) []).2.2)
end Go.Proofs.Qxb6500417aGreat
