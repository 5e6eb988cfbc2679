/-
  OWN WORK. THE TREE: what the observers show settles the state.
-/
import Derived.Test.Qxb6500417aGreatTRd
import Derived.Test.Qxb6500417aGreatTDrp
namespace Go.Proofs.Qxb6500417aGreat
open Go.RowKit Go.PlainAid
set_option linter.unusedSimpArgs false
set_option linter.unusedVariables false

/-- What the observers show of two states is the same. -/
structure View2 (J J' : Nat → Sl) : Prop where
  k : ∀ i : Nat, In i → tgK J i = tgK J' i
  d : ∀ i : Nat, In i → tgD J i = tgD J' i
  e : ∀ i : Nat, In i → tgE J i = tgE J' i
  l : ∀ i : Nat, In i → trL J i = trL J' i
theorem idle_live {J : Nat → Sl} (h : ∀ i, In i → (J i).st = 0 ∨ (J i).st = 2) {i : Nat} (hi : In i) : liveS (J i) = true ↔ (J i).st = 2 := by
  rw [liveS_iff]
  have := h i hi
  omega
theorem RelL.det2 {J J' : Nat → Sl} (hI' : Inv J') : ∀ {ts : List Tp} {rs rs' : List Rw}, RelL J ts rs → RelL J' ts rs' → (∀ r ∈ rs, In r.id ∧ liveS (J' r.id) = true ∧ (J' r.id).kd = (J r.id).kd ∧ (J' r.id).lst = (J r.id).lst) → (∀ r ∈ rs', In r.id ∧ liveS (J' r.id) = true) → rs = rs'
  | [], [], [], _, _, _, _ => rfl
  | t :: ts, r :: rs, r' :: rs', h, h', hl, hl' => by
    have h1 := RelL.det2 hI' h.2 h'.2 (fun x hx => hl x (by simp [hx])) (fun x hx => hl' x (by simp [hx]))
    rw [h1]
    congr 1
    obtain ⟨i1, i2, i3, i4⟩ := hl r (by simp)
    obtain ⟨j1, j2⟩ := hl' r' (by simp)
    obtain ⟨rd, rm, ri, rn⟩ := r
    obtain ⟨sd, sm, si, sn⟩ := r'
    have a1 := h.1
    have a2 := h'.1
    simp only at i1 i2 i3 i4 j1 j2
    cases t with
    | f e =>
      obtain ⟨b1, b2, b3, b4, _⟩ := a1
      obtain ⟨c1, c2, c3, c4, _⟩ := a2
      simp only at b1 b2 b3 b4 c1 c2 c3 c4
      have e3 : ri = si := by omega
      have e4 : rm = sm := by omega
      rw [b1, b2, c1, c2, e3, e4]
    | d a sub =>
      obtain ⟨b1, b2, b3, b4, b5⟩ := a1
      obtain ⟨c1, c2, c3, c4, c5⟩ := a2
      simp only at b1 b2 b3 b4 b5 c1 c2 c3 c4 c5
      have e3 : ri = si := hI'.ul ri si i1 j1 i2 j2 (by rw [i3]; exact b4) c4 (by rw [i4, b5, c5])
      rw [b1, b2, b3, c1, c2, c3, e3]
  | [], _ :: _, _, h, _, _, _ => h.elim
  | _ :: _, [], _, h, _, _, _ => h.elim
  | [], [], _ :: _, _, h, _, _ => h.elim
  | _ :: _, _ :: _, [], _, h, _, _ => h.elim
theorem View2.eq {J J' : Nat → Sl} (h : View2 J J') (hI : Inv J) (hI' : Inv J') (hd : ∀ i, In i → (J i).st = 0 ∨ (J i).st = 2) (hd' : ∀ i, In i → (J' i).st = 0 ∨ (J' i).st = 2) : JEq J J' := by
  have lv : ∀ i, In i → liveS (J i) = liveS (J' i) := fun i hi => by
    have := h.e i hi
    unfold tgE at this
    rw [liveJ_nat hi, liveJ_nat hi] at this
    cases h1 : liveS (J i) <;> cases h2 : liveS (J' i) <;> simp [h1, h2] at this ⊢
  have kd : ∀ i, In i → liveS (J i) = true → (J i).kd = (J' i).kd := fun i hi hl => by
    have := h.k i hi
    have hl' : liveS (J' i) = true := by rw [← lv i hi]; exact hl
    unfold tgK at this
    rw [liveJ_nat hi, liveJ_nat hi, if_pos hl, if_pos hl'] at this
    simpa using this
  have ls : ∀ i, In i → liveS (J i) = true → (J i).lst = (J' i).lst := fun i hi hl => by
    have hl' : liveS (J' i) = true := by rw [← lv i hi]; exact hl
    by_cases hk : (J i).kd = 2
    · have hk' : (J' i).kd = 2 := by rw [← kd i hi hl]; exact hk
      have := h.l i hi
      have e1 : trE J (i : Int) = 0 := by unfold trE; rw [liveJ_nat hi, hl]; simp [hk]
      have e2 : trE J' (i : Int) = 0 := by unfold trE; rw [liveJ_nat hi, hl']; simp [hk']
      unfold trL at this
      rw [if_pos e1, if_pos e2] at this
      simpa using this
    · have hk' : (J' i).kd ≠ 2 := by rw [← kd i hi hl]; exact hk
      rw [(hI.nt i hi (liveS_ne hl) hk).1, (hI'.nt i hi (liveS_ne hl') hk').1]
  intro i hi
  rcases hd i hi with h0 | h2
  · have h0' : (J' i).st = 0 := by
      rcases hd' i hi with e | e
      · exact e
      · have h1 : liveS (J' i) = true := by rw [liveS_iff]; exact .inr e
        rw [← lv i hi, liveS_iff] at h1
        omega
    rw [hI.fr i hi h0, hI'.fr i hi h0']
  · have hl : liveS (J i) = true := by rw [liveS_iff]; exact .inr h2
    have hl' : liveS (J' i) = true := by rw [← lv i hi]; exact hl
    have h2' : (J' i).st = 2 := by
      rcases hd' i hi with e | e
      · rw [liveS_iff] at hl'; omega
      · exact e
    have ek := kd i hi hl
    have el := ls i hi hl
    have er : (J i).rws = (J' i).rws ∧ (J i).dat = (J' i).dat := by
      by_cases hk : (J i).kd = 2
      · have hk' : (J' i).kd = 2 := by rw [← ek]; exact hk
        have t1 := hI.tr i hi (liveS_ne hl) hk
        have t2 := hI'.tr i hi (liveS_ne hl') hk'
        have r2 := t2.rel
        rw [← el] at r2
        have hr : (J i).rws = (J' i).rws := RelL.det2 hI' t1.rel r2 (fun r hr => by
          have h3 := hI.lv i hi hl r hr
          exact ⟨h3.1, by rw [← lv r.id h3.1]; exact h3.2, (kd r.id h3.1 h3.2).symm, (ls r.id h3.1 h3.2).symm⟩) (hI'.lv i hi hl')
        exact ⟨hr, by rw [t1.dat, t2.dat, hr]⟩
      · have hk' : (J' i).kd ≠ 2 := by rw [← ek]; exact hk
        refine ⟨by rw [(hI.nt i hi (liveS_ne hl) hk).2, (hI'.nt i hi (liveS_ne hl') hk').2], ?_⟩
        have := h.d i hi
        have e1 : liveJ J (i : Int) = true := by rw [liveJ_nat hi]; exact hl
        have e2 : liveJ J' (i : Int) = true := by rw [liveJ_nat hi]; exact hl'
        have ei : ((i : Int).toNat) = i := by simp
        unfold tgD at this
        rw [ei, if_pos ⟨e1, hk⟩, if_pos ⟨e2, hk'⟩] at this
        exact this
    calc J i = ⟨(J i).st, (J i).kd, (J i).dat, (J i).lst, (J i).rws⟩ := rfl
      _ = ⟨(J' i).st, (J' i).kd, (J' i).dat, (J' i).lst, (J' i).rws⟩ := by rw [h2, h2', ek, el, er.1, er.2]
      _ = J' i := rfl
theorem abort_idle {J : Nat → Sl} (hI : Inv J) : ∀ i, In i → (abortJ J i).st = 0 ∨ (abortJ J i).st = 2 := fun i hi => by
  have h3 := hI.st3 i hi
  unfold abortJ abortS
  by_cases h1 : (J i).st = 1
  · rw [if_pos h1]; exact .inl rfl
  · rw [if_neg h1]
    by_cases h2 : (J i).st = 3
    · rw [if_pos h2]; exact .inr rfl
    · rw [if_neg h2]; omega
theorem abortJ_abort (J : Nat → Sl) : abortJ (abortJ J) = abortJ J := by
  funext i
  unfold abortJ
  unfold abortS
  by_cases h1 : (J i).st = 1
  · rw [if_pos h1]; rfl
  · rw [if_neg h1]
    by_cases h3 : (J i).st = 3
    · rw [if_pos h3]; rfl
    · rw [if_neg h3, if_neg h1, if_neg h3]
theorem abort_dropS {s : Sl} (hl : liveS s = true) : abortS (dropS s) = abortS s := by
  rw [liveS_iff] at hl
  obtain ⟨st, kd, dat, lst, rws⟩ := s
  simp only at hl
  rcases hl with rfl | rfl <;> rfl
theorem abortJ_drop {J : Nat → Sl} {i : Nat} (hl : liveS (J i) = true) : abortJ (dropJ J i) = abortJ J := by
  funext j
  unfold abortJ dropJ
  by_cases e : j = i
  · rw [e, updJ_self]; exact abort_dropS hl
  · rw [updT_other _ _ _ _ e]
theorem JEq.inv {J J' : Nat → Sl} (h : JEq J J') (hI : Inv J) : Inv J' := by
  have he : ∀ i, In i → J' i = J i := fun i hi => (h i hi).symm
  refine ⟨?_, ?_, ?_, ?_, ?_, ?_, ?_, ?_, ?_⟩
  · intro i hi; rw [he i hi]; exact hI.st3 i hi
  · intro i hi; rw [he i hi]; exact hI.fr i hi
  · intro i hi; rw [he i hi]; exact hI.kd i hi
  · intro i hi h0 hk
    rw [he i hi] at h0 hk ⊢
    have t1 := hI.tr i hi h0 hk
    exact ⟨t1.rel.congr (fun r hr => by rw [he r.id (hI.kid hi h0 hr).1]; exact ⟨rfl, rfl⟩), t1.wf, t1.dat, t1.fine⟩
  · intro i hi; rw [he i hi]; exact hI.nt i hi
  · intro i hi hl r hr
    rw [he i hi] at hl hr
    have := hI.lv i hi hl r hr
    rw [he r.id this.1]
    exact this
  · intro i hi hl r hr
    rw [he i hi] at hl hr
    have := hI.ls i hi hl r hr
    rw [he r.id this.1]
    exact this
  · intro i j hi hj
    rw [he i hi, he j hj]
    exact hI.ul i j hi hj
  · intro i j hi hj
    rw [he i hi, he j hj]
    exact hI.ull i j hi hj
end Go.Proofs.Qxb6500417aGreat
