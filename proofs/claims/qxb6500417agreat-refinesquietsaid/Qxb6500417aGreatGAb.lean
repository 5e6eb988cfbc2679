/-
  OWN WORK. THE GRAPH: Abort, Room, Next; the format.
-/
import Derived.Test.Qxb6500417aGreatGSv
import Derived.Test.Qxb6500417aGreatTWrt
namespace Go.Proofs.Qxb6500417aGreat
open Go.RowKit Go.PlainAid
set_option linter.unusedSimpArgs false
set_option linter.unusedVariables false

theorem abort_abort {J : Nat → Sl} (h : Inv J) : JEq (abortJ (abortJ J)) (abortJ J) := fun i hi => by
  unfold abortJ
  rcases abort_case (h.st3 i hi) (h.fr i hi) with ⟨e, _⟩ | ⟨e, _⟩
  · rw [e]; rfl
  · generalize abortS (J i) = x at *
    unfold abortS
    rw [if_neg (by omega), if_neg (by omega)]
theorem free_abort (J : Nat → Sl) : frJ J ≤ frJ (abortJ J) := frJ_mono (fun i hi h0 => by
  unfold abortJ abortS
  rw [if_neg (by omega), if_neg (by omega)]; exact h0)
theorem SavI.abort {J : Nat → Sl} {rt : Nat} {S : GA} (h : SavI J rt S) (hI : Inv J) : SavI (abortJ J) rt S := h.congr (abort_abort hI) hI.abort
section
variable {w : World} {g t s d : Nat} {D B : Nat → Nat} {recs : List Rec} {J : Nat → Sl} {rt : Nat} {F : Nat → Prop} {T : Gt} {S : GA}
set_option maxRecDepth 100000 in
set_option maxHeartbeats 2000000 in
theorem gabort_any (h : GR w g t s d D B recs J rt F T S) :
    Calls Tryz.prog 53 #[.pointer (some ⟨g, 0, none⟩)] w fun e w' => e = .returned (.tuple #[]) ∧ ∃ T', GR w' g t s d D B recs (abortJ J) rt F T' S ∧ absG (abortJ J) T' = S ∧ Went w w' g t s d D B recs J (abortJ J) rt rt F [] F := by
  have C1 := hide (tabort_any h.ts)
  have c0 := h.gh.tr.1
  obtain ⟨T0, a1, a2, a3⟩ := h.sv.ex
  have H0 := hide h
  have H1 := hide (And.intro a1 (And.intro a2 a3))
  clear h a1 a2 a3
  go_enter Tryz.func53, Tryz.ntmps53
  go_wp2_with fail
  refine (unhide C1).mono ?_
  rintro e w1 ⟨rfl, hT1, hO1⟩
  have hG1 := (unhide H0).gh.keep hO1 (fun e => by
    rcases e with e | e
    · exact (unhide H0).ap.nt e
    · exact (unhide H0).ap.ns e)
  have C2 := hide (gload_any hT1 hG1 (unhide H0).ap T0 (unhide H1).1 (unhide H1).2.1)
  have HT1 := hide hT1
  have HO1 := hide hO1
  clear C1 hT1 hO1 hG1
  go_wp2_with fail
  refine (unhide C2).mono ?_
  rintro e w2 ⟨rfl, hG2, hO2⟩
  have hT2 := (unhide HT1).keepG (unhide H0).ap hO2
  have RR : Hid (∃ T', GR w2 g t s d D B recs (abortJ J) rt F T' S ∧ absG (abortJ J) T' = S ∧ Went w w2 g t s d D B recs J (abortJ J) rt rt F [] F) := hide ⟨T0, ⟨hT2, hG2, (unhide H0).ap, (unhide H1).1, (unhide H0).sv.abort (unhide H0).gi.inv⟩, (unhide H1).2.2, Went.none (unhide H0).ts hT2 (((unhide HO1).mono (T := fun y => y = g ∨ y = t ∨ y = s ∨ F y) (fun y _ e => by
      rcases e with e | e
      · exact .inr (.inl e)
      · exact .inr (.inr (.inl e)))).trans hO2 (fun y _ e => .inl e))⟩
  clear C2 hG2 hO2 hT2
  go_wp2_with fail
  go_end0
  exact ⟨rfl, unhide RR⟩
theorem groom_any (h : GR w g t s d D B recs J rt F T S) :
    Calls Tryz.prog 91 #[.pointer (some ⟨g, 0, none⟩)] w fun e w' => e = .returned (.int .i64 (frJ J : Nat)) ∧ w = w' := by
  have C1 := hide (tfree_any h.ts)
  have c0 := h.gh.tr.1
  clear h
  go_enter Tryz.func91, Tryz.ntmps91
  go_wp2_with fail
  refine (unhide C1).mono ?_
  rintro e w1 ⟨rfl, rfl⟩
  go_wp2_with fail
  go_ret
  exact ⟨rfl, rfl⟩
theorem gnext_any (h : GH w g t T) :
    Calls Tryz.prog 75 #[.pointer (some ⟨g, 0, none⟩)] w fun e w' => e = .returned (.int .i64 (T.nx : Nat)) ∧ w = w' := by
  have c0 := h.nx_.1
  clear h
  go_enter Tryz.func75, Tryz.ntmps75
  go_wp2_with fail
  go_ret
  exact ⟨rfl, rfl⟩
end
/-- A store that holds nothing. -/
def Blank (J : Nat → Sl) : Prop := ∀ i, In i → J i = Sl.free
def t1S : Sl := ⟨1, 2, [], [], []⟩
def fmT : Gt := { Gt.fresh with aux := 1 }
def fmJ1 (J : Nat → Sl) : Nat → Sl := updT J 1 t1S
def fmJ2 (J : Nat → Sl) : Nat → Sl := updT (fmJ1 J) 2 ⟨1, 4, rdat fmT, [], []⟩
def GA.fresh : GA := ⟨[], 1, [], mainB, 0, 0, []⟩
theorem frJ_blank {J : Nat → Sl} (h : Blank J) : frJ J = 48 := by
  have : frJ J = frJ (fun _ => Sl.free) := frJ_congr (fun i hi => by rw [h i hi])
  rw [this]; decide
theorem wr_blank {J : Nat → Sl} (h : Blank J) : wrJ J [] = (fmJ1 J, 1, 0) := by
  have hf : findT J [] = none := by
    unfold findT
    rw [List.find?_eq_none]
    intro i hi
    simp only [List.mem_range] at hi
    by_cases h0 : i = 0
    · simp [h0]
    · rw [h i ⟨by omega, by omega⟩]; simp [Sl.free, liveS]
  have hl : lowJ J = some 1 := lowJ_eq ⟨by omega, by omega⟩ (by rw [h 1 ⟨by omega, by omega⟩]; rfl) (fun j hj hlt => by have := hj.1; omega)
  have hc : checkE [] = 0 := by rfl
  unfold wrJ
  rw [if_pos hc, if_pos (by simp)]
  have e : bldL (bld 5) J (tp []) [] = (J, [], 0) := by rfl
  show (if (bldL (bld 5) J (tp []) []).2.2 = 0 then finJ (bldL (bld 5) J (tp []) []).1 [] (bldL (bld 5) J (tp []) []).2.1 else _) = _
  rw [e, if_pos rfl]
  unfold finJ
  rw [hf]
  simp only
  rw [hl]
  rfl
theorem fm1_in {J : Nat → Sl} (h : Blank J) : Inv J := by
  refine ⟨fun i hi => ?_, fun i hi _ => h i hi, fun i hi h0 => ?_, fun i hi h0 _ => ?_, fun i hi h0 _ => ?_, fun i hi hl => ?_, fun i hi hl => ?_, fun i j hi _ hl => ?_, fun i j hi _ hl => ?_⟩
  · rw [h i hi]; show 0 ≤ 3; omega
  all_goals
    first
      | (rw [h i hi] at h0; exact absurd rfl h0)
      | (rw [h i hi] at hl; exact absurd hl (by decide))
theorem put_blank {J : Nat → Sl} (h : Blank J) : putJ (fmJ1 J) 4 (rdat fmT) = (fmJ2 J, 2, 0) := by
  have hj : ∀ i, In i → i ≠ 1 → fmJ1 J i = Sl.free := fun i hi hn => by unfold fmJ1; rw [updT_other _ _ _ _ hn]; exact h i hi
  have h1 : fmJ1 J 1 = t1S := updT_same _ _ _
  have hf : findB (fmJ1 J) 4 (rdat fmT) = none := by
    unfold findB
    rw [List.find?_eq_none]
    intro i hi
    simp only [List.mem_range] at hi
    by_cases h0 : i = 0
    · simp [h0]
    · by_cases e1 : i = 1
      · rw [e1, h1]; simp [t1S]
      · rw [hj i ⟨by omega, by omega⟩ e1]; simp [Sl.free, liveS]
  have hl : lowJ (fmJ1 J) = some 2 := lowJ_eq ⟨by omega, by omega⟩ (by rw [hj 2 ⟨by omega, by omega⟩ (by omega)]; rfl) (fun j hj' hlt => by
    have : j = 1 := by have := hj'.1; omega
    rw [this, h1]; decide)
  unfold putJ
  rw [hf]
  simp only
  rw [hl]
  rfl
theorem fm_at {J : Nat → Sl} (h : Blank J) : ∀ i, In i → (i = 1 ∧ fmJ2 J i = t1S) ∨ (i = 2 ∧ fmJ2 J i = ⟨1, 4, rdat fmT, [], []⟩) ∨ fmJ2 J i = Sl.free := fun i hi => by
  unfold fmJ2 fmJ1
  by_cases e2 : i = 2
  · right; left; exact ⟨e2, by rw [e2, updJ_self]⟩
  · rw [updT_other _ _ _ _ e2]
    by_cases e1 : i = 1
    · left; exact ⟨e1, by rw [e1, updJ_self]⟩
    · right; right; rw [updT_other _ _ _ _ e1]; exact h i hi
theorem fm_inv1 {J : Nat → Sl} (h : Blank J) : Inv (fmJ1 J) := by
  refine ((fm1_in h).add (i := 1) ⟨by omega, by omega⟩ (by rw [h 1 ⟨by omega, by omega⟩]; rfl) (s := t1S) rfl ⟨by decide, by decide⟩ (fun _ => ⟨trivial, by simp [t1S], rfl, Fine.nil⟩) (fun e => absurd rfl e) (by simp [t1S]) (fun _ j hj hl => ?_)).1
  rw [h j hj] at hl
  exact absurd hl (by decide)
theorem fm_inv2 {J : Nat → Sl} (h : Blank J) : Inv (fmJ2 J) := by
  refine ((fm_inv1 h).putNew (i := 2) ⟨by omega, by omega⟩ ?_ (by omega) (by omega) (by omega)).1
  unfold fmJ1
  rw [updT_other _ _ _ _ (by omega), h 2 ⟨by omega, by omega⟩]; rfl
theorem fm_gi {J : Nat → Sl} (h : Blank J) : GI (fmJ2 J) 2 fmT ∧ absG (fmJ2 J) fmT = GA.fresh := by
  have hu : ∀ i, ¬ IsC fmT.c i := fun i hi => Bool.noConfusion (show false = true from hi.2)
  have e1 : fmJ2 J 1 = t1S := by rcases fm_at h 1 ⟨by omega, by omega⟩ with ⟨_, e⟩ | ⟨e, _⟩ | e; exact e; omega; unfold fmJ2 fmJ1 at e ⊢; rw [updT_other _ _ _ _ (by omega), updJ_self]
  have e2 : fmJ2 J 2 = ⟨1, 4, rdat fmT, [], []⟩ := updT_same _ _ _
  have hax : IsT (fmJ2 J) fmT.aux := ⟨⟨by decide, by decide⟩, by show liveS (fmJ2 J 1) = true; rw [e1]; rfl, by show (fmJ2 J 1).kd = 2; rw [e1]; rfl⟩
  refine ⟨⟨fm_inv2 h, ⟨rfl, fun i hi => ⟨fun hx => Bool.noConfusion (show false = true from hx), fun hx => ?_⟩, fun _ _ _ => rfl, fun i hi => absurd hi (hu i), fun i hi => absurd hi (hu i), fun i hi => absurd hi (hu i), fun i hi => absurd hi (hu i), fun i hi => absurd hi (hu i), fun i _ hi => absurd hi (hu i)⟩, ⟨by decide, fun k hk => absurd hk (by show ¬ k < 0; omega), fun k l _ hl => absurd hl (by show ¬ l < 0; omega), fun i hi => absurd hi (hu i), fun _ _ => rfl⟩, ⟨by decide, fun k hk => absurd hk (by show ¬ k < 0; omega), fun k l _ hl => absurd hl (by show ¬ l < 0; omega), fun _ _ => rfl, fun _ => ⟨by decide, rfl⟩, fun hx => absurd hx (by decide), .inl rfl⟩, ⟨⟨by omega, by omega⟩, by rw [e2]; rfl, by rw [e2], fun i hi hl hk => ?_⟩, hax, by decide, by decide⟩, ?_⟩
  · rcases fm_at h i hi with ⟨_, e⟩ | ⟨_, e⟩ | e
    · rw [e] at hx; exact absurd hx.2 (by decide)
    · rw [e] at hx; exact absurd hx.2 (by decide)
    · rw [e] at hx; exact absurd hx.1 (by decide)
  · rcases fm_at h i hi with ⟨_, e⟩ | ⟨a, e⟩ | e
    · rw [e] at hk; exact absurd hk (by decide)
    · exact a
    · rw [e] at hl; exact absurd hl (by decide)
  · unfold absG GA.fresh snapJ
    have : (fmJ2 J fmT.aux).lst = [] := by show (fmJ2 J 1).lst = []; rw [e1]; rfl
    rw [this]
    rfl
theorem fm_free {J : Nat → Sl} (h : Blank J) : frJ (comJ (fmJ2 J)) = 46 := by
  have e : frJ (comJ (fmJ2 J)) = frJ (comJ (fmJ2 (fun _ => Sl.free))) := frJ_congr (fun i hi => by
    have : fmJ2 J i = fmJ2 (fun _ => Sl.free) i := by
      unfold fmJ2 fmJ1 updT
      split
      · rfl
      · split
        · rfl
        · exact h i hi
    unfold comJ
    rw [this])
  rw [e]; decide
end Go.Proofs.Qxb6500417aGreat
