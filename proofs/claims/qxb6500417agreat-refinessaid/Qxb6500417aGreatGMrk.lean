/-
  OWN WORK. THE GRAPH: what a tree names, plain; members.
-/
import Derived.Test.Qxb6500417aGreatGLog
import Derived.Test.Qxb6500417aGreatGMbr
namespace Go.Proofs.Qxb6500417aGreat
open Go.RowKit Go.PlainAid
set_option linter.unusedSimpArgs false
set_option linter.unusedVariables false

/-- id is the tree i, or is named by it, directly or through subtrees. -/
inductive Desc (J : Nat → Sl) (i : Nat) : Nat → Prop where
  | self : Desc J i i
  | step {t : Nat} {r : Rw} (h : Desc J i t) (hr : r ∈ (J t).rws) : Desc J i r.id
/-- What is marked is closed, but for the trees in X. -/
def ClosX (J : Nat → Sl) (X : Nat → Prop) (s : Nat → Bool) : Prop := ∀ t, s t = true → ¬ X t → ∀ r ∈ (J t).rws, s r.id = true
structure MkP (J : Nat → Sl) (X : Nat → Prop) (i : Nat) (s s' : Nat → Bool) : Prop where
  up : ∀ j, s j = true → s' j = true
  me : s' i = true
  cl : ClosX J X s'
  sd : ∀ j, s' j = true → s j = true ∨ Desc J i j
theorem Desc.trans {J : Nat → Sl} {i j k : Nat} (h1 : Desc J i j) (h2 : Desc J j k) : Desc J i k := by
  induction h2 with
  | self => exact h1
  | step _ hr ih => exact .step ih hr
theorem setB_up (s : Nat → Bool) (i j : Nat) (h : s j = true) : setB s i j = true := by
  unfold setB
  split
  · rfl
  · exact h
theorem setB_me (s : Nat → Bool) (i : Nat) : setB s i i = true := by simp [setB]
theorem setB_sd (s : Nat → Bool) (i j : Nat) (h : setB s i j = true) : s j = true ∨ j = i := by
  unfold setB at h
  by_cases e : j = i
  · exact .inr e
  · rw [if_neg e] at h; exact .inl h
theorem deep_nil {l : List En} (h : Deep 0 l) : l = [] := by
  cases l with
  | nil => rfl
  | cons x r => have := h x (by simp); omega
theorem sub_ne {l : List En} {a : List UInt8} {sub : List En} (h : Tp.d a sub ∈ tp l) : sub ≠ [] := (can_mem (tp_canon l) _ h).2
section
variable {J : Nat → Sl}
/-- Rows one by one. -/
theorem mk_rows (hI : Inv J) {n : Nat} (ih : ∀ (X : Nat → Prop) (i : Nat) (s : Nat → Bool), IsT J i → Deep n (J i).lst → (J i).lst ≠ [] → ClosX J X s → MkP J X i s (markP n J i s)) {i : Nat} (hi : IsT J i) (hd : Deep (n + 1) (J i).lst) (X : Nat → Prop) (hXi : X i) :
    ∀ (rs : List Rw) (s : Nat → Bool), (∀ r ∈ rs, r ∈ (J i).rws) → ClosX J X s →
      (∀ j, s j = true → (rs.foldl (fun s r => if r.dir = true then markP n J r.id s else setB s r.id) s) j = true) ∧ ClosX J X (rs.foldl (fun s r => if r.dir = true then markP n J r.id s else setB s r.id) s) ∧ (∀ r ∈ rs, (rs.foldl (fun s r => if r.dir = true then markP n J r.id s else setB s r.id) s) r.id = true) ∧ (∀ j, (rs.foldl (fun s r => if r.dir = true then markP n J r.id s else setB s r.id) s) j = true → s j = true ∨ Desc J i j)
  | [], s, _, hc => ⟨fun _ h => h, hc, fun r hr => by simp at hr, fun _ h => .inl h⟩
  | r :: rs, s, hm, hc => by
    have hrm := hm r (by simp)
    have hT := hI.tr i hi.1 (liveS_ne hi.2.1) hi.2.2
    obtain ⟨k, hk, hrk⟩ := List.getElem_of_mem hrm
    have hlen := hT.rel.len
    have hrel := hT.rel.get k (by omega) hk
    have hlv := hI.lv i hi.1 hi.2.1 r hrm
    rw [List.foldl_cons]
    obtain ⟨s1, hs1⟩ : ∃ s1, s1 = (if r.dir = true then markP n J r.id s else setB s r.id) := ⟨_, rfl⟩
    rw [← hs1]
    have key : (∀ j, s j = true → s1 j = true) ∧ ClosX J X s1 ∧ s1 r.id = true ∧ (∀ j, s1 j = true → s j = true ∨ Desc J i j) := by
      cases hq : (tp (J i).lst)[k]'(by omega) with
      | f e =>
        rw [hq, hrk] at hrel
        obtain ⟨h1, _, _, _, h5⟩ := hrel
        rw [if_neg (by rw [h1]; simp)] at hs1
        rw [hs1]
        have hnil : (J r.id).rws = [] := (hI.nt r.id hlv.1 (liveS_ne hlv.2) (by omega)).2
        refine ⟨setB_up s r.id, fun t ht hx q hqm => ?_, setB_me s r.id, fun j hj => ?_⟩
        · rcases setB_sd s r.id t ht with e | e
          · exact setB_up s r.id _ (hc t e hx q hqm)
          · rw [e, hnil] at hqm; simp at hqm
        · rcases setB_sd s r.id j hj with e | e
          · exact .inl e
          · rw [e]; exact .inr (.step .self hrm)
      | d a sub =>
        have hmem : Tp.d a sub ∈ tp (J i).lst := hq ▸ List.getElem_mem _
        rw [hq, hrk] at hrel
        obtain ⟨h1, _, _, h4, h5⟩ := hrel
        rw [if_pos h1] at hs1
        rw [hs1]
        have hds := Deep.sub hd hmem
        rw [← h5] at hds
        have hne : (J r.id).lst ≠ [] := by rw [h5]; exact sub_ne hmem
        have hP := ih X r.id s ⟨hlv.1, hlv.2, h4⟩ hds hne hc
        refine ⟨hP.up, hP.cl, hP.me, fun j hj => ?_⟩
        rcases hP.sd j hj with e | e
        · exact .inl e
        · exact .inr ((Desc.step .self hrm).trans e)
    obtain ⟨k1, k2, k3, k4⟩ := key
    obtain ⟨m1, m2, m3, m4⟩ := mk_rows hI ih hi hd X hXi rs s1 (fun q hq => hm q (by simp [hq])) k2
    refine ⟨fun j hj => m1 j (k1 j hj), m2, fun q hq => ?_, fun j hj => ?_⟩
    · rcases List.mem_cons.1 hq with e | e
      · rw [e]; exact m1 _ k3
      · exact m3 q e
    · rcases m4 j hj with e | e
      · exact k4 j e
      · exact .inr e
theorem markP_ok (hI : Inv J) : ∀ (n : Nat) (X : Nat → Prop) (i : Nat) (s : Nat → Bool), IsT J i → Deep n (J i).lst → (J i).lst ≠ [] ∨ n ≠ 0 → ClosX J X s → MkP J X i s (markP n J i s)
  | 0, X, i, s, _, hd, h, _ => by
    rcases h with h | h
    · exact absurd (deep_nil hd) h
    · exact absurd rfl h
  | n + 1, X, i, s, hi, hd, _, hc => by
    unfold markP
    by_cases hs : s i = true
    · rw [if_pos hs]
      exact ⟨fun _ h => h, hs, hc, fun _ h => .inl h⟩
    · rw [if_neg hs]
      obtain ⟨m1, m2, m3, m4⟩ := mk_rows hI (n := n) (fun X j s hj hdj hn hcj => markP_ok hI n X j s hj hdj (.inl hn) hcj) hi hd (fun j => X j ∨ j = i) (.inr rfl) (J i).rws (setB s i) (fun _ h => h) (fun t ht hx q hq => by
        rcases setB_sd s i t ht with e | e
        · exact setB_up s i _ (hc t e (fun hh => hx (.inl hh)) q hq)
        · exact absurd (.inr e) hx)
      refine ⟨fun j hj => m1 j (setB_up s i j hj), m1 i (setB_me s i), fun t ht hx q hq => ?_, fun j hj => ?_⟩
      · by_cases e : t = i
        · rw [e] at hq; exact m3 q hq
        · exact m2 t ht (fun hh => hh.elim hx e) q hq
      · rcases m4 j hj with e | e
        · rcases setB_sd s i j e with e | e
          · exact .inl e
          · rw [e]; exact .inr .self
        · exact .inr e
end
end Go.Proofs.Qxb6500417aGreat
