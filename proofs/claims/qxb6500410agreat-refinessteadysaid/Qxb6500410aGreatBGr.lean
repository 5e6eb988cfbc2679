/-
  OWN WORK. THE B-TREE LAW: the ghost shows S. No Go in sight.
-/
import Derived.Test.Qxb6500410aGreatBVu
import Derived.Test.Qxb6500410aGreatBGc
namespace Go.Proofs.Qxb6500410aGreat
open Go.RowKit Go.PlainAid
set_option linter.unusedSimpArgs false
set_option linter.unusedVariables false

def tagI (i : Nat) (l : List KV) : List Itm := l.map (fun e => ⟨i, e.1, e.2⟩)
def flat (S : Vu) : List Itm := (List.range 8).flatMap (fun i => tagI i ((S i).getD []))
theorem range8 {i : Nat} (hi : i < 8) : List.range 8 = List.range i ++ i :: (List.range (7 - i)).map (fun j => i + 1 + j) := by
  rw [show (8 : Nat) = i + (7 - i + 1) by omega, List.range_add, List.range_succ_eq_map]
  simp [Function.comp_def]
  intro a ha
  omega
theorem flat_len (S : Vu) : (flat S).length = (al8 S).length := by
  unfold flat al8
  rw [List.length_flatMap, List.length_flatMap]
  congr 1
  apply List.map_congr_left
  intro i _
  simp [tagI]
theorem flat_mem {S : Vu} {x : Itm} : x ∈ flat S ↔ x.h < 8 ∧ (x.K, x.V) ∈ (S x.h).getD [] := by
  unfold flat tagI
  simp only [List.mem_flatMap, List.mem_range, List.mem_map]
  constructor
  · rintro ⟨i, hi, e, he, rfl⟩
    exact ⟨hi, he⟩
  · rintro ⟨hi, he⟩
    exact ⟨x.h, hi, _, he, rfl⟩
theorem flat_upd (S : Vu) {i : Nat} (hi : i < 8) : ∃ A B, flat S = A ++ (tagI i ((S i).getD []) ++ B) ∧ (∀ x ∈ A, x.h ≠ i) ∧ (∀ x ∈ B, x.h ≠ i) ∧ ∀ o, flat (updV S i o) = A ++ (tagI i (o.getD []) ++ B) := by
  refine ⟨(List.range i).flatMap (fun j => tagI j ((S j).getD [])), ((List.range (7 - i)).map (fun j => i + 1 + j)).flatMap (fun j => tagI j ((S j).getD [])), ?_, ?_, ?_, fun o => ?_⟩
  · unfold flat
    rw [range8 hi, List.flatMap_append, List.flatMap_cons]
  · intro x hx
    simp only [List.mem_flatMap, List.mem_range, tagI, List.mem_map] at hx
    obtain ⟨j, hj, e, _, rfl⟩ := hx
    show j ≠ i
    omega
  · intro x hx
    simp only [List.mem_flatMap, List.mem_range, tagI, List.mem_map] at hx
    obtain ⟨j, ⟨a, ha, rfl⟩, e, _, rfl⟩ := hx
    show i + 1 + a ≠ i
    omega
  · unfold flat
    rw [range8 hi, List.flatMap_append, List.flatMap_cons]
    have e1 : updV S i o i = o := by simp [updV]
    rw [e1]
    congr 1
    · apply fm_congr
      intro j hj
      have : j ≠ i := by have := List.mem_range.mp hj; omega
      simp [updV, this]
    · congr 1
      apply fm_congr
      intro j hj
      obtain ⟨a, ha, rfl⟩ := List.mem_map.mp hj
      have : i + 1 + a ≠ i := by omega
      simp [updV, this]
/-- The ghost (T, its) shows S. -/
structure GR (S : Vu) (T : Nat → Bool) (its : List Itm) : Prop where
  ok : Vok S
  tr : ∀ i, i < 8 → T i = (S i).isSome
  pm : its.Perm (flat S)
theorem GR.len {S : Vu} {T : Nat → Bool} {its : List Itm} (g : GR S T its) : its.length = (al8 S).length := by rw [g.pm.length_eq, flat_len]
theorem GR.hasT {S : Vu} {T : Nat → Bool} {its : List Itm} (g : GR S T its) (h : Int) : hasT T h = (Vz S h).isSome := by
  unfold Go.Proofs.Qxb6500410aGreat.hasT Vz
  by_cases c : 0 ≤ h ∧ h < 8
  · rw [if_pos c, if_pos c, g.tr _ (by omega)]
  · rw [if_neg c, if_neg c]; rfl
theorem GR.mem {S : Vu} {T : Nat → Bool} {its : List Itm} (g : GR S T its) {x : Itm} : x ∈ its ↔ x.h < 8 ∧ (x.K, x.V) ∈ (S x.h).getD [] := by rw [g.pm.mem_iff, flat_mem]
theorem GR.memL {S : Vu} {T : Nat → Bool} {its : List Itm} (g : GR S T its) {h : Int} {e : KV} : e ∈ Lz S h ↔ ∃ x ∈ its, (x.h : Int) = h ∧ (x.K, x.V) = e := by
  unfold Lz Vz
  by_cases c : 0 ≤ h ∧ h < 8
  · rw [if_pos c]
    constructor
    · intro he
      refine ⟨⟨h.toNat, e.1, e.2⟩, g.mem.mpr ⟨?_, he⟩, ?_, rfl⟩
      · show h.toNat < 8
        omega
      · show ((h.toNat : Nat) : Int) = h
        omega
    · rintro ⟨x, hx, rfl, rfl⟩
      have := (g.mem.mp hx).2
      simpa using this
  · rw [if_neg c]
    constructor
    · intro he; simp at he
    · rintro ⟨x, hx, rfl, rfl⟩
      have := (g.mem.mp hx).1
      omega
theorem Srt.inj {l : List KV} (h : Srt l) {a b : KV} (ha : a ∈ l) (hb : b ∈ l) (e : a.1 = b.1) : a = b := by
  obtain ⟨i, hi, rfl⟩ := List.mem_iff_getElem.mp ha
  obtain ⟨j, hj, rfl⟩ := List.mem_iff_getElem.mp hb
  have hp := List.pairwise_iff_getElem.mp h
  rcases Nat.lt_trichotomy i j with c | c | c
  · have := hp i j hi hj c
    exact absurd e (lt_ne this)
  · subst c; rfl
  · have := hp j i hj hi c
    exact absurd e.symm (lt_ne this)
theorem getL_mem {k : ByteArray} {l : List KV} (h : Srt l) {e : KV} (he : e ∈ l) (hk : e.1 = k) : getL k l = some e.2 := by
  cases hg : getL k l with
  | none =>
    have := getL_isSome (k := k) (l := l)
    rw [hg] at this
    exact absurd (this.mpr ⟨e, he, hk⟩) (by simp)
  | some v =>
    have h1 := getL_some hg
    have := h.inj h1 he hk.symm
    rw [← this]
theorem seekL_mem {k : ByteArray} {past : Bool} {l : List KV} (h : Srt l) {e : KV} (he : e ∈ l) (hh : hit k past e = true) (hm : ∀ f ∈ l, hit k past f = true → lt f.1 e.1 = false) : seekL k past l = some e := by
  obtain ⟨i, hi, rfl⟩ := List.mem_iff_getElem.mp he
  refine seekL_at (i := i) (fun j f hj hf => ?_) (List.getElem?_eq_getElem hi) hh
  cases hq : hit k past f with
  | false => rfl
  | true =>
    obtain ⟨hjl, rfl⟩ := List.getElem?_eq_some_iff.mp hf
    have h1 := List.pairwise_iff_getElem.mp h j i hjl hi hj
    rw [hm _ (List.getElem_mem hjl) hq] at h1
    cases h1
/-- What At finds. -/
theorem GR.at_ {S : Vu} {T : Nat → Bool} {its : List Itm} (g : GR S T its) {h : Int} {k : ByteArray} {r : Int} (R : AtR its h k r) : (r = -1 ∧ getL k (Lz S h) = none) ∨ ∃ (i : Nat) (y : Itm), its[i]? = some y ∧ r = i ∧ (y.h : Int) = h ∧ y.K = k ∧ getL k (Lz S h) = some y.V := by
  rcases R with ⟨rfl, R⟩ | ⟨i, y, hy, rfl, h1, h2⟩
  · refine .inl ⟨rfl, getL_none (fun e he hk => ?_)⟩
    obtain ⟨x, hx, hxh, rfl⟩ := g.memL.mp he
    exact R x hx ⟨hxh, hk⟩
  · exact .inr ⟨i, y, hy, rfl, h1, h2, getL_mem (g.ok.lsrt h) (g.memL.mpr ⟨y, List.mem_of_getElem? hy, h1, rfl⟩) h2⟩
/-- What Least finds. -/
theorem GR.least {S : Vu} {T : Nat → Bool} {its : List Itm} (g : GR S T its) {h : Int} {k : ByteArray} {past : Bool} {r : Int} (R : LeR its its.length h k past r) : (r = -1 ∧ seekL k past (Lz S h) = none) ∨ ∃ (i : Nat) (y : Itm), its[i]? = some y ∧ r = i ∧ seekL k past (Lz S h) = some (y.K, y.V) := by
  rcases R with ⟨rfl, R⟩ | ⟨i, y, hy, rfl, hf, R⟩
  · refine .inl ⟨rfl, ?_⟩
    unfold seekL
    refine List.find?_eq_none.mpr (fun e he hh => ?_)
    obtain ⟨x, hx, hxh, rfl⟩ := g.memL.mp he
    obtain ⟨j, hj, rfl⟩ := List.mem_iff_getElem.mp hx
    exact R j _ (List.getElem?_eq_getElem hj) hj ⟨hxh, hh⟩
  · refine .inr ⟨i, y, hy, rfl, seekL_mem (g.ok.lsrt h) (g.memL.mpr ⟨y, List.mem_of_getElem? hy, hf.1, rfl⟩) hf.2 (fun e he hh => ?_)⟩
    obtain ⟨x, hx, hxh, rfl⟩ := g.memL.mp he
    obtain ⟨j, hj, rfl⟩ := List.mem_iff_getElem.mp hx
    exact R j _ (List.getElem?_eq_getElem hj) hj ⟨hxh, hh⟩
theorem GR.empty : GR (fun _ => none) (fun _ => false) [] := by
  exact ⟨⟨fun i l h => (by cases h), fun _ _ => rfl, Nat.zero_le _⟩, fun _ _ => rfl, List.Perm.refl _⟩
def updT (T : Nat → Bool) (i : Nat) (b : Bool) : Nat → Bool := fun j => if j = i then b else T j
theorem Vok.upd {S : Vu} (V : Vok S) {i : Nat} (hi : i < 8) {o : Option (List KV)} (hs : ∀ l, o = some l → Srt l) (hl : (flat (updV S i o)).length ≤ 64) : Vok (updV S i o) := by
  refine ⟨fun j l hj => ?_, fun j hj => ?_, by rw [← flat_len]; exact hl⟩
  · unfold updV at hj
    by_cases e : j = i
    · rw [if_pos e] at hj; exact hs l hj
    · rw [if_neg e] at hj; exact V.srt j l hj
  · unfold updV
    rw [if_neg (by omega)]
    exact V.out j hj
section
variable {S : Vu} {T : Nat → Bool} {its : List Itm}
theorem GR.trU (g : GR S T its) {i : Nat} (hi : i < 8) {o : Option (List KV)} : ∀ j, j < 8 → updT T i o.isSome j = (updV S i o j).isSome := fun j hj => by
  unfold updT updV
  by_cases e : j = i
  · rw [if_pos e, if_pos e]
  · rw [if_neg e, if_neg e]; exact g.tr j hj
/-- Create. -/
theorem GR.create (g : GR S T its) {i : Nat} (hi : i < 8) (h0 : S i = none) : GR (updV S i (some [])) (updT T i true) its := by
  obtain ⟨A, B, h1, _, _, h2⟩ := flat_upd S hi
  have e : flat (updV S i (some [])) = flat S := by rw [h1, h2, h0]; rfl
  refine ⟨g.ok.upd hi (fun l hl => by cases hl; exact List.Pairwise.nil) (by rw [e, flat_len]; exact g.ok.ct), g.trU hi (o := some []), by rw [e]; exact g.pm⟩
theorem filter_tag (i : Nat) (p : Itm → Bool) (l : List KV) : (tagI i l).filter p = tagI i (l.filter (fun e => p ⟨i, e.1, e.2⟩)) := by
  unfold tagI
  rw [List.filter_map]
  rfl
/-- Drop. -/
theorem GR.drop (g : GR S T its) {i : Nat} (hi : i < 8) (k : ByteArray) : GR (updV S i none) (updT T i false) (woI (i : Int) k true its) := by
  obtain ⟨A, B, h1, hA, hB, h2⟩ := flat_upd S hi
  have e : woI (i : Int) k true (flat S) = flat (updV S i none) := by
    rw [h1, h2]
    unfold woI
    rw [List.filter_append, List.filter_append, filter_tag]
    congr 1
    · refine List.filter_eq_self.mpr (fun x hx => ?_)
      have := hA x hx
      simp [goes]
      omega
    · congr 1
      · simp [goes, tagI]
      · refine List.filter_eq_self.mpr (fun x hx => ?_)
        have := hB x hx
        simp [goes]
        omega
  have pm : (woI (i : Int) k true its).Perm (flat (updV S i none)) := by
    rw [← e]
    exact g.pm.filter _
  refine ⟨g.ok.upd hi (fun l hl => by cases hl) ?_, g.trU hi (o := none), pm⟩
  rw [h2]
  have := g.ok.ct
  rw [← flat_len, h1] at this
  simp [tagI] at this ⊢
  omega
theorem updT_true (g : GR S T its) {i : Nat} (hi : i < 8) (h : (S i).isSome = true) : updT T i true = fun j => if j < 8 then T j else updT T i true j := by
  funext j
  by_cases c : j < 8
  · rw [if_pos c]
    unfold updT
    by_cases e : j = i
    · subst e
      rw [if_pos rfl, g.tr j hi, h]
    · rw [if_neg e]
  · rw [if_neg c]
theorem GR.trS (g : GR S T its) {i : Nat} (hi : i < 8) {l : List KV} (h : (S i).isSome = true) : ∀ j, j < 8 → T j = (updV S i (some l) j).isSome := fun j hj => by
  unfold updV
  by_cases e : j = i
  · rw [if_pos e]
    subst e
    rw [g.tr j hi, h]
    rfl
  · rw [if_neg e]; exact g.tr j hj
/-- Delete. -/
theorem GR.delete (g : GR S T its) {i : Nat} (hi : i < 8) (k : ByteArray) {l : List KV} (hl : S i = some l) : GR (updV S i (some (delL k l))) T (woI (i : Int) k false its) := by
  obtain ⟨A, B, h1, hA, hB, h2⟩ := flat_upd S hi
  have e : woI (i : Int) k false (flat S) = flat (updV S i (some (delL k l))) := by
    rw [h1, h2, hl]
    unfold woI
    rw [List.filter_append, List.filter_append, filter_tag]
    congr 1
    · refine List.filter_eq_self.mpr (fun x hx => ?_)
      have := hA x hx
      simp [goes]
      omega
    · congr 1
      · unfold delL
        congr 1
        apply List.filter_congr
        intro e _
        simp [goes]
      · refine List.filter_eq_self.mpr (fun x hx => ?_)
        have := hB x hx
        simp [goes]
        omega
  have pm : (woI (i : Int) k false its).Perm (flat (updV S i (some (delL k l)))) := by
    rw [← e]
    exact g.pm.filter _
  have hs := g.ok.srt i l hl
  refine ⟨g.ok.upd hi (fun l' hl' => by cases hl'; exact hs.filter _) ?_, g.trS hi (by rw [hl]; rfl), pm⟩
  rw [← pm.length_eq]
  have := g.len
  have h64 := g.ok.ct
  have := List.length_filter_le (fun x => !(goes (i : Int) k false x)) its
  unfold woI
  omega
theorem putL_perm {k v : ByteArray} {l : List KV} (hs : Srt l) : (putL k v l).Perm ((k, v) :: delL k l) := by
  induction l with
  | nil => simp [putL, delL]
  | cons a r ih =>
    obtain ⟨ha, hr⟩ := List.pairwise_cons.mp hs
    have ih := ih hr
    unfold putL
    by_cases h1 : lt a.1 k = true
    · rw [if_pos h1]
      have : delL k (a :: r) = a :: delL k r := by
        unfold delL
        rw [List.filter_cons_of_pos (by simpa using lt_ne h1)]
      rw [this]
      exact (ih.cons a).trans (List.Perm.swap _ _ _)
    · rw [if_neg h1]
      by_cases h2 : a.1 = k
      · rw [if_pos h2]
        have : delL k (a :: r) = r := by
          unfold delL
          rw [List.filter_cons_of_neg (by simpa using h2)]
          refine List.filter_eq_self.mpr (fun e he => ?_)
          have := lt_ne (ha e he)
          simp only [ne_eq, decide_eq_true_eq]
          intro c
          exact this (by rw [h2, c])
        rw [this]
      · rw [if_neg h2]
        have : delL k (a :: r) = a :: r := delL_ne (fun e he c => by
          rcases List.mem_cons.mp he with rfl | he
          · exact h2 c
          · have h3 := ha e he
            rw [c] at h3
            exact h1 h3)
        rw [this]
theorem tag_perm {a b : List KV} (i : Nat) (h : a.Perm b) : (tagI i a).Perm (tagI i b) := h.map _
/-- Insert: the ghost's list with the one entry and all the others. -/
theorem GR.insert (g : GR S T its) {i : Nat} (hi : i < 8) (k v : ByteArray) {l : List KV} (hl : S i = some l) {its' : List Itm} (hp : its'.Perm (⟨i, k, v⟩ :: woI (i : Int) k false its)) (h64 : its'.length ≤ 64) : GR (updV S i (some (putL k v l))) T its' := by
  have gd := g.delete hi k hl
  have hs := g.ok.srt i l hl
  obtain ⟨A, B, h1, hA, hB, h2⟩ := flat_upd S hi
  have e1 : flat (updV S i (some (delL k l))) = A ++ (tagI i (delL k l) ++ B) := h2 _
  have e2 : flat (updV S i (some (putL k v l))) = A ++ (tagI i (putL k v l) ++ B) := h2 _
  have pm : its'.Perm (flat (updV S i (some (putL k v l)))) := by
    refine hp.trans ?_
    rw [e2]
    refine List.Perm.trans ((gd.pm.cons _).trans ?_) (List.Perm.append_left A (List.Perm.append_right B (tag_perm i (putL_perm hs)).symm))
    rw [e1]
    exact List.perm_middle.symm
  exact ⟨g.ok.upd hi (fun l' hl' => by cases hl'; exact putL_srt hs) (by rw [← pm.length_eq]; exact h64), g.trS hi (by rw [hl]; rfl), pm⟩
theorem woI_none {h : Int} {k : ByteArray} {its : List Itm} (hn : ∀ x ∈ its, ¬ ((x.h : Int) = h ∧ x.K = k)) : woI h k false its = its := by
  unfold woI
  refine List.filter_eq_self.mpr (fun x hx => ?_)
  have := hn x hx
  simp [goes]
  by_cases c : (x.h : Int) = h
  · exact .inr (fun d => this ⟨c, d⟩)
  · exact .inl c
end
end Go.Proofs.Qxb6500410aGreat
