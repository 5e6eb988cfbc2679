/-
  OWN WORK. THE LAW OF DIFF: one place of a patch turns.
-/
import Derived.Test.Qxb6500416aDL15
namespace Go.Proofs.Qxb6500416a
open Go.RowKit Go.PlainAid
set_option linter.unusedSimpArgs false
set_option linter.unusedVariables false

theorem row_set {w : World} {e : TypeId} {size g n cap i : Nat} {xs : List Value} (h : w.ownsRow 0 e size (.slice (some ⟨g, 0, none⟩) n cap) n xs) (hi : i < n * size) (u : Value) : (w.setCell ⟨g, i, none⟩ u).ownsRow 0 e size (.slice (some ⟨g, 0, none⟩) n cap) n (xs.set i u) := by
  obtain ⟨hl, h1 | ⟨g', cap', cur, e1, hb, hg, hn, hm, hs, ht⟩⟩ := h
  · exact absurd h1.1 (by simp)
  · obtain ⟨rfl, rfl⟩ : g = g' ∧ cap = cap' := by simpa using e1
    have hH : Has w g cur e := hg
    have hW := hH.setCell i u
    exact ⟨by simpa using hl, .inr ⟨g, cap, _, rfl, hb, hW, hn, hm, by simpa using hs, by rw [Array.toList_setIfInBounds, List.take_set, ht]⟩⟩
theorem HvOk.keepB {S : Nat → Prop} {w w' : World} {G : Nat → Prop} (ho : Only S w w') : ∀ {hs : List HV} {ks : List Hk}, HvOk w G hs ks → (∀ y, some y ∈ hvB hs → ¬ S y) → HvOk w' G hs ks
  | [], [], _, _ => trivial
  | h :: hs, k :: ks, hh, hS => by
    have m : ∀ y, (h.dv.ownBlock = some y ∨ h.iv.ownBlock = some y ∨ some y ∈ hvB hs) → some y ∈ hvB (h :: hs) := fun y hy => by
      rcases hy with e | e | e
      · simp [hvB, e]
      · simp [hvB, e]
      · have : some y ∈ hvB hs := e
        simp only [hvB] at this ⊢
        simp [this]
    exact ⟨⟨hh.1.at_, hh.1.del.keep ho (fun y hy => hS y (m y (.inl hy))), hh.1.ins.keep ho (fun y hy => hS y (m y (.inr (.inl hy)))), hh.1.inn⟩, HvOk.keepB ho hh.2 (fun y hy => hS y (m y (.inr (.inr hy))))⟩
  | [], k :: ks, hh, _ => hh.elim
  | h :: hs, [], hh, _ => hh.elim
theorem HvOk.set {w : World} {G : Nat → Prop} {hv : HV} {kv : Hk} (h1 : HvOk1 w G hv kv) : ∀ {hs : List HV} {ks : List Hk} (i : Nat), HvOk w G hs ks → HvOk w G (hs.set i hv) (ks.set i kv)
  | [], [], i, _ => trivial
  | h :: hs, k :: ks, 0, hh => ⟨h1, hh.2⟩
  | h :: hs, k :: ks, i + 1, hh => ⟨hh.1, HvOk.set h1 i hh.2⟩
  | [], k :: ks, _, hh => hh.elim
  | h :: hs, [], _, hh => hh.elim
theorem HvOk.monoG {w : World} {G G' : Nat → Prop} {hs : List HV} {ks : List Hk} (h : HvOk w G hs ks) (hG : ∀ y, G y → G' y) : HvOk w G' hs ks := h.mono (fun y _ hy => hG y hy)
section
variable {w : World} {g n cap : Nat} {hs : List HV} {p : List Hk} {G : Nat → Prop}
theorem PatO.apart (h : PatO w (.slice (some ⟨g, 0, none⟩) n cap) hs p G) : ∀ y, some y ∈ hvB hs → y ≠ g := fun y hy e => by
  obtain ⟨c, hc⟩ := h.2.1.ty y hy
  obtain ⟨c', hc'⟩ := own_ty h.1 g rfl
  subst e
  exact Has.ne hc hc' (by decide) rfl
/-- At turns. -/
theorem PatO.set0 (h : PatO w (.slice (some ⟨g, 0, none⟩) n cap) hs p G) (a : Nat) (ha : a < p.length) (has : a < hs.length) (x : Int) : PatO (w.setCell ⟨g, a * 3, none⟩ (.int .i64 x)) (.slice (some ⟨g, 0, none⟩) n cap) (hs.set a ⟨x, hs[a].dv, hs[a].iv⟩) (p.set a ⟨x, p[a].del, p[a].ins⟩) G := by
  have hn : n = hs.length := by
    obtain ⟨_, h1 | ⟨g', cap', cur, e1, _⟩⟩ := h.1
    · exact absurd h1.1 (by simp)
    · simp at e1; exact e1.2.1
  subst hn
  have ho := donly1 (w := w) (p := g) (a * 3) (.int .i64 x)
  have h1 := row_set h.1 (i := a * 3) (by omega) (.int .i64 x)
  rw [hvc_set0 hs a has] at h1
  have h2 := h.2.1.keepB ho (fun y hy e => h.apart y hy e)
  have h3 := h2.get a has ha
  refine ⟨by simpa using h1, HvOk.set (hv := ⟨x, hs[a].dv, hs[a].iv⟩) (kv := ⟨x, p[a].del, p[a].ins⟩) ⟨rfl, h3.del, h3.ins, h3.inn⟩ a h2, h.2.2⟩
/-- Del turns. -/
theorem PatO.set1 (h : PatO w (.slice (some ⟨g, 0, none⟩) n cap) hs p G) (a : Nat) (ha : a < p.length) (has : a < hs.length) (v : Value) (D : List Str) (hv : OwnL w v D) (hvG : ∀ y, v.ownBlock = some y → G y) : PatO (w.setCell ⟨g, a * 3 + 1, none⟩ v) (.slice (some ⟨g, 0, none⟩) n cap) (hs.set a ⟨hs[a].at_, v, hs[a].iv⟩) (p.set a ⟨p[a].at_, D, p[a].ins⟩) G := by
  have hn : n = hs.length := by
    obtain ⟨_, h1 | ⟨g', cap', cur, e1, _⟩⟩ := h.1
    · exact absurd h1.1 (by simp)
    · simp at e1; exact e1.2.1
  subst hn
  have ho := donly1 (w := w) (p := g) (a * 3 + 1) v
  have h1 := row_set h.1 (i := a * 3 + 1) (by omega) v
  rw [hvc_set1 hs a has] at h1
  have h2 := h.2.1.keepB ho (fun y hy e => h.apart y hy e)
  have h3 := h2.get a has ha
  have hv' := hv.keep ho (fun y hy e => by
    obtain ⟨c, hc⟩ := own_ty hv.row y hy
    obtain ⟨c', hc'⟩ := own_ty h.1 g rfl
    subst e
    exact Has.ne hc hc' (by decide) rfl)
  refine ⟨by simpa using h1, HvOk.set (hv := ⟨hs[a].at_, v, hs[a].iv⟩) (kv := ⟨p[a].at_, D, p[a].ins⟩) ⟨h3.at_, hv', h3.ins, fun y hy => by
    rcases hy with hy | hy
    · exact hvG y hy
    · exact h3.inn y (.inr hy)⟩ a h2, h.2.2⟩
/-- Ins turns. -/
theorem PatO.set2 (h : PatO w (.slice (some ⟨g, 0, none⟩) n cap) hs p G) (a : Nat) (ha : a < p.length) (has : a < hs.length) (v : Value) (D : List Str) (hv : OwnL w v D) (hvG : ∀ y, v.ownBlock = some y → G y) : PatO (w.setCell ⟨g, a * 3 + 2, none⟩ v) (.slice (some ⟨g, 0, none⟩) n cap) (hs.set a ⟨hs[a].at_, hs[a].dv, v⟩) (p.set a ⟨p[a].at_, p[a].del, D⟩) G := by
  have hn : n = hs.length := by
    obtain ⟨_, h1 | ⟨g', cap', cur, e1, _⟩⟩ := h.1
    · exact absurd h1.1 (by simp)
    · simp at e1; exact e1.2.1
  subst hn
  have ho := donly1 (w := w) (p := g) (a * 3 + 2) v
  have h1 := row_set h.1 (i := a * 3 + 2) (by omega) v
  rw [hvc_set2 hs a has] at h1
  have h2 := h.2.1.keepB ho (fun y hy e => h.apart y hy e)
  have h3 := h2.get a has ha
  have hv' := hv.keep ho (fun y hy e => by
    obtain ⟨c, hc⟩ := own_ty hv.row y hy
    obtain ⟨c', hc'⟩ := own_ty h.1 g rfl
    subst e
    exact Has.ne hc hc' (by decide) rfl)
  refine ⟨by simpa using h1, HvOk.set (hv := ⟨hs[a].at_, hs[a].dv, v⟩) (kv := ⟨p[a].at_, p[a].del, D⟩) ⟨h3.at_, h3.del, hv', fun y hy => by
    rcases hy with hy | hy
    · exact h3.inn y (.inl hy)
    · exact hvG y hy⟩ a h2, h.2.2⟩
end
theorem hvB_cons (h : HV) (C : List HV) : hvB (h :: C) = h.dv.ownBlock :: h.iv.ownBlock :: hvB C := by simp [hvB]
theorem dst_parts {A C : List HV} {h : HV} : Dst (A ++ h :: C) ↔ Dst A ∧ Dst C ∧ (∀ y, h.dv.ownBlock = some y → h.iv.ownBlock ≠ some y) ∧ (∀ y, h.dv.ownBlock = some y ∨ h.iv.ownBlock = some y → some y ∉ hvB A ∧ some y ∉ hvB C) ∧ (∀ y, some y ∈ hvB A → some y ∉ hvB C) := by
  unfold Dst
  rw [hvB_app, hvB_cons, List.pairwise_append, List.pairwise_cons, List.pairwise_cons]
  constructor
  · rintro ⟨h1, ⟨h2, h3, h4⟩, h5⟩
    refine ⟨h1, h4, fun y hy hy' => ?_, fun y hy => ⟨fun hm => ?_, fun hm => ?_⟩, fun y hy hm => ?_⟩
    · rcases h2 h.iv.ownBlock (by simp) with e | e
      · rw [e] at hy; cases hy
      · exact e (hy.trans hy'.symm)
    · rcases hy with hy | hy
      · rcases h5 _ hm h.dv.ownBlock (by simp) with e | e
        · cases e
        · exact e hy.symm
      · rcases h5 _ hm h.iv.ownBlock (by simp) with e | e
        · cases e
        · exact e hy.symm
    · rcases hy with hy | hy
      · rcases h2 (some y) (by simp [hm]) with e | e
        · rw [e] at hy; cases hy
        · exact e hy
      · rcases h3 (some y) hm with e | e
        · rw [e] at hy; cases hy
        · exact e hy
    · rcases h5 _ hy (some y) (by simp [hm]) with e | e
      · cases e
      · exact e rfl
  · rintro ⟨h1, h4, h2, h3, h5⟩
    refine ⟨h1, ⟨fun b hb => ?_, fun b hb => ?_, h4⟩, fun a ha b hb => ?_⟩
    · rcases ha : h.dv.ownBlock with _ | y
      · exact .inl rfl
      · refine .inr (fun e => ?_)
        subst e
        rcases List.mem_cons.1 hb with e | e
        · exact h2 y ha e.symm
        · exact (h3 y (.inl ha)).2 e
    · rcases ha : h.iv.ownBlock with _ | y
      · exact .inl rfl
      · refine .inr (fun e => ?_)
        subst e
        exact (h3 y (.inr ha)).2 hb
    · rcases a with _ | y
      · exact .inl rfl
      · refine .inr (fun e => ?_)
        subst e
        rcases List.mem_cons.1 hb with e | hb
        · exact (h3 y (.inl e.symm)).1 ha
        · rcases List.mem_cons.1 hb with e | hb
          · exact (h3 y (.inr e.symm)).1 ha
          · exact h5 y ha hb
theorem set_parts (hs : List HV) (a : Nat) (ha : a < hs.length) (h : HV) : hs.set a h = hs.take a ++ h :: hs.drop (a + 1) := by
  rw [List.set_eq_take_append_cons_drop, if_pos ha]
theorem self_parts (hs : List HV) (a : Nat) (ha : a < hs.length) : hs = hs.take a ++ hs[a] :: hs.drop (a + 1) := by
  have := List.take_append_drop a hs
  rw [List.drop_eq_getElem_cons ha] at this
  exact this.symm
/-- One hunk's lists give way to others that lie where the old ones lay, or nowhere in the patch. -/
theorem Dst.set {hs : List HV} (hd : Dst hs) (a : Nat) (ha : a < hs.length) (h : HV) (h1 : ∀ y, h.dv.ownBlock = some y → h.iv.ownBlock ≠ some y) (h2 : ∀ y, h.dv.ownBlock = some y ∨ h.iv.ownBlock = some y → hs[a].dv.ownBlock = some y ∨ hs[a].iv.ownBlock = some y ∨ some y ∉ hvB hs) : Dst (hs.set a h) := by
  have e := self_parts hs a ha
  have hd' := hd
  rw [e, dst_parts] at hd'
  obtain ⟨d1, d2, d3, d4, d5⟩ := hd'
  rw [set_parts hs a ha h, dst_parts]
  refine ⟨d1, d2, h1, fun y hy => ?_, d5⟩
  rcases h2 y hy with h3 | h3 | h3
  · exact d4 y (.inl h3)
  · exact d4 y (.inr h3)
  · rw [e, hvB_app, hvB_cons] at h3
    refine ⟨fun hm => h3 (List.mem_append_left _ hm), fun hm => h3 (List.mem_append_right _ (by simp [hm]))⟩
theorem PB.set {p : List Hk} (h : PB p) (a : Nat) {k : Hk} (hk : KB k) : PB (p.set a k) := ⟨by simpa using h.len, fun x hx => by
  rcases List.mem_or_eq_of_mem_set hx with h1 | h1
  · exact h.all x h1
  · subst h1; exact hk⟩
end Go.Proofs.Qxb6500416a
