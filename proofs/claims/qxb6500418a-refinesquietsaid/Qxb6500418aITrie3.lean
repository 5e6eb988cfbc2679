/-
  OWN WORK. THE INDEX's TREE OF PARTS: what looking tells of the listing.
-/
import Derived.Test.Qxb6500418aITrie2
namespace Go.Proofs.Qxb6500418a
open Go.RowKit Go.PlainAid
set_option linter.unusedSimpArgs false
set_option linter.unusedVariables false

theorem look_app_new : ∀ {a : List Str} {F : Fo} (t : List Str), a ≠ [] → look a F = .new → look (a ++ t) F = .new
  | [], F, t, h, _ => absurd rfl h
  | n :: a, F, t, _, h => by
    unfold look at h
    rw [List.cons_append]
    unfold look
    cases hh : F.hit n with
    | none => rfl
    | file c d m => rw [hh] at h; by_cases e : a = [] <;> simp [e] at h
    | dir c k =>
      rw [hh] at h
      by_cases e : a = []
      · simp [e] at h
      · simp [e] at h
        simp [e]
        exact look_app_new t e h
theorem look_app_file : ∀ {a : List Str} {F : Fo} {c : Nat} {d : Str} {m : Int} (t : List Str), t ≠ [] → look a F = .file c d m → look (a ++ t) F = .clash 0
  | [], F, c, d, m, t, _, h => by cases h
  | n :: a, F, c, d, m, t, ht, h => by
    unfold look at h
    rw [List.cons_append]
    unfold look
    cases hh : F.hit n with
    | none => rw [hh] at h; cases h
    | file c' d' m' => simp [ht]
    | dir c' k =>
      rw [hh] at h
      by_cases e : a = []
      · simp [e] at h
      · simp [e] at h
        simp [e]
        exact look_app_file t ht h
theorem gather_some {F : Fo} (hw : F.Full) (hne : F ≠ .nil) (p : Str) : ∃ f, f ∈ F.gather p := by
  induction F generalizing p with
  | nil => exact absurd rfl hne
  | file c n d m r ih => exact ⟨_, by simp [Fo.gather]; exact .inl rfl⟩
  | dir c n k r ihk ih =>
    obtain ⟨f, hf⟩ := ihk hw.2.1 hw.1 (p ++ n ++ [47])
    exact ⟨f, by simp only [Fo.gather, List.mem_append]; exact .inl hf⟩
/-- A clash: a file on the way, or a directory at the path itself. -/
theorem look_clash : ∀ {a : List Str} {F : Fo} {c : Nat}, F.Wf → F.Full → a ≠ [] → NamesOk a → look a F = .clash c → (∃ b t c' d m, b ≠ [] ∧ t ≠ [] ∧ a = b ++ t ∧ look b F = .file c' d m) ∨ (∃ t c' d m, t ≠ [] ∧ NamesOk t ∧ look (a ++ t) F = .file c' d m)
  | [], F, c, _, _, h, _, _ => absurd rfl h
  | n :: a, F, c, hw, hf, _, hn, h => by
    unfold look at h
    cases hh : F.hit n with
    | none => rw [hh] at h; cases h
    | file c' d' m' =>
      rw [hh] at h
      by_cases e : a = []
      · simp [e] at h
      · left
        refine ⟨[n], a, c', d', m', by simp, e, rfl, ?_⟩
        simp [look, hh]
    | dir c' k =>
      rw [hh] at h
      have hsub : k.Wf ∧ k.Full ∧ k ≠ .nil := by
        clear h hn
        induction F with
        | nil => cases hh
        | file c2 n2 d2 m2 r ih =>
          unfold Fo.hit at hh
          by_cases e : n2 = n
          · rw [if_pos e] at hh; cases hh
          · rw [if_neg e] at hh
            exact ih hw.2.2.2 hf hh
        | dir c2 n2 k2 r ihk ih =>
          unfold Fo.hit at hh
          by_cases e : n2 = n
          · rw [if_pos e] at hh
            cases hh
            exact ⟨hw.2.2.2.1, hf.2.1, hf.1⟩
          · rw [if_neg e] at hh
            exact ih hw.2.2.2.2 hf.2.2 hh
      by_cases e : a = []
      · right
        obtain ⟨f, hfm⟩ := gather_some hsub.2.1 hsub.2.2 []
        obtain ⟨ps, c2, d2, m2, b1, b2, b3, _⟩ := file_look hsub.1 [] f hfm
        refine ⟨ps, c2, d2, m2, b1, b2, ?_⟩
        subst e
        show look (n :: ps) F = _
        unfold look
        rw [hh]
        simp [b1, b3]
      · simp [e] at h
        have hn' : NamesOk a := fun x hx => hn x (by simp [hx])
        rcases look_clash hsub.1 hsub.2.1 e hn' h with ⟨b, t, c2, d2, m2, b1, b2, b3, b4⟩ | ⟨t, c2, d2, m2, b1, b2, b3⟩
        · left
          refine ⟨n :: b, t, c2, d2, m2, by simp, b2, by rw [b3]; rfl, ?_⟩
          unfold look
          rw [hh]
          simp [b1, b4]
        · right
          refine ⟨t, c2, d2, m2, b1, b2, ?_⟩
          rw [List.cons_append]
          unfold look
          rw [hh]
          simp [e, b3]

theorem clashB_iff (p q : Str) : clashB p q = true ↔ (p ++ [47] <+: q ∨ q ++ [47] <+: p) := by
  unfold clashB
  rw [Bool.or_eq_true, preB_iff, preB_iff]
theorem joinP_pre' {a t : List Str} (ha : a ≠ []) (ht : t ≠ []) : joinP a ++ [47] <+: joinP (a ++ t) := by
  rw [joinP_app ha ht]
  exact ⟨joinP t, by simp⟩

section
variable {F : Fo} {ps : List Str}
/-- What looking a path up tells. -/
theorem look_tells (hw : F.Wf) (hf : F.Full) (hne : ps ≠ []) (hn : NamesOk ps) :
    (∀ c d m, look ps F = .file c d m → (∀ f ∈ F.gather [], clashB (pth f) (joinP ps) = false) ∧ mkFl (joinP ps) d m ∈ F.gather []) ∧
    (∀ c, look ps F = .clash c → ∃ f ∈ F.gather [], clashB (pth f) (joinP ps) = true) ∧
    (look ps F = .new → (∀ f ∈ F.gather [], clashB (pth f) (joinP ps) = false) ∧ ∀ f ∈ F.gather [], pth f ≠ joinP ps) ∧
    (∀ c, look ps F = .clash c → ∀ f ∈ F.gather [], pth f ≠ joinP ps) := by
  have hno : (∀ c, look ps F ≠ .clash c) → ∀ f ∈ F.gather [], clashB (pth f) (joinP ps) = false := by
    intro hc f hfm
    obtain ⟨qs, c, d, m, a1, a2, a3, rfl⟩ := file_look hw [] f hfm
    rw [pth_mk, List.nil_append]
    cases hb : clashB (joinP qs) (joinP ps) with
    | false => rfl
    | true =>
      exfalso
      rcases (clashB_iff _ _).1 hb with h | h
      · obtain ⟨t, ht, e⟩ := joinP_pre a1 hne a2 hn h
        rw [e] at hc
        exact hc 0 (look_app_file t ht a3)
      · obtain ⟨t, ht, e⟩ := joinP_pre hne a1 hn a2 h
        rw [e] at a3
        cases hl : look ps F with
        | new => rw [look_app_new t hne hl] at a3; cases a3
        | file c' d' m' => rw [look_app_file t ht hl] at a3; cases a3
        | clash c' => exact hc c' hl
  have hpath : ∀ f ∈ F.gather [], pth f = joinP ps → ∃ c d m, look ps F = .file c d m := by
    intro f hfm e
    obtain ⟨qs, c, d, m, a1, a2, a3, rfl⟩ := file_look hw [] f hfm
    rw [pth_mk, List.nil_append] at e
    have := joinP_inj a1 hne a2 hn e
    rw [this] at a3
    exact ⟨c, d, m, a3⟩
  refine ⟨fun c d m h => ⟨hno (fun c' h' => by rw [h] at h'; cases h'), by simpa using look_file [] h⟩, fun c h => ?_, fun h => ⟨hno (fun c' h' => by rw [h] at h'; cases h'), fun f hfm e => ?_⟩, fun c h f hfm e => ?_⟩
  · rcases look_clash hw hf hne hn h with ⟨b, t, c', d, m, b1, b2, b3, b4⟩ | ⟨t, c', d, m, b1, b2, b3⟩
    · refine ⟨_, look_file [] b4, ?_⟩
      rw [pth_mk, List.nil_append]
      exact (clashB_iff _ _).2 (.inl (by rw [b3]; exact joinP_pre' b1 b2))
    · refine ⟨_, look_file [] b3, ?_⟩
      rw [pth_mk, List.nil_append]
      exact (clashB_iff _ _).2 (.inr (joinP_pre' hne b1))
  · obtain ⟨c, d, m, h'⟩ := hpath f hfm e
    rw [h] at h'; cases h'
  · obtain ⟨c', d, m, h'⟩ := hpath f hfm e
    rw [h] at h'; cases h'
/-- No two rows of a listing clash. -/
theorem gather_noclash (hw : F.Wf) : ∀ f ∈ F.gather [], ∀ g ∈ F.gather [], clashB (pth f) (pth g) = false := by
  intro f hf g hg
  obtain ⟨qs, c, d, m, a1, a2, a3, rfl⟩ := file_look hw [] f hf
  obtain ⟨rs, c', d', m', b1, b2, b3, rfl⟩ := file_look hw [] g hg
  rw [pth_mk, pth_mk, List.nil_append, List.nil_append]
  cases hb : clashB (joinP qs) (joinP rs) with
  | false => rfl
  | true =>
    exfalso
    rcases (clashB_iff _ _).1 hb with h | h
    · obtain ⟨t, ht, e⟩ := joinP_pre a1 b1 a2 b2 h
      rw [e, look_app_file t ht a3] at b3; cases b3
    · obtain ⟨t, ht, e⟩ := joinP_pre b1 a1 b2 a2 h
      rw [e, look_app_file t ht b3] at a3; cases a3
end

/-- A sorted list is known by its rows. -/
theorem sorted_ext : ∀ {A B : List Fl}, A.Pairwise (fun a b => bl (pth a) (pth b) = true) → B.Pairwise (fun a b => bl (pth a) (pth b) = true) → (∀ f, f ∈ A ↔ f ∈ B) → A = B
  | [], [], _, _, _ => rfl
  | [], b :: B, _, _, h => by have := (h b).2 (by simp); simp at this
  | a :: A, [], _, _, h => by have := (h a).1 (by simp); simp at this
  | a :: A, b :: B, hA, hB, h => by
    rw [List.pairwise_cons] at hA hB
    have e : a = b := by
      have h1 := (h a).1 (by simp)
      have h2 := (h b).2 (by simp)
      simp at h1 h2
      rcases h1 with h1 | h1
      · exact h1
      · rcases h2 with h2 | h2
        · exact h2.symm
        · have x := hA.1 b h2
          have y := hB.1 a h1
          have := bl_asymm x
          rw [this] at y; cases y
    subst e
    congr 1
    refine sorted_ext hA.2 hB.2 (fun f => ?_)
    have hf := h f
    simp at hf
    constructor
    · intro hm
      rcases hf.1 (.inr hm) with e | e
      · subst e; have := hA.1 f hm; rw [bl_irr] at this; cases this
      · exact e
    · intro hm
      rcases hf.2 (.inr hm) with e | e
      · subst e; have := hB.1 f hm; rw [bl_irr] at this; cases this
      · exact e
theorem withL_mem {L : List Fl} {f : Fl} (h : L.Pairwise (fun a b => bl (pth a) (pth b) = true)) : ∀ g, g ∈ withL L f ↔ (g = f ∨ (g ∈ L ∧ pth g ≠ pth f)) := by
  induction L with
  | nil => intro g; simp [withL]
  | cons a L ih =>
    intro g
    rw [List.pairwise_cons] at h
    unfold withL
    have hps : ∀ x y : Fl, x.path = y.path ↔ pth x = pth y := fun x y => ⟨fun e => by unfold pth; rw [e], fun e => ls_inj e⟩
    by_cases h1 : ltS f.path a.path = true
    · rw [if_pos h1]
      rw [ltS_eq] at h1
      have hne : ∀ x ∈ a :: L, pth x ≠ pth f := by
        intro x hx e
        simp at hx
        rcases hx with rfl | hx
        · have h1' : bl (pth f) (pth x) = true := h1
          rw [e, bl_irr] at h1'; cases h1'
        · have := bl_trans _ _ _ h1 (h.1 x hx)
          have h1' : bl (pth f) (pth x) = true := this
          rw [e, bl_irr] at h1'; cases h1'
      constructor
      · intro hg
        simp at hg
        rcases hg with rfl | hg
        · exact .inl rfl
        · have hg' : g ∈ a :: L := by simpa using hg
          exact .inr ⟨hg', hne g hg'⟩
      · rintro (rfl | ⟨hg, _⟩)
        · simp
        · simp at hg ⊢; exact .inr hg
    · rw [if_neg h1]
      by_cases h2 : f.path = a.path
      · rw [if_pos h2]
        have h2' : pth f = pth a := (hps _ _).1 h2
        constructor
        · intro hg
          simp at hg
          rcases hg with rfl | hg
          · exact .inl rfl
          · refine .inr ⟨by simp [hg], fun e => ?_⟩
            have := h.1 g hg
            rw [e, h2', bl_irr] at this; cases this
        · rintro (rfl | ⟨hg, hn⟩)
          · simp
          · simp at hg ⊢
            rcases hg with rfl | hg
            · exact absurd h2'.symm hn
            · exact .inr hg
      · rw [if_neg h2]
        have := ih h.2 g
        have h2' : pth a ≠ pth f := fun e => h2 ((hps _ _).2 e.symm)
        constructor
        · intro hg
          simp at hg
          rcases hg with rfl | hg
          · exact .inr ⟨by simp, h2'⟩
          · rcases this.1 hg with e | ⟨e1, e2⟩
            · exact .inl e
            · exact .inr ⟨by simp [e1], e2⟩
        · rintro (rfl | ⟨hg, hn⟩)
          · simp; exact .inr (this.2 (.inl rfl))
          · simp at hg ⊢
            rcases hg with rfl | hg
            · exact .inl rfl
            · exact .inr (this.2 (.inr ⟨hg, hn⟩))
theorem withL_sorted {L : List Fl} {f : Fl} (h : L.Pairwise (fun a b => bl (pth a) (pth b) = true)) : (withL L f).Pairwise (fun a b => bl (pth a) (pth b) = true) := by
  induction L with
  | nil => simp [withL]
  | cons a L ih =>
    have h0 := h
    rw [List.pairwise_cons] at h
    unfold withL
    by_cases h1 : ltS f.path a.path = true
    · rw [if_pos h1]
      rw [ltS_eq] at h1
      refine List.Pairwise.cons (fun x hx => ?_) h0
      simp at hx
      rcases hx with rfl | hx
      · exact h1
      · exact bl_trans _ _ _ h1 (h.1 x hx)
    · rw [if_neg h1]
      by_cases h2 : f.path = a.path
      · rw [if_pos h2]
        refine List.Pairwise.cons (fun x hx => ?_) h.2
        have := h.1 x hx
        unfold pth at this ⊢
        rw [h2]; exact this
      · rw [if_neg h2]
        refine List.Pairwise.cons (fun x hx => ?_) (ih h.2)
        rcases (withL_mem h.2 x).1 hx with rfl | ⟨e1, _⟩
        · rcases bl_total (pth a) (pth x) with e | e | e
          · exact e
          · exact absurd (ls_inj e).symm h2
          · rw [ltS_eq] at h1; exact absurd e h1
        · exact h.1 x e1
end Go.Proofs.Qxb6500418a
