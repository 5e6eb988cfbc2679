/-
  OWN WORK. THE INDEX's POOL: unlink, in plain terms.
-/
import Derived.Test.Qxb6500418aIGet
namespace Go.Proofs.Qxb6500418a
open Go.RowKit Go.PlainAid
set_option linter.unusedSimpArgs false
set_option linter.unusedVariables false

/-- The sibling ahead of c (b: what stands ahead of the first). -/
def Fo.bef (c : Nat) : Fo → Nat → Nat
  | .nil, b => b
  | .file c' n d m r, b => if c' = c then b else r.bef c c'
  | .dir c' n k r, b => if c' = c then b else r.bef c c'
/-- c bears the name n and has no child. -/
def Bare (K : Fo) (n : Str) (c : Nat) : Prop := (∃ d m, K.hit n = .file c d m) ∨ K.hit n = .dir c .nil
theorem Bare.id {K : Fo} {n : Str} {c : Nat} (h : Bare K n c) : c ∈ K.ids := by
  rcases h with ⟨d, m, h⟩ | h
  · exact hit_file_id h
  · exact (hit_ids h).subset (by simp)
theorem Bare.rest {c c' : Nat} {n n' d' : Str} {m' : Int} {r : Fo} (h : Bare (.file c' n' d' m' r) n c) (hne : n' ≠ n) : Bare r n c := by
  unfold Bare at h ⊢
  simp only [Fo.hit] at h
  rw [if_neg hne] at h
  exact h
theorem Bare.rest' {c c' : Nat} {n n' : Str} {k r : Fo} (h : Bare (.dir c' n' k r) n c) (hne : n' ≠ n) : Bare r n c := by
  unfold Bare at h ⊢
  simp only [Fo.hit] at h
  rw [if_neg hne] at h
  exact h
theorem Bare.here {c c' : Nat} {n n' d' : Str} {m' : Int} {r : Fo} (h : Bare (.file c' n' d' m' r) n c) (he : n' = n) : c' = c := by
  unfold Bare at h
  simp only [Fo.hit] at h
  rw [if_pos he] at h
  rcases h with ⟨d, m, h⟩ | h
  · cases h; rfl
  · cases h
theorem Bare.here' {c c' : Nat} {n n' : Str} {k r : Fo} (h : Bare (.dir c' n' k r) n c) (he : n' = n) : c' = c ∧ k = .nil := by
  unfold Bare at h
  simp only [Fo.hit] at h
  rw [if_pos he] at h
  rcases h with ⟨d, m, h⟩ | h
  · cases h
  · cases h; exact ⟨rfl, rfl⟩
theorem bef_mem {c : Nat} : ∀ (K : Fo) (b : Nat), K.bef c b = b ∨ K.bef c b ∈ K.ids := by
  intro K
  induction K with
  | nil => intro b; exact .inl rfl
  | file c' n d m r ih =>
    intro b
    simp only [Fo.bef]
    by_cases e : c' = c
    · rw [if_pos e]; exact .inl rfl
    · rw [if_neg e]
      rcases ih c' with h | h
      · rw [h]; right; simp [Fo.ids]
      · right; simp [Fo.ids, h]
  | dir c' n k r ihk ih =>
    intro b
    simp only [Fo.bef]
    by_cases e : c' = c
    · rw [if_pos e]; exact .inl rfl
    · rw [if_neg e]
      rcases ih c' with h | h
      · rw [h]; right; simp [Fo.ids]
      · right; simp [Fo.ids, h]
theorem del_ids {K : Fo} {n : Str} {c : Nat} (h : Bare K n c) : K.ids.Perm (c :: (K.del n).ids) := by
  induction K with
  | nil => rcases h with ⟨d, m, h⟩ | h <;> cases h
  | file c' n' d' m' r ih =>
    simp only [Fo.del]
    by_cases e : n' = n
    · rw [if_pos e, ← h.here e]
      exact List.Perm.refl _
    · rw [if_neg e]
      simp only [Fo.ids]
      exact (List.Perm.cons c' (ih (h.rest e))).trans (List.Perm.swap c c' _)
  | dir c' n' k r ihk ih =>
    simp only [Fo.del]
    by_cases e : n' = n
    · obtain ⟨e1, e2⟩ := h.here' e
      rw [if_pos e, ← e1, e2]
      simp only [Fo.ids, List.nil_append]
      exact List.Perm.refl _
    · rw [if_neg e]
      simp only [Fo.ids]
      refine (List.Perm.cons c' ((List.Perm.append_left k.ids (ih (h.rest' e))).trans List.perm_middle)).trans (List.Perm.swap c c' _)
theorem Lay.del {P P' : Nat → Nd} {K : Fo} {n : Str} {c : Nat} : ∀ {p b : Nat}, Lay P K p → K.ids.Nodup → Bare K n c → b ∉ K.ids →
    (K.bef c b = b → p = c ∧ ((∀ x ∈ K.ids, x ≠ c → P' x = P x) → Lay P' (K.del n) (P c).next)) ∧
    (K.bef c b ≠ b → K.bef c b ∈ K.ids ∧ K.bef c b ≠ c ∧ p ≠ c ∧ (P (K.bef c b)).next = c ∧ ((∀ x ∈ K.ids, x ≠ c → x ≠ K.bef c b → P' x = P x) → P' (K.bef c b) = { P (K.bef c b) with next := (P c).next } → Lay P' (K.del n) p)) := by
  induction K with
  | nil => intro p b _ _ h; rcases h with ⟨d, m, h⟩ | h <;> cases h
  | file c' n' d' m' r ih =>
    intro p b hl hn hB hb
    obtain ⟨h1, h2, h3, h4⟩ := hl
    simp only [Fo.ids, List.nodup_cons] at hn
    simp only [Fo.ids, List.mem_cons, not_or] at hb
    by_cases e : n' = n
    · have ec := hB.here e
      have eb : (Fo.file c' n' d' m' r).bef c b = b := by simp only [Fo.bef]; rw [if_pos ec]
      have ed : (Fo.file c' n' d' m' r).del n = r := by simp only [Fo.del]; rw [if_pos e]
      rw [eb, ed]
      refine ⟨fun _ => ⟨by rw [h1, ec], fun he => ?_⟩, fun h => absurd rfl h⟩
      rw [← ec]
      exact h4.congr (fun x hx => he x (by simp [Fo.ids, hx]) (fun e2 => hn.1 (by rw [ec, ← e2]; exact hx)))
    · have hBr := hB.rest e
      have hcr := hBr.id
      have ec : c' ≠ c := fun e2 => hn.1 (e2 ▸ hcr)
      have eb : (Fo.file c' n' d' m' r).bef c b = r.bef c c' := by simp only [Fo.bef]; rw [if_neg ec]
      have ed : (Fo.file c' n' d' m' r).del n = .file c' n' d' m' (r.del n) := by simp only [Fo.del]; rw [if_neg e]
      rw [eb, ed]
      obtain ⟨i1, i2⟩ := ih (b := c') h4 hn.2 hBr hn.1
      by_cases ef : r.bef c c' = c'
      · obtain ⟨j1, j2⟩ := i1 ef
        rw [ef]
        refine ⟨fun e2 => absurd e2.symm hb.1, fun _ => ⟨by simp [Fo.ids], ec, by rw [h1]; exact ec, j1, fun he hq => ?_⟩⟩
        refine ⟨h1, h2, by rw [hq, h3], ?_⟩
        rw [hq]
        exact j2 (fun x hx hxc => he x (by simp [Fo.ids, hx]) hxc (fun e2 => hn.1 (e2 ▸ hx)))
      · obtain ⟨j0, j1, _, j2, j3⟩ := i2 ef
        refine ⟨fun e2 => absurd (e2 ▸ j0) hb.2, fun _ => ⟨by simp [Fo.ids, j0], j1, by rw [h1]; exact ec, j2, fun he hq => ?_⟩⟩
        have e1 : P' c' = P c' := he c' (by simp [Fo.ids]) ec (fun e2 => ef e2.symm)
        refine ⟨h1, h2, by rw [e1]; exact h3, ?_⟩
        rw [e1]
        exact j3 (fun x hx hxc hxb => he x (by simp [Fo.ids, hx]) hxc hxb) hq
  | dir c' n' k' r ihk ih =>
    intro p b hl hn hB hb
    obtain ⟨h1, h2, h3, h4, h5⟩ := hl
    simp only [Fo.ids, List.nodup_cons] at hn
    have hnd := List.nodup_append.1 hn.2
    simp only [Fo.ids, List.mem_cons, List.mem_append, not_or] at hb
    by_cases e : n' = n
    · obtain ⟨ec, ek⟩ := hB.here' e
      have eb : (Fo.dir c' n' k' r).bef c b = b := by simp only [Fo.bef]; rw [if_pos ec]
      have ed : (Fo.dir c' n' k' r).del n = r := by simp only [Fo.del]; rw [if_pos e]
      rw [eb, ed]
      refine ⟨fun _ => ⟨by rw [h1, ec], fun he => ?_⟩, fun h => absurd rfl h⟩
      rw [← ec]
      exact h5.congr (fun x hx => he x (by simp [Fo.ids, hx]) (fun e2 => hn.1 (by rw [ec, ← e2]; simp [hx])))
    · have hBr := hB.rest' e
      have hcr := hBr.id
      have ec : c' ≠ c := fun e2 => hn.1 (by rw [e2]; simp [hcr])
      have hc'r : c' ∉ r.ids := fun h => hn.1 (by simp [h])
      have hc'k : c' ∉ k'.ids := fun h => hn.1 (by simp [h])
      have eb : (Fo.dir c' n' k' r).bef c b = r.bef c c' := by simp only [Fo.bef]; rw [if_neg ec]
      have ed : (Fo.dir c' n' k' r).del n = .dir c' n' k' (r.del n) := by simp only [Fo.del]; rw [if_neg e]
      rw [eb, ed]
      obtain ⟨i1, i2⟩ := ih (b := c') h5 hnd.2.1 hBr hc'r
      by_cases ef : r.bef c c' = c'
      · obtain ⟨j1, j2⟩ := i1 ef
        rw [ef]
        refine ⟨fun e2 => absurd e2.symm hb.1, fun _ => ⟨by simp [Fo.ids], ec, by rw [h1]; exact ec, j1, fun he hq => ?_⟩⟩
        refine ⟨h1, h2, by rw [hq, h3], ?_, ?_⟩
        · rw [hq]
          exact h4.congr (fun x hx => he x (by simp [Fo.ids, hx]) (fun e2 => hnd.2.2 x hx c hcr e2) (fun e2 => hc'k (e2 ▸ hx)))
        · rw [hq]
          exact j2 (fun x hx hxc => he x (by simp [Fo.ids, hx]) hxc (fun e2 => hc'r (e2 ▸ hx)))
      · obtain ⟨j0, j1, _, j2, j3⟩ := i2 ef
        refine ⟨fun e2 => absurd (e2 ▸ j0) hb.2.2, fun _ => ⟨by simp [Fo.ids, j0], j1, by rw [h1]; exact ec, j2, fun he hq => ?_⟩⟩
        have e1 : P' c' = P c' := he c' (by simp [Fo.ids]) ec (fun e2 => ef e2.symm)
        refine ⟨h1, h2, by rw [e1]; exact h3, ?_, ?_⟩
        · rw [e1]
          exact h4.congr (fun x hx => he x (by simp [Fo.ids, hx]) (fun e2 => hnd.2.2 x hx c hcr e2) (fun e2 => hnd.2.2 x hx _ j0 e2))
        · rw [e1]
          exact j3 (fun x hx hxc hxb => he x (by simp [Fo.ids, hx]) hxc hxb) hq

/-- The pool behind unlink. -/
def unlP (P : Nat → Nd) (K : Fo) (d c fr : Nat) : Nat → Nd :=
  if K.bef c 0 = 0 then updT (updT P d { P d with child := (P c).next }) c ⟨[], 0, fr, false, [], 0, 0, 0⟩
  else updT (updT P (K.bef c 0) { P (K.bef c 0) with next := (P c).next }) c ⟨[], 0, fr, false, [], 0, 0, 0⟩
theorem IInv.unl {P : Nat → Nd} {fr d c : Nat} {F K : Fo} {fl : List Nat} {a : List Str} {n : Str} (h : IInv P fr F fl) (hat : dirAt a 0 F = some (d, K)) (hB : Bare K n c) :
    IInv (unlP P K d c fr) c (Go.Proofs.Qxb6500418a.upd a (Fo.del n) F) (c :: fl) := by
  obtain ⟨hI, hf, hnd, hall⟩ := h
  have hnd' := List.nodup_append.1 hnd
  have hsub := dirAt_ids hat
  have hn0 := hI.nd0
  have hdK := List.nodup_cons.1 (hsub.nodup hn0)
  have hlK := Lay.dirAt hI.lay hat
  have hcK := hB.id
  have hc49 := hlK.rng c hcK
  have h0K : 0 ∉ K.ids := fun hm => by have := hlK.rng 0 hm; omega
  have hdc : d ≠ c := fun e => hdK.1 (e ▸ hcK)
  have hKF : ∀ y ∈ K.ids, y ∈ F.ids := by
    intro y hy
    have := hsub.subset (by simp [hy] : y ∈ d :: K.ids)
    simp at this
    rcases this with e | e
    · have := hlK.rng y hy; omega
    · exact e
  have hperm : F.ids.Perm (c :: (Go.Proofs.Qxb6500418a.upd a (Fo.del n) F).ids) := upd_less hat (del_ids hB)
  have hmem := bef_mem (c := c) K 0
  obtain ⟨i1, i2⟩ := Lay.del (P := P) (P' := unlP P K d c fr) (n := n) (c := c) (b := 0) hlK hdK.2 hB h0K
  have hcc : unlP P K d c fr c = ⟨[], 0, fr, false, [], 0, 0, 0⟩ := by
    unfold unlP
    by_cases e : K.bef c 0 = 0
    · rw [if_pos e, updT_same]
    · rw [if_neg e, updT_same]
  have hoth : ∀ y, y ≠ c → y ≠ d → y ∉ K.ids → unlP P K d c fr y = P y := by
    intro y h1 h2 h3
    unfold unlP
    by_cases e : K.bef c 0 = 0
    · rw [if_pos e, updT_other _ _ _ _ h1, updT_other _ _ _ _ h2]
    · have hin := hmem.resolve_left e
      have hyb : y ≠ K.bef c 0 := fun e2 => h3 (by rw [e2]; exact hin)
      rw [if_neg e, updT_other _ _ _ _ h1, updT_other _ _ _ _ hyb]
  have hdd : unlP P K d c fr d = { P d with child := (unlP P K d c fr d).child } := by
    unfold unlP
    by_cases e : K.bef c 0 = 0
    · rw [if_pos e, updT_other _ _ _ _ hdc, updT_same]
    · have hin := hmem.resolve_left e
      have hyb : d ≠ K.bef c 0 := fun e2 => hdK.1 (by rw [e2]; exact hin)
      rw [if_neg e, updT_other _ _ _ _ hdc, updT_other _ _ _ _ hyb]
  have hlay : Lay (unlP P K d c fr) (K.del n) (unlP P K d c fr d).child := by
    by_cases e : K.bef c 0 = 0
    · have e1 : (unlP P K d c fr d).child = (P c).next := by
        unfold unlP
        rw [if_pos e, updT_other _ _ _ _ hdc, updT_same]
      rw [e1]
      refine (i1 e).2 (fun y hy hyc => ?_)
      unfold unlP
      have hyd : y ≠ d := fun e2 => hdK.1 (by rw [← e2]; exact hy)
      rw [if_pos e, updT_other _ _ _ _ hyc, updT_other _ _ _ _ hyd]
    · have hin := hmem.resolve_left e
      have hbd : d ≠ K.bef c 0 := fun e2 => hdK.1 (e2 ▸ hin)
      have e1 : (unlP P K d c fr d).child = (P d).child := by
        unfold unlP
        rw [if_neg e, updT_other _ _ _ _ hdc, updT_other _ _ _ _ hbd]
      rw [e1]
      obtain ⟨_, j1, _, _, j3⟩ := i2 e
      refine j3 (fun y hy hyc hyb => ?_) ?_
      · unfold unlP
        rw [if_neg e, updT_other _ _ _ _ hyc, updT_other _ _ _ _ hyb]
      · unfold unlP
        rw [if_neg e, updT_other _ _ _ _ j1, updT_same]
  refine ⟨⟨?_, ?_, ?_⟩, ?_, ?_, ?_⟩
  · by_cases e0 : d = 0
    · rw [← e0, hdd]
      have := hI.root
      rw [← e0] at this
      rw [this]
    · rw [hoth 0 (by omega) (fun e => e0 e.symm) h0K]
      exact hI.root
  · refine Lay.upd hI.lay hat hn0 (fun y hy h1 h2 => hoth y (fun e => h2 (e ▸ hcK)) h1 h2) hdd hlay
  · exact (List.nodup_cons.1 (hperm.nodup_iff.1 hI.nd)).2
  · refine ⟨rfl, hc49, by rw [hcc], ?_⟩
    rw [hcc]
    refine hf.congr (fun y hy => ?_)
    have hyF : y ∉ F.ids := fun hm => hnd'.2.2 y hm y hy rfl
    refine hoth y (fun e => hyF (e ▸ hKF c hcK)) (fun e => ?_) (fun hm => hyF (hKF y hm))
    have := hsub.subset (by simp : d ∈ d :: K.ids)
    simp at this
    rcases this with e2 | e2
    · have := hf.rng y hy; omega
    · exact hyF (e ▸ e2)
  · have hp2 : ((Go.Proofs.Qxb6500418a.upd a (Fo.del n) F).ids ++ (c :: fl)).Perm (F.ids ++ fl) := List.perm_middle.trans (List.Perm.append_right fl hperm.symm)
    exact hp2.nodup_iff.2 hnd
  · intro y h1 h2
    have hp2 : ((Go.Proofs.Qxb6500418a.upd a (Fo.del n) F).ids ++ (c :: fl)).Perm (F.ids ++ fl) := List.perm_middle.trans (List.Perm.append_right fl hperm.symm)
    exact hp2.mem_iff.2 (hall y h1 h2)
end Go.Proofs.Qxb6500418a
