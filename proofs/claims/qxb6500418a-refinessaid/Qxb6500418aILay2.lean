/-
  OWN WORK. THE INDEX's POOL, in plain terms: tree and free list; a link.
-/
import Derived.Test.Qxb6500418aILink
namespace Go.Proofs.Qxb6500418a
open Go.RowKit Go.PlainAid
set_option linter.unusedSimpArgs false
set_option linter.unusedVariables false

theorem mapKid_more {n : Str} {h : Fo → Fo} {F : Fo} {c' c : Nat} {k : Fo} (hh : F.hit n = .dir c' k) (hp : (h k).ids.Perm (c :: k.ids)) : (F.mapKid n h).ids.Perm (c :: F.ids) := by
  induction F with
  | nil => cases hh
  | file c2 n2 d2 m2 r ih =>
    simp only [Fo.hit] at hh
    by_cases e : n2 = n
    · rw [if_pos e] at hh; cases hh
    · rw [if_neg e] at hh
      simp only [Fo.mapKid, Fo.ids]
      exact (List.Perm.cons c2 (ih hh)).trans (List.Perm.swap c c2 _)
  | dir c2 n2 k2 r ihk ih =>
    simp only [Fo.hit] at hh
    by_cases e : n2 = n
    · rw [if_pos e] at hh
      cases hh
      simp only [Fo.mapKid]
      rw [if_pos e]
      simp only [Fo.ids]
      refine (List.Perm.cons c' ?_).trans (List.Perm.swap c c' _)
      exact (List.Perm.append_right r.ids hp)
    · rw [if_neg e] at hh
      simp only [Fo.mapKid]
      rw [if_neg e]
      simp only [Fo.ids]
      refine (List.Perm.cons c2 ((List.Perm.append_left k2.ids (ih hh)).trans List.perm_middle)).trans (List.Perm.swap c c2 _)
theorem mapKid_less {n : Str} {h : Fo → Fo} {F : Fo} {c' c : Nat} {k : Fo} (hh : F.hit n = .dir c' k) (hp : k.ids.Perm (c :: (h k).ids)) : F.ids.Perm (c :: (F.mapKid n h).ids) := by
  induction F with
  | nil => cases hh
  | file c2 n2 d2 m2 r ih =>
    simp only [Fo.hit] at hh
    by_cases e : n2 = n
    · rw [if_pos e] at hh; cases hh
    · rw [if_neg e] at hh
      simp only [Fo.mapKid, Fo.ids]
      exact (List.Perm.cons c2 (ih hh)).trans (List.Perm.swap c c2 _)
  | dir c2 n2 k2 r ihk ih =>
    simp only [Fo.hit] at hh
    by_cases e : n2 = n
    · rw [if_pos e] at hh
      cases hh
      simp only [Fo.mapKid]
      rw [if_pos e]
      simp only [Fo.ids]
      refine (List.Perm.cons c' ?_).trans (List.Perm.swap c c' _)
      exact (List.Perm.append_right r.ids hp)
    · rw [if_neg e] at hh
      simp only [Fo.mapKid]
      rw [if_neg e]
      simp only [Fo.ids]
      refine (List.Perm.cons c2 ((List.Perm.append_left k2.ids (ih hh)).trans List.perm_middle)).trans (List.Perm.swap c c2 _)
theorem mapKid_same {n : Str} {h : Fo → Fo} {F : Fo} {c' : Nat} {k : Fo} (hh : F.hit n = .dir c' k) (hp : (h k).ids = k.ids) : (F.mapKid n h).ids = F.ids := by
  induction F with
  | nil => cases hh
  | file c2 n2 d2 m2 r ih =>
    simp only [Fo.hit] at hh
    by_cases e : n2 = n
    · rw [if_pos e] at hh; cases hh
    · rw [if_neg e] at hh
      simp only [Fo.mapKid, Fo.ids, ih hh]
  | dir c2 n2 k2 r ihk ih =>
    simp only [Fo.hit] at hh
    by_cases e : n2 = n
    · rw [if_pos e] at hh
      cases hh
      simp only [Fo.mapKid]
      rw [if_pos e]
      simp only [Fo.ids, hp]
    · rw [if_neg e] at hh
      simp only [Fo.mapKid]
      rw [if_neg e]
      simp only [Fo.ids, ih hh]
theorem upd_more : ∀ {a : List Str} {g : Fo → Fo} {d0 d c : Nat} {F K : Fo}, dirAt a d0 F = some (d, K) → (g K).ids.Perm (c :: K.ids) → (upd a g F).ids.Perm (c :: F.ids)
  | [], g, d0, d, c, F, K, h, hp => by cases h; exact hp
  | n :: a, g, d0, d, c, F, K, h, hp => by
    obtain ⟨c2, k, hh, h'⟩ := dirAt_cons h
    exact mapKid_more hh (upd_more h' hp)
theorem upd_less : ∀ {a : List Str} {g : Fo → Fo} {d0 d c : Nat} {F K : Fo}, dirAt a d0 F = some (d, K) → K.ids.Perm (c :: (g K).ids) → F.ids.Perm (c :: (upd a g F).ids)
  | [], g, d0, d, c, F, K, h, hp => by cases h; exact hp
  | n :: a, g, d0, d, c, F, K, h, hp => by
    obtain ⟨c2, k, hh, h'⟩ := dirAt_cons h
    exact mapKid_less hh (upd_less h' hp)
theorem upd_same : ∀ {a : List Str} {g : Fo → Fo} {d0 d : Nat} {F K : Fo}, dirAt a d0 F = some (d, K) → (g K).ids = K.ids → (upd a g F).ids = F.ids
  | [], g, d0, d, F, K, h, hp => by cases h; exact hp
  | n :: a, g, d0, d, F, K, h, hp => by
    obtain ⟨c2, k, hh, h'⟩ := dirAt_cons h
    exact mapKid_same hh (upd_same h' hp)

/-- The free list: wiped nodes, one behind the other. -/
def FreeL (P : Nat → Nd) : List Nat → Nat → Prop
  | [], p => p = 0
  | c :: l, p => p = c ∧ (1 ≤ c ∧ c < 49) ∧ P c = ⟨[], 0, (P c).next, false, [], 0, 0, 0⟩ ∧ FreeL P l (P c).next
theorem FreeL.congr {P P' : Nat → Nd} : ∀ {l : List Nat} {p : Nat}, FreeL P l p → (∀ c ∈ l, P' c = P c) → FreeL P' l p
  | [], p, h, _ => h
  | c :: l, p, h, he => by
    obtain ⟨h1, h2, h3, h4⟩ := h
    have e := he c (by simp)
    refine ⟨h1, h2, by rw [e]; exact h3, ?_⟩
    rw [e]
    exact h4.congr (fun x hx => he x (by simp [hx]))
theorem FreeL.rng {P : Nat → Nd} : ∀ {l : List Nat} {p : Nat}, FreeL P l p → ∀ c ∈ l, 1 ≤ c ∧ c < 49
  | [], p, h, c, hc => by simp at hc
  | c :: l, p, h, x, hx => by
    obtain ⟨h1, h2, h3, h4⟩ := h
    simp at hx
    rcases hx with rfl | hx
    · exact h2
    · exact h4.rng x hx
/-- Every node is in the tree or on the free list, once. -/
structure IInv (P : Nat → Nd) (fr : Nat) (F : Fo) (fl : List Nat) : Prop where
  tr : II P F
  fre : FreeL P fl fr
  nd : (F.ids ++ fl).Nodup
  all : ∀ c, 1 ≤ c → c < 49 → c ∈ F.ids ++ fl

theorem linkP_at {P : Nat → Nd} {K : Fo} {c d : Nat} {n : Str} {file : Bool} (hcK : c ∉ K.ids) (hdK : d ∉ K.ids) (hcd : c ≠ d) (h0 : 0 ∉ K.ids) :
    linkP P K c d n file c = ⟨n, 0, (K.spot (keyF n file) 0).2, file, [], 0, 0, 0⟩ ∧
    ((K.spot (keyF n file) 0).1 = 0 → linkP P K c d n file d = { P d with child := c } ∧ ∀ x, x ≠ c → x ≠ d → linkP P K c d n file x = P x) ∧
    ((K.spot (keyF n file) 0).1 ≠ 0 → linkP P K c d n file (K.spot (keyF n file) 0).1 = { P (K.spot (keyF n file) 0).1 with next := c } ∧ ∀ x, x ≠ c → x ≠ (K.spot (keyF n file) 0).1 → linkP P K c d n file x = P x) := by
  have hm := spot_mem (keyF n file) K 0
  unfold linkP
  generalize K.spot (keyF n file) 0 = sp at *
  by_cases e : sp.1 = 0
  · rw [if_pos e]
    refine ⟨by rw [updT_other _ _ _ _ hcd, updT_same], fun _ => ⟨by rw [updT_same], fun x h1 h2 => by rw [updT_other _ _ _ _ h2, updT_other _ _ _ _ h1]⟩, fun h => absurd e h⟩
  · rw [if_neg e]
    have hin := hm.resolve_left e
    have hne : c ≠ sp.1 := fun e2 => hcK (e2 ▸ hin)
    exact ⟨by rw [updT_other _ _ _ _ hne, updT_same], fun h => absurd h e, fun _ => ⟨by rw [updT_same], fun x h1 h2 => by rw [updT_other _ _ _ _ h2, updT_other _ _ _ _ h1]⟩⟩

theorem IInv.link {P : Nat → Nd} {F K : Fo} {c d : Nat} {fl : List Nat} {a : List Str} (h : IInv P c F (c :: fl)) (hat : dirAt a 0 F = some (d, K)) (n : Str) (file : Bool) :
    IInv (linkP P K c d n file) (P c).next (upd a (Fo.ins c n file) F) fl := by
  obtain ⟨hI, hf, hnd, hall⟩ := h
  obtain ⟨_, hc, _, hf2⟩ := hf
  have hnd' := List.nodup_append.1 hnd
  have hsub := dirAt_ids hat
  have hn0 := hI.nd0
  have hdK : (d :: K.ids).Nodup := hsub.nodup hn0
  have hdK' := List.nodup_cons.1 hdK
  have hcF : c ∉ F.ids := fun hm => hnd'.2.2 c hm c (by simp) rfl
  have hKF : ∀ y ∈ K.ids, y ∈ F.ids := by
    intro y hy
    have := hsub.subset (by simp [hy] : y ∈ d :: K.ids)
    simp at this
    rcases this with e | e
    · exfalso
      subst e
      cases a with
      | nil => cases hat; exact (List.nodup_cons.1 hn0).1 hy
      | cons n2 a2 =>
        obtain ⟨c2, k2, hh, h'⟩ := dirAt_cons hat
        have hm : (0 : Nat) ∈ F.ids := (hit_ids hh).subset ((dirAt_ids h').subset (by simp [hy]))
        exact (List.nodup_cons.1 hn0).1 hm
    · exact e
  have hcK : c ∉ K.ids := fun hm => hcF (hKF c hm)
  have h0K : 0 ∉ K.ids := fun hm => (List.nodup_cons.1 hn0).1 (hKF 0 hm)
  have hcd : c ≠ d := by
    intro e
    have := hsub.subset (by simp : d ∈ d :: K.ids)
    simp at this
    rcases this with e2 | e2
    · omega
    · exact hcF (e ▸ e2)
  obtain ⟨l1, l2, l3⟩ := linkP_at (P := P) (n := n) (file := file) hcK hdK'.1 hcd h0K
  have hlK := Lay.dirAt hI.lay hat
  obtain ⟨i1, i2⟩ := Lay.ins (P := P) (P' := linkP P K c d n file) (c := c) (n := n) (file := file) (b := 0) hlK hdK'.2 hcK hc h0K l1
  have hperm : (upd a (Fo.ins c n file) F).ids.Perm (c :: F.ids) := upd_more hat ins_ids
  have hmem := spot_mem (keyF n file) K 0
  have hoth : ∀ y, y ≠ c → y ≠ d → y ∉ K.ids → linkP P K c d n file y = P y := by
    intro y h1 h2 h3
    by_cases e : (K.spot (keyF n file) 0).1 = 0
    · exact (l2 e).2 y h1 h2
    · exact (l3 e).2 y h1 (fun e2 => h3 (e2 ▸ hmem.resolve_left e))
  have hd' : linkP P K c d n file d = { P d with child := (linkP P K c d n file d).child } := by
    by_cases e : (K.spot (keyF n file) 0).1 = 0
    · rw [(l2 e).1]
    · rw [(l3 e).2 d (fun e2 => hcd e2.symm) (fun e2 => hdK'.1 (e2 ▸ hmem.resolve_left e))]
  have hlay : Lay (linkP P K c d n file) (K.ins c n file) (linkP P K c d n file d).child := by
    by_cases e : (K.spot (keyF n file) 0).1 = 0
    · rw [(l2 e).1]
      exact i1 e (fun y hy => (l2 e).2 y (fun e2 => hcK (e2 ▸ hy)) (fun e2 => hdK'.1 (e2 ▸ hy)))
    · rw [(l3 e).2 d (fun e2 => hcd e2.symm) (fun e2 => hdK'.1 (e2 ▸ hmem.resolve_left e))]
      exact (i2 e).2 (fun y hy hne => (l3 e).2 y (fun e2 => hcK (e2 ▸ hy)) hne) (l3 e).1
  have hdF : ∀ y ∈ fl, y ≠ c ∧ y ≠ d ∧ y ∉ K.ids := by
    intro y hy
    have hyF : y ∉ F.ids := fun hm => hnd'.2.2 y hm y (by simp [hy]) rfl
    refine ⟨fun e => (List.nodup_cons.1 hnd'.2.1).1 (e ▸ hy), fun e => ?_, fun hm => hyF (hKF y hm)⟩
    have := hsub.subset (by simp : d ∈ d :: K.ids)
    simp at this
    rcases this with e2 | e2
    · have := hf2.rng y hy; omega
    · exact hyF (e ▸ e2)
  refine ⟨⟨?_, ?_, ?_⟩, ?_, ?_, ?_⟩
  · by_cases e0 : d = 0
    · rw [← e0, hd', ]
      have := hI.root
      rw [← e0] at this
      rw [this]
    · rw [hoth 0 (by omega) (fun e => e0 e.symm) h0K]
      exact hI.root
  · refine Lay.upd hI.lay hat hn0 (fun y hy h1 h2 => ?_) hd' hlay
    refine hoth y (fun e => ?_) h1 h2
    subst e
    simp at hy
    rcases hy with e2 | e2
    · omega
    · exact hcF e2
  · exact hperm.nodup_iff.2 (List.nodup_cons.2 ⟨hcF, hI.nd⟩)
  · exact hf2.congr (fun y hy => hoth y (hdF y hy).1 (hdF y hy).2.1 (hdF y hy).2.2)
  · have hp2 : (upd a (Fo.ins c n file) F).ids ++ fl |>.Perm (F.ids ++ (c :: fl)) := (List.Perm.append_right fl hperm).trans List.perm_middle.symm
    exact hp2.nodup_iff.2 hnd
  · intro y h1 h2
    have hp2 : (upd a (Fo.ins c n file) F).ids ++ fl |>.Perm (F.ids ++ (c :: fl)) := (List.Perm.append_right fl hperm).trans List.perm_middle.symm
    exact hp2.mem_iff.2 (hall y h1 h2)
end Go.Proofs.Qxb6500418a
