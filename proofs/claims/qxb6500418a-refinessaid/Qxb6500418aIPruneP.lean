/-
  OWN WORK. THE INDEX's prune, in plain terms.
-/
import Derived.Test.Qxb6500418aIUnlW
namespace Go.Proofs.Qxb6500418a
open Go.RowKit Go.PlainAid
set_option linter.unusedSimpArgs false
set_option linter.unusedVariables false

theorem del_full {n : Str} {K : Fo} (h : K.Full) : (K.del n).Full := by
  induction K with
  | nil => exact h
  | file c n2 d m r ih =>
    simp only [Fo.del]
    by_cases e : n2 = n
    · rw [if_pos e]; exact h
    · rw [if_neg e]; exact ih h
  | dir c n2 k r ihk ih =>
    simp only [Fo.del]
    by_cases e : n2 = n
    · rw [if_pos e]; exact h.2.2
    · rw [if_neg e]; exact ⟨h.1, h.2.1, ih h.2.2⟩
theorem del_mapKid {n : Str} {g : Fo → Fo} {K : Fo} {c : Nat} {k : Fo} (hh : K.hit n = .dir c k) : (K.mapKid n g).del n = K.del n := by
  induction K with
  | nil => rfl
  | file c2 n2 d m r ih =>
    simp only [Fo.hit] at hh
    by_cases e : n2 = n
    · rw [if_pos e] at hh; cases hh
    · rw [if_neg e] at hh
      simp only [Fo.mapKid, Fo.del]
      rw [if_neg e, if_neg e, ih hh]
  | dir c2 n2 k2 r ihk ih =>
    simp only [Fo.hit] at hh
    by_cases e : n2 = n
    · simp only [Fo.mapKid]
      rw [if_pos e]
      simp only [Fo.del]
      rw [if_pos e, if_pos e]
    · rw [if_neg e] at hh
      simp only [Fo.mapKid]
      rw [if_neg e]
      simp only [Fo.del]
      rw [if_neg e, if_neg e, ih hh]
theorem dirAt_full : ∀ {a : List Str} {d0 d : Nat} {F K : Fo}, F.Full → dirAt a d0 F = some (d, K) → K.Full
  | [], d0, d, F, K, hw, h => by cases h; exact hw
  | n :: a, d0, d, F, K, hw, h => by
    obtain ⟨c, k, hh, h'⟩ := dirAt_cons h
    exact dirAt_full (hit_dir_full hw hh).1 h'
theorem fullAt_of {a : List Str} {d0 d : Nat} {F K : Fo} (hf : F.Full) (hd : dirAt a d0 F = some (d, K)) : FullAt a F := by
  intro J hJ hor
  by_cases e : a = []
  · subst e; exact hJ
  · exact upd_full hf hd (fun _ => hJ) (fun _ => hor.resolve_right e)
theorem fullAt_upd {a : List Str} {d0 d : Nat} {G K : Fo} {g : Fo → Fo} (h : FullAt a G) (hd : dirAt a d0 G = some (d, K)) : FullAt a (upd a g G) := by
  intro J hJ hor
  rw [upd_upd hd]
  exact h J hJ hor
theorem dirAt_one {n : Str} {d c : Nat} {K k : Fo} : dirAt [n] d K = some (c, k) ↔ K.hit n = .dir c k := by
  constructor
  · intro h
    obtain ⟨c2, k2, h1, h2⟩ := dirAt_cons h
    cases h2
    exact h1
  · intro h
    unfold dirAt
    rw [h]
    rfl
/-- One directory up. -/
theorem fullAt_up {a : List Str} {n : Str} {d0 d c : Nat} {G K k : Fo} (h : FullAt (a ++ [n]) G) (hd : dirAt a d0 G = some (d, K)) (hh : K.hit n = .dir c k) : FullAt a G ∧ (K.del n).Full := by
  have hX := h (.file 1 [] [] 0 .nil) trivial (.inl (by simp))
  rw [upd_app] at hX
  have hdX := upd_dirAt (g := upd [n] (fun _ => .file 1 [] [] 0 .nil)) hd
  constructor
  · intro J hJ hor
    have := fullAt_of hX hdX J hJ hor
    rw [upd_upd hd] at this
    exact this
  · have hK := dirAt_full hX hdX
    have hK : (K.mapKid n (fun _ => .file 1 [] [] 0 .nil)).Full := hK
    have := del_full (n := n) hK
    rw [del_mapKid hh] at this
    exact this
theorem upd_del_leaf {a : List Str} {n : Str} {d0 d : Nat} {G K : Fo} (hw : G.Wf) (hd : dirAt a d0 G = some (d, K)) (hk : ∀ c k, K.hit n = .dir c k → k = .nil) (rs : List Str) :
    leaf rs (upd a (Fo.del n) G) = if rs = a ++ [n] then none else leaf rs G := by
  obtain ⟨u1, u2⟩ := upd_leaf (g := Fo.del n) rs hd
  by_cases hex : ∃ us, us ≠ [] ∧ rs = a ++ us
  · obtain ⟨us, hus, rfl⟩ := hex
    rw [u1 us hus rfl, del_leaf (dirAt_wf hw hd) us hk, leaf_dirAt hd hus]
    by_cases e : us = [n]
    · rw [if_pos e, if_pos (by rw [e])]
    · rw [if_neg e, if_neg (fun h => e (List.append_cancel_left h))]
  · rw [u2 (fun us hus e => hex ⟨us, hus, e⟩), if_neg]
    intro e
    exact hex ⟨[n], by simp, e⟩
theorem take_succ' {ps : List Str} {k : Nat} (h : k < ps.length) : ps.take (k + 1) = ps.take k ++ [ps[k]] := by
  rw [List.take_add_one, List.getElem?_eq_getElem h]
  rfl
theorem drop_at {ps : List Str} {k : Nat} (h : k < ps.length) : ps.drop k = ps[k] :: ps.drop (k + 1) := (List.getElem_cons_drop h).symm

/-- The way down: the nodes of the first k parts. -/
structure WayD (F : Fo) (ps : List Str) (c : Nat) (wy : Nat → Nat) (k : Nat) : Prop where
  le : k ≤ ps.length
  dir : ∀ j, j ≤ k → j < ps.length → ∃ K, dirAt (ps.take j) 0 F = some (wy j, K)
  last : k = ps.length → wy k = c
theorem WayD.step {F : Fo} {ps : List Str} {c : Nat} {dd : Str} {mm : Int} (hlk : look ps F = .file c dd mm) {wy : Nat → Nat} {k : Nat} (h : WayD F ps c wy k) (hk : k < ps.length) :
    ∃ K, dirAt (ps.take k) 0 F = some (wy k, K) ∧ WayD F ps c (updT wy (k + 1) (idOf (K.hit ps[k]))) (k + 1) := by
  obtain ⟨K, hd⟩ := h.dir k (Nat.le_refl _) hk
  refine ⟨K, hd, ?_⟩
  have e1 : look (ps.take k ++ ps.drop k) F = .file c dd mm := by rw [List.take_append_drop]; exact hlk
  rw [look_dirAt hd (by intro e; have := congrArg List.length e; simp at this; omega), drop_at hk, look_hit] at e1
  have hold : ∀ (v : Nat) j, j ≤ k → updT wy (k + 1) v j = wy j := fun v j hj => updT_other _ _ _ _ (by omega)
  cases hh : K.hit ps[k] with
  | none => rw [hh] at e1; cases e1
  | file c' d' m' =>
    rw [hh] at e1
    by_cases e2 : ps.drop (k + 1) = []
    · simp only [e2, if_true] at e1
      cases e1
      have hl : k + 1 = ps.length := by have := congrArg List.length e2; simp at this; omega
      refine ⟨by omega, fun j h1 h2 => ?_, fun _ => updT_same _ _ _⟩
      rw [hold _ j (by omega)]
      exact h.dir j (by omega) h2
    · simp only [e2, if_false] at e1
      cases e1
  | dir c' k' =>
    rw [hh] at e1
    by_cases e2 : ps.drop (k + 1) = []
    · simp only [e2, if_true] at e1
      cases e1
    · have hl : k + 1 < ps.length := by
        apply Classical.byContradiction
        intro h
        exact e2 (List.drop_eq_nil_of_le (by omega))
      refine ⟨by omega, fun j h1 h2 => ?_, fun e => by omega⟩
      by_cases ej : j = k + 1
      · subst ej
        rw [updT_same]
        refine ⟨k', ?_⟩
        rw [take_succ' hk, dirAt_app hd]
        exact dirAt_one.2 hh
      · rw [hold _ j (by omega)]
        exact h.dir j (by omega) h2

/-- Where prune's climb stands: k parts still lie above. -/
structure Pru (P : Nat → Nd) (fr : Nat) (fl : List Nat) (G F : Fo) (ps : List Str) (wy : Nat → Nat) (k : Nat) : Prop where
  inv : IInv P fr G fl
  wf : G.Wf
  sh : G.Short
  le : k ≤ ps.length
  way : ∀ j, j ≤ k → j < ps.length → ∃ K, dirAt (ps.take j) 0 G = some (wy j, K)
  kind : (k = ps.length ∧ G = F ∧ F.Full ∧ ∃ d m, look ps F = .file (wy k) d m) ∨
    (k < ps.length ∧ leaf ps G = none ∧ (∀ rs, rs ≠ ps → leaf rs G = leaf rs F) ∧ ∃ K, dirAt (ps.take k) 0 G = some (wy k, K) ∧ K.Full ∧ FullAt (ps.take k) G)
structure PrDone (P : Nat → Nd) (fr : Nat) (fl : List Nat) (G F : Fo) (ps : List Str) : Prop where
  inv : IInv P fr G fl
  wf : G.Wf
  sh : G.Short
  full : G.Full
  gone : leaf ps G = none
  oth : ∀ rs, rs ≠ ps → leaf rs G = leaf rs F

section
variable {P : Nat → Nd} {fr : Nat} {fl : List Nat} {G F : Fo} {ps : List Str} {wy : Nat → Nat} {k : Nat}
theorem Pru.down (h : Pru P fr fl G F ps wy k) (hk : k < ps.length) : PrDone P fr fl G F ps ∨ ∃ K, dirAt (ps.take k) 0 G = some (wy k, K) ∧ K = .nil ∧ k ≠ 0 ∧ leaf ps G = none ∧ (∀ rs, rs ≠ ps → leaf rs G = leaf rs F) ∧ FullAt (ps.take k) G := by
  obtain ⟨h1, h2, h3, h4, h5, h6⟩ := h
  rcases h6 with ⟨e, _⟩ | ⟨_, hg, ho, K, hd, hKf, hFA⟩
  · omega
  · by_cases hor : K ≠ .nil ∨ ps.take k = []
    · left
      refine ⟨h1, h2, h3, ?_, hg, ho⟩
      have := hFA K hKf hor
      rw [upd_const_id hd] at this
      exact this
    · right
      refine ⟨K, hd, Classical.byContradiction fun e => hor (.inl e), fun e => hor (.inr (by rw [e]; rfl)), hg, ho, hFA⟩
theorem Pru.root (h : Pru P fr fl G F ps wy 0) (hps : ps ≠ []) : PrDone P fr fl G F ps := by
  have hk : 0 < ps.length := List.length_pos_iff.2 hps
  rcases h.down hk with h | ⟨_, _, _, e, _⟩
  · exact h
  · exact absurd rfl e
theorem Pru.step (h : Pru P fr fl G F ps wy (k + 1)) :
    wy k < 49 ∧ (1 ≤ wy (k + 1) ∧ wy (k + 1) < 49) ∧ ((P (wy (k + 1))).child ≠ 0 → PrDone P fr fl G F ps) ∧
    ((P (wy (k + 1))).child = 0 → ∃ K n, Lay P K (P (wy k)).child ∧ K.ids.length ≤ 48 ∧ Bare K n (wy (k + 1)) ∧ wy k ∉ K.ids ∧
      Pru (unlP P K (wy k) (wy (k + 1)) fr) (wy (k + 1)) (wy (k + 1) :: fl) (upd (ps.take k) (Fo.del n) G) F ps wy k) := by
  have hk : k < ps.length := h.le
  have hS := h
  obtain ⟨h1, h2, h3, h4, h5, h6⟩ := h
  obtain ⟨K, hd⟩ := h5 k (by omega) hk
  have hsub := dirAt_ids hd
  have hlK := Lay.dirAt h1.tr.lay hd
  have hKw := dirAt_wf h2 hd
  have hn0 := h1.tr.nd0
  have hdK := List.nodup_cons.1 (hsub.nodup hn0)
  have hwk : wy k < 49 := by
    have := hsub.subset (by simp : wy k ∈ wy k :: K.ids)
    simp at this
    rcases this with e | e
    · omega
    · exact (h1.tr.lay.rng _ e).2
  have hKl : K.ids.length ≤ 48 := by
    have h1' := hsub.length_le
    have h2' := h1.tr.len
    simp at h1'
    omega
  have hway : ∀ j, j ≤ k → j < ps.length → ∃ K', dirAt (ps.take j) 0 (upd (ps.take k) (Fo.del ps[k]) G) = some (wy j, K') := by
    intro j h1 h2
    obtain ⟨K', hd'⟩ := h5 j (by omega) h2
    have e : ps.take k = ps.take j ++ (ps.take k).drop j := by
      have := (List.take_append_drop j (ps.take k)).symm
      rw [List.take_take, Nat.min_eq_left h1] at this
      exact this
    rw [e, upd_app]
    exact ⟨_, upd_dirAt hd'⟩
  by_cases hlast : k + 1 = ps.length
  · rcases h6 with ⟨_, rfl, hFf, d, m, hlk⟩ | ⟨e, _⟩
    · have eps : ps.take k ++ [ps[k]] = ps := by rw [← take_succ' hk, hlast, List.take_length]
      have e1 : look (ps.take k ++ [ps[k]]) G = .file (wy (k + 1)) d m := by rw [eps]; exact hlk
      rw [look_dirAt hd (by simp), look_hit] at e1
      have hh : K.hit ps[k] = .file (wy (k + 1)) d m := by
        cases hh : K.hit ps[k] with
        | none => rw [hh] at e1; cases e1
        | file c' d' m' => rw [hh] at e1; simp at e1; obtain ⟨a1, a2, a3⟩ := e1; rw [a1, a2, a3]
        | dir c' k' => rw [hh] at e1; simp at e1
      have hc := hlK.rng _ (hit_file_id hh)
      have hnd : ∀ c k', K.hit ps[k] = .dir c k' → k' = .nil := fun c k' e => by rw [hh] at e; cases e
      have hB : Bare K ps[k] (wy (k + 1)) := .inl ⟨d, m, hh⟩
      refine ⟨hwk, hc, fun e => absurd (by rw [hlK.hit_file hh]) e, fun _ => ⟨K, ps[k], hlK, hKl, hB, hdK.1, ?_⟩⟩
      refine ⟨h1.unl hd hB, upd_wf h2 hd (del_wf hKw), Short.upd h3 hd (Short.del (Short.dirAt h3 hd)), by omega, hway, .inr ⟨hk, ?_, fun rs hrs => ?_, K.del ps[k], upd_dirAt hd, del_full (dirAt_full hFf hd), fullAt_upd (fullAt_of hFf hd) hd⟩⟩
      · rw [upd_del_leaf h2 hd hnd, if_pos eps.symm]
      · rw [upd_del_leaf h2 hd hnd, if_neg (by rw [eps]; exact hrs)]
    · omega
  · have hk1 : k + 1 < ps.length := by omega
    obtain ⟨K1, hd1⟩ := h5 (k + 1) (Nat.le_refl _) hk1
    have hd1' := hd1
    rw [take_succ' hk, dirAt_app hd] at hd1'
    have hh := dirAt_one.1 hd1'
    have hc := hlK.rng (wy (k + 1)) ((hit_ids hh).subset (by simp))
    have hl1 := Lay.dirAt h1.tr.lay hd1
    refine ⟨hwk, hc, fun e => ?_, fun e => ?_⟩
    · rcases hS.down hk1 with h | ⟨K2, hd2, e2, _⟩
      · exact h
      · rw [hd1] at hd2
        cases hd2
        exact absurd ((hl1.head).2 e2) e
    · have eK := (hl1.head).1 e
      subst eK
      rcases h6 with ⟨e, _⟩ | ⟨_, hg, ho, K2, hd2, hKf, hFA⟩
      · omega
      · have hnd : ∀ c k', K.hit ps[k] = .dir c k' → k' = .nil := fun c k' e => by rw [hh] at e; cases e; rfl
        have hB : Bare K ps[k] (wy (k + 1)) := .inr hh
        rw [take_succ' hk] at hFA
        obtain ⟨f1, f2⟩ := fullAt_up hFA hd hh
        have hne : ps ≠ ps.take k ++ [ps[k]] := by
          intro e
          have := congrArg List.length e
          simp at this
          omega
        refine ⟨K, ps[k], hlK, hKl, hB, hdK.1, ?_⟩
        refine ⟨h1.unl hd hB, upd_wf h2 hd (del_wf hKw), Short.upd h3 hd (Short.del (Short.dirAt h3 hd)), by omega, hway, .inr ⟨hk, ?_, fun rs hrs => ?_, K.del ps[k], upd_dirAt hd, f2, fullAt_upd f1 hd⟩⟩
        · rw [upd_del_leaf h2 hd hnd, if_neg hne]; exact hg
        · rw [upd_del_leaf h2 hd hnd]
          by_cases e3 : rs = ps.take k ++ [ps[k]]
          · rw [if_pos e3, ← ho rs hrs, e3, leaf_dirAt hd (by simp), leaf_cons, hh]
            simp
          · rw [if_neg e3]; exact ho rs hrs
end
end Go.Proofs.Qxb6500418a
