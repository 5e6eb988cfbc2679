/-
  OWN WORK. THE TABLE LAW's GHOST: a table is turned in place.
-/
import Derived.Test.Qxb6500413aGreatJG3
namespace Go.Proofs.Qxb6500413aGreat
open Go.RowKit Go.PlainAid
set_option linter.unusedSimpArgs false
set_option linter.unusedVariables false

theorem gbrowset {w : World} {e : TypeId} {size g n cap i : Nat} {xs : List Value} (h : w.ownsRow 0 e size (.slice (some ⟨g, 0, none⟩) n cap) n xs) (u : Value) : (w.setCell ⟨g, i, none⟩ u).ownsRow 0 e size (.slice (some ⟨g, 0, none⟩) n cap) n (xs.set i u) := by
  obtain ⟨hl, h1 | ⟨g', cap', cur, e1, hb, hg, hn, hm, hs, ht⟩⟩ := h
  · exact absurd h1.1 (by simp)
  · obtain ⟨rfl, rfl⟩ : g = g' ∧ cap = cap' := by simpa using e1
    have hH : Has w g cur e := hg
    have hW := hH.setCell i u
    exact ⟨by simpa using hl, .inr ⟨g, cap, _, rfl, hb, hW, hn, hm, by simpa using hs, by rw [Array.toList_setIfInBounds, List.take_set, ht]⟩⟩
theorem gownFree {w : World} {e : TypeId} {size g n cap : Nat} {xs : List Value} (h : w.ownsRow 0 e size (.slice (some ⟨g, 0, none⟩) n cap) n xs) (i : Nat) : w.frozen? ⟨g, i, none⟩ = false := by
  obtain ⟨hl, h1 | ⟨g', cap', cur, e1, hb, hg, hn, hm, hs, ht⟩⟩ := h
  · exact absurd h1.1 (by simp)
  · obtain ⟨rfl, rfl⟩ : g = g' ∧ cap = cap' := by simpa using e1
    have hH : Has w g cur e := hg
    exact hH.free i
/-- The row cut short. -/
theorem gcutrow {w : World} {e : TypeId} {size g n m cap : Nat} {xs : List Value} (h : w.ownsRow 0 e size (.slice (some ⟨g, 0, none⟩) n cap) n xs) (hm : m ≤ n) : w.ownsRow 0 e size (.slice (some ⟨g, 0, none⟩) m cap) m (xs.take (m * size)) := by
  obtain ⟨hl, h1 | ⟨g', cap', cur, e1, hb, hg, hn, hm', hs, ht⟩⟩ := h
  · exact absurd h1.1 (by simp)
  · obtain ⟨rfl, rfl⟩ : g = g' ∧ cap = cap' := by simpa using e1
    have hms : m * size ≤ n * size := Nat.mul_le_mul_right _ hm
    refine ⟨by rw [List.length_take, hl]; omega, .inr ⟨g, cap, cur, rfl, hb, hg, by omega, hm', hs, ?_⟩⟩
    rw [← ht, List.take_take, Nat.min_eq_left hms]
/-- The blocks that a step on table e of the list at b may turn. -/
def GUp (b : Nat) (e : GE) (k : Nat) : Prop := k = b ∨ GEm e k
theorem GL.upd {w w' : World} {l : List GE} {b cap i : Nat} {e e' : GE} (h : GL w (.slice (some ⟨b, 0, none⟩) l.length cap) l) (hi : l[i]? = some e) (ho : Only (GUp b e) w w') (own : w'.ownsRow 0 68 5 (.slice (some ⟨b, 0, none⟩) l.length cap) l.length (gcs (l.set i e'))) (E : GEl w' e') (hn : e'.t.nm = e.t.nm) (hm : ∀ k, GEm e' k → GEm e k ∨ w.heap.size ≤ k) : GL w' (.slice (some ⟨b, 0, none⟩) l.length cap) (l.set i e') := by
  have hil := (List.getElem?_eq_some_iff.mp hi).1
  have hie : l[i] = e := (List.getElem?_eq_some_iff.mp hi).2
  have E0 := h.el e (List.mem_of_getElem? hi)
  have sep : ∀ (j : Nat) (hj : j < l.length), j ≠ i → ∀ k, GEm l[j] k → ¬ GEm e k := fun j hj hne k h1 h2 => by
    have hp := List.pairwise_iff_getElem.mp h.sep
    rcases Nat.lt_or_gt_of_ne hne with c | c
    · exact hp j i hj hil c k h1 (by rw [hie]; exact h2)
    · exact hp i j hil hj c k (by rw [hie]; exact h2) h1
  have mi : ∀ k, GUp b e k → ∀ x ∈ l, ¬ GEi x k := fun k hk x hx hxi => by
    refine GL.mi h h (k := k) ?_ ⟨x, hx, hxi⟩
    rcases hk with rfl | hk
    · exact .inl rfl
    · exact .inr ⟨e, List.mem_of_getElem? hi, hk⟩
  have old : ∀ (j : Nat) (hj : j < l.length), j ≠ i → GEl w' l[j] := fun j hj hne => by
    have X := h.el l[j] (List.getElem_mem hj)
    refine X.keep ho (fun k hk hk' => ?_) (fun k hk hk' => mi k hk' l[j] (List.getElem_mem hj) hk)
    rcases hk' with rfl | hk'
    · obtain ⟨c, hc⟩ := ownsRow_has X.rs hk
      obtain ⟨c2, hc2⟩ := ownsRow_has h.own (k := k) rfl
      exact absurd (hc.inj hc2).2 (by decide)
    · exact sep j hj hne k hk hk'
  refine ⟨by rw [List.length_set]; exact own, fun x hx => ?_, ?_, by rw [List.length_set]; exact h.len, ?_⟩
  · obtain ⟨j, hj⟩ := List.getElem?_of_mem hx
    by_cases c : i = j
    · subst c
      rw [List.getElem?_set_self hil] at hj
      cases hj
      exact E
    · rw [List.getElem?_set_ne c] at hj
      obtain ⟨hjl, rfl⟩ := List.getElem?_eq_some_iff.mp hj
      exact old j hjl (fun e => c e.symm)
  · have : (l.set i e').map (·.t.nm) = l.map (·.t.nm) := by
      rw [List.map_set]
      apply List.ext_getElem?
      intro j
      by_cases c : i = j
      · subst c
        rw [List.getElem?_set_self (by simpa using hil)]
        simp [hi, hn]
      · rw [List.getElem?_set_ne c]
    rw [this]
    exact h.nd
  · rw [List.pairwise_iff_getElem]
    intro p q hp hq hpq k h1 h2
    rw [List.length_set] at hp hq
    rw [List.getElem_set] at h1 h2
    by_cases cp : i = p
    · rw [if_pos cp] at h1
      rw [if_neg (by omega)] at h2
      rcases hm k h1 with h3 | h3
      · exact sep q hq (by omega) k h2 h3
      · have := (h.el l[q] (List.getElem_mem hq)).lt k (.inl h2)
        omega
    · rw [if_neg cp] at h1
      by_cases cq : i = q
      · rw [if_pos cq] at h2
        rcases hm k h2 with h3 | h3
        · exact sep p hp (by omega) k h1 h3
        · have := (h.el l[p] (List.getElem_mem hp)).lt k (.inl h1)
          omega
      · rw [if_neg cq] at h2
        exact List.pairwise_iff_getElem.mp h.sep p q hp hq hpq k h1 h2
end Go.Proofs.Qxb6500413aGreat
