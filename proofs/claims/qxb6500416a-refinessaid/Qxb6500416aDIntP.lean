/-
  OWN WORK. THE POOL OF LINES: a line more, in plain terms.
-/
import Derived.Test.Qxb6500416aDReset
namespace Go.Proofs.Qxb6500416a
open Go.RowKit Go.PlainAid
set_option linter.unusedSimpArgs false
set_option linter.unusedVariables false

def addL (L : List Str) (s : Str) : List Str := if s ∈ L then L else L ++ [s]
def numL : List Str → Str → Nat
  | [], _ => 0
  | a :: r, s => if a = s then 0 else numL r s + 1
theorem numL_get : ∀ {L : List Str} {s : Str} {k : Nat}, L.Nodup → (hk : k < L.length) → L[k] = s → numL L s = k
  | [], s, k, _, hk, _ => by simp at hk
  | a :: r, s, 0, _, _, he => by simp at he; simp [numL, he]
  | a :: r, s, k + 1, hn, hk, he => by
    have hn := List.nodup_cons.1 hn
    have hk' : k < r.length := by simpa using hk
    have he' : r[k] = s := by simpa using he
    have hne : ¬ a = s := fun e => hn.1 (by rw [e, ← he']; exact List.getElem_mem hk')
    simp only [numL]
    rw [if_neg hne, numL_get hn.2 hk' he']
theorem numL_out : ∀ {L : List Str} {s : Str}, s ∉ L → numL L s = L.length
  | [], s, _ => rfl
  | a :: r, s, h => by
    have hne : ¬ a = s := fun e => h (by simp [e])
    simp only [numL, List.length_cons]
    rw [if_neg hne, numL_out (fun e => h (by simp [e]))]
theorem addL_nodup {L : List Str} {s : Str} (h : L.Nodup) : (addL L s).Nodup := by
  unfold addL
  split
  · exact h
  · rename_i hn
    refine List.nodup_append.2 ⟨h, by simp, fun a ha b hb => ?_⟩
    simp at hb
    rw [hb]
    intro e
    exact hn (e ▸ ha)
theorem numL_at {L : List Str} {s : Str} {k : Nat} (h : L.Nodup) (hk : k < L.length) (he : L[k] = s) : numL L s = k ∧ addL L s = L := by
  have hm : s ∈ L := he ▸ List.getElem_mem hk
  refine ⟨?_, by unfold addL; rw [if_pos hm]⟩
  exact numL_get h hk he
theorem numL_new {L : List Str} {s : Str} (h : s ∉ L) : numL L s = L.length ∧ addL L s = L ++ [s] :=
  ⟨numL_out h, by unfold addL; rw [if_neg h]⟩
theorem head_new (L : List Str) (s : Str) (b : Nat) : lastB (L ++ [s]) b (L ++ [s]).length = if buck s = b then L.length + 1 else lastB L b L.length := by
  rw [List.length_append, List.length_singleton]
  show (if ((L ++ [s])[L.length]?.map buck) = some b then L.length + 1 else lastB (L ++ [s]) b L.length) = _
  rw [lastB_app L [s] b L.length (Nat.le_refl _), List.getElem?_append_right (Nat.le_refl _)]
  simp
theorem next_new (L : List Str) (s : Str) : (List.range (L ++ [s]).length).map (fun k => Value.int .i64 (lastB (L ++ [s]) (buck ((L ++ [s]).getD k [])) k : Int)) = (List.range L.length).map (fun k => Value.int .i64 (lastB L (buck (L.getD k [])) k : Int)) ++ [.int .i64 (lastB L (buck s) L.length : Int)] := by
  rw [List.length_append, List.length_singleton, List.range_succ, List.map_append]
  congr 1
  · apply List.map_congr_left
    intro k hk
    have hk := List.mem_range.1 hk
    rw [lastB_app L [s] _ k (by omega)]
    have e : (L ++ [s]).getD k [] = L.getD k [] := by
      rw [List.getD_eq_getElem?_getD, List.getD_eq_getElem?_getD, List.getElem?_append_left hk]
    rw [e]
  · have e : (L ++ [s]).getD L.length [] = s := by
      rw [List.getD_eq_getElem?_getD, List.getElem?_append_right (Nat.le_refl _)]
      simp
    rw [List.map_cons, List.map_nil, e, lastB_app L [s] _ L.length (Nat.le_refl _)]
/-- How far a chain has been walked. -/
structure Walked (L : List Str) (s : Str) (n k : Nat) : Prop where
  le : n ≤ L.length
  eq : k = lastB L (buck s) n
  no : ∀ j (h : j < L.length), n ≤ j → L[j] ≠ s
theorem Walked.start (L : List Str) (s : Str) : Walked L s L.length (lastB L (buck s) L.length) := ⟨Nat.le_refl _, rfl, fun j h1 h2 => by omega⟩
theorem Walked.fin {L : List Str} {s : Str} {n : Nat} (h : Walked L s n 0) : s ∉ L := by
  intro hm
  obtain ⟨j, hj, rfl⟩ := List.getElem_of_mem hm
  by_cases hn : n ≤ j
  · exact h.no j hj hn rfl
  · have := (lastB_facts L (buck L[j]) n h.le).1 j (by rw [← h.eq]; omega) (by omega)
    rw [List.getElem?_eq_getElem hj] at this
    exact this rfl
theorem Walked.at {L : List Str} {s : Str} {n k : Nat} (h : Walked L s n (k + 1)) : ∃ hk : k < L.length, buck L[k] = buck s ∧ (L[k] ≠ s → Walked L s k (lastB L (buck L[k]) k)) := by
  have h1 := lastB_le L (buck s) n
  have hk : k < L.length := by have := h.le; have := h.eq; omega
  obtain ⟨f1, f2⟩ := lastB_facts L (buck s) n h.le
  have hb := f2 k h.eq.symm
  rw [List.getElem?_eq_getElem hk] at hb
  have hb : buck L[k] = buck s := by simpa using hb
  refine ⟨hk, hb, fun hne => ⟨by omega, by rw [hb], fun j hj hkj => ?_⟩⟩
  by_cases ej : j = k
  · subst ej; exact hne
  · by_cases hn : n ≤ j
    · exact h.no j hj hn
    · intro e
      have := f1 j (by rw [← h.eq]; omega) (by omega)
      rw [List.getElem?_eq_getElem hj, e] at this
      exact this rfl
end Go.Proofs.Qxb6500416a
