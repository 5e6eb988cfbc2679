/-
  OWN WORK. TABLE: Check. (written by tools/gen_eck.py)
-/
import Derived.Test.Qxb6500412aGreatEChT
namespace Go.Proofs.Qxb6500412aGreat
open Go.RowKit Go.PlainAid
set_option linter.unusedSimpArgs false
set_option linter.unusedVariables false

section
variable {q : Gnd} {w : World} {x : Nat} {op : Bool} {S S1 : Vu} {T : List (Tb × Hd)} {t : Tb} {h : Hd}
def nmF (T : List (Tb × Hd)) (k : Nat) (i : Nat) : Bool := decide (i = 0 ∨ i ∈ hands (T.take k))
theorem take_succ' {α : Type} {l : List α} {k : Nat} {x : α} (h : l[k]? = some x) : l.take (k + 1) = l.take k ++ [x] := by
  have hk := (List.getElem?_eq_some_iff.mp h).1
  rw [List.take_succ_eq_append_getElem hk]
  rw [List.getElem?_eq_getElem hk] at h
  rw [Option.some.inj h]
theorem hands_succ {k : Nat} {y : Tb × Hd} (h : T[k]? = some y) : hands (T.take (k + 1)) = hands (T.take k) ++ hnd y := by
  rw [take_succ' h]
  unfold hands
  rw [List.flatMap_append]
  simp
theorem cat_succ {k : Nat} {y : Tb × Hd} (h : T[k]? = some y) : (catL (T.take (k + 1))).length = (catL (T.take k)).length + (1 + y.1.cols.length) := by
  rw [take_succ' h]
  unfold catL
  rw [List.flatMap_append, List.length_append]
  simp [catT]
theorem cat_take_le (k : Nat) : (catL (T.take k)).length ≤ (catL T).length := by
  have : catL T = catL (T.take k) ++ catL (T.drop k) := by
    unfold catL
    rw [← List.flatMap_append, List.take_append_drop]
  rw [this, List.length_append]
  omega
theorem Lay.notyet (L : Lay S T) {k : Nat} {y : Tb × Hd} (h : T[k]? = some y) : ∀ i ∈ hnd y, i ∉ hands (T.take k) := by
  intro i hi c
  obtain ⟨z, hz, hzi⟩ := mem_hands.mp c
  have hp := L.nod
  have hk := (List.getElem?_eq_some_iff.mp h).1
  have e : T = T.take k ++ (y :: T.drop (k + 1)) := by
    rw [List.getElem?_eq_getElem hk] at h
    rw [← Option.some.inj h, ← List.drop_eq_getElem_cons hk, List.take_append_drop]
  rw [e] at hp
  exact (List.pairwise_append.mp hp).2.2 z hz y (by simp) i hzi i hi rfl
theorem Lay.usedIff (L : Lay S T) (i : Nat) : (S i).isSome = nmF T T.length i := by
  unfold nmF
  rw [List.take_length]
  by_cases c : i = 0 ∨ i ∈ hands T
  · rw [decide_eq_true c]
    rcases c with c | c
    · rw [c, L.cat]; rfl
    · cases hs : S i with
      | none => exact absurd c (L.free hs)
      | some l => rfl
  · rw [decide_eq_false c]
    cases hs : S i with
    | none => rfl
    | some l => exact absurd (.inr (L.used i (fun e => c (.inl e)) (by rw [hs]; simp))) c
theorem OwnN.at_ {v : Value} {l : List ByteArray} (h : OwnN w v l) {i : Nat} {y : ByteArray} (hy : l[i]? = some y) : ∃ g cap, v = .slice (some ⟨g, 0, none⟩) l.length cap ∧ w.cell? ⟨g, i, none⟩ = some (.string y) := by
  have hl := (List.getElem?_eq_some_iff.mp hy).1
  rcases h.2 with ⟨hv, hn⟩ | ⟨g, cap, cur, hv, _, hh, _⟩
  · omega
  · subst hv
    have hc := h.cells (g := g) rfl
    have := hc i (.string y) (by rw [List.getElem?_map, hy]; rfl)
    rw [addr_add] at this
    exact ⟨g, cap, rfl, this⟩
end
end Go.Proofs.Qxb6500412aGreat
