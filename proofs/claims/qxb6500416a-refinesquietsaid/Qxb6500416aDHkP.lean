/-
  OWN WORK. THE HUNKS OF TWO TEXTS, in plain terms.
-/
import Derived.Test.Qxb6500416aDTab
namespace Go.Proofs.Qxb6500416a
set_option linter.unusedSimpArgs false
set_option linter.unusedVariables false

structure Hk where
  at_ : Int
  del : List Str
  ins : List Str
def cutL {α : Type} (l : List α) (a b : Nat) : List α := (l.drop a).take (b - a)
theorem cutL_len {α : Type} (l : List α) (a b : Nat) (h : a ≤ b) (hb : b ≤ l.length) : (cutL l a b).length = b - a := by simp [cutL]; omega
theorem cutL_same {α : Type} (l : List α) (a : Nat) : cutL l a a = [] := by simp [cutL]
theorem cutL_snoc {α : Type} (l : List α) (a b : Nat) (h : a ≤ b) (hb : b < l.length) : cutL l a (b + 1) = cutL l a b ++ [l[b]] := by
  unfold cutL
  have e : b + 1 - a = (b - a) + 1 := by omega
  have hl : b - a < (l.drop a).length := by simp; omega
  rw [e, List.take_succ_eq_append_getElem hl, List.getElem_drop]
  congr 3
  omega
theorem cutL_get {α : Type} (l : List α) (a b i : Nat) (h : i < (cutL l a b).length) (hl : a + i < l.length) : (cutL l a b)[i] = l[a + i] := by
  simp [cutL]
theorem cutL_all {α : Type} (l : List α) (a : Nat) : cutL l a l.length = l.drop a := by
  unfold cutL
  exact List.take_of_length_le (by simp)
theorem cutL_zero {α : Type} (l : List α) : cutL l 0 l.length = l := by rw [cutL_all]; rfl
def gapH (la lb : List Str) (pi pj i j : Nat) : List Hk := if pi < i ∨ pj < j then [⟨pi, cutL la pi i, cutL lb pj j⟩] else []
def hkF (la lb : List Str) : List Int → Nat → Nat → Nat → List Hk
  | [], i, pi, pj => gapH la lb pi pj i lb.length
  | j :: m, i, pi, pj => if j < 0 then hkF la lb m (i + 1) pi pj else gapH la lb pi pj i j.toNat ++ hkF la lb m (i + 1) (i + 1) (j.toNat + 1)
/-- The partners rise from p on, below n. -/
def Rise : List Int → Nat → Nat → Prop
  | [], p, n => p ≤ n
  | j :: m, p, n => (j = -1 ∧ Rise m p n) ∨ (∃ k : Nat, j = (k : Int) ∧ p ≤ k ∧ k < n ∧ Rise m (k + 1) n)
theorem Rise.le : ∀ {m : List Int} {p n : Nat}, Rise m p n → p ≤ n
  | [], p, n, h => h
  | j :: m, p, n, h => by
    rcases h with ⟨_, h⟩ | ⟨k, _, h1, h2, _⟩
    · exact Rise.le h
    · omega
theorem Rise.mono : ∀ {m : List Int} {p q n : Nat}, Rise m p n → q ≤ p → Rise m q n
  | [], p, q, n, h, hq => Nat.le_trans hq h
  | j :: m, p, q, n, h, hq => by
    rcases h with ⟨e, h⟩ | ⟨k, e, h1, h2, h3⟩
    · exact .inl ⟨e, h.mono hq⟩
    · exact .inr ⟨k, e, by omega, h2, h3⟩
theorem mtc_rise {α : Type} [DecidableEq α] : ∀ (n : Nat) (a b : List α) (j : Nat), a.length + b.length ≤ n → Rise (mtc a b j) j (j + b.length)
  | n, [], b, j, _ => by rw [mtc_nil]; show j ≤ _; omega
  | 0, x :: a, b, j, h => by simp at h
  | n + 1, x :: a, [], j, h => by
    rw [mtc_nil']
    exact .inl ⟨rfl, mtc_rise n a [] j (by simp at h ⊢; omega)⟩
  | n + 1, x :: a, y :: b, j, h => by
    simp only [List.length_cons] at h
    rw [mtc_cons]
    split
    · refine .inr ⟨j, rfl, by omega, by simp, ?_⟩
      have := mtc_rise n a b (j + 1) (by omega)
      have e : j + 1 + b.length = j + (y :: b).length := by simp; omega
      rw [e] at this
      exact this
    · split
      · exact .inl ⟨rfl, mtc_rise n a (y :: b) j (by simp only [List.length_cons]; omega)⟩
      · have := mtc_rise n (x :: a) b (j + 1) (by simp only [List.length_cons]; omega)
        have e : j + 1 + b.length = j + (y :: b).length := by simp; omega
        rw [e] at this
        exact this.mono (by omega)
/-- What stands at place i of a rising list. -/
theorem Rise.at {m : List Int} {p n i : Nat} (h : Rise (m.drop i) p n) (hi : i < m.length) : (m[i] = -1 ∧ Rise (m.drop (i + 1)) p n) ∨ (∃ k : Nat, m[i] = (k : Int) ∧ p ≤ k ∧ k < n ∧ Rise (m.drop (i + 1)) (k + 1) n) := by
  rw [List.drop_eq_getElem_cons hi] at h
  exact h
/-- How far the hunks have come. -/
structure HkAt (la lb : List Str) (m : List Int) (out : List Hk) (i pi pj : Nat) : Prop where
  ml : m.length = la.length
  il : i ≤ la.length
  le : pi ≤ i
  rise : Rise (m.drop i) pj lb.length
  eq : hkF la lb m 0 0 0 = out ++ hkF la lb (m.drop i) i pi pj
  len : out.length ≤ pi + pj
section
variable {la lb : List Str} {m : List Int} {out : List Hk} {i pi pj : Nat}
theorem HkAt.start (ml : m.length = la.length) (hr : Rise m 0 lb.length) : HkAt la lb m [] 0 0 0 := ⟨ml, by omega, by omega, hr, rfl, by simp⟩
theorem HkAt.pjle (h : HkAt la lb m out i pi pj) : pj ≤ lb.length := h.rise.le
theorem HkAt.cases (h : HkAt la lb m out i pi pj) (hi : i < la.length) : ∃ hm : i < m.length, (m[i] = -1 ∧ HkAt la lb m out (i + 1) pi pj) ∨
    (∃ k : Nat, m[i] = (k : Int) ∧ pj ≤ k ∧ k < lb.length ∧ HkAt la lb m (out ++ gapH la lb pi pj i k) (i + 1) (i + 1) (k + 1)) := by
  obtain ⟨ml, il, le, rise, eq, len⟩ := h
  have hm : i < m.length := by omega
  refine ⟨hm, ?_⟩
  rcases rise.at hm with ⟨e, hr⟩ | ⟨k, e, h1, h2, hr⟩
  · refine .inl ⟨e, ml, by omega, by omega, hr, ?_, by omega⟩
    rw [eq, List.drop_eq_getElem_cons hm, e]
    rfl
  · refine .inr ⟨k, e, h1, h2, ml, by omega, by omega, hr, ?_, ?_⟩
    · rw [eq, List.drop_eq_getElem_cons hm, e]
      show out ++ (if (k : Int) < 0 then _ else gapH la lb pi pj i (k : Int).toNat ++ hkF la lb (m.drop (i + 1)) (i + 1) (i + 1) ((k : Int).toNat + 1)) = _
      rw [if_neg (by omega), List.append_assoc]
      rfl
    · rw [List.length_append]
      have : (gapH la lb pi pj i k).length ≤ 1 := by unfold gapH; split <;> simp
      omega
theorem HkAt.fin (h : HkAt la lb m out i pi pj) (hi : i = la.length) : hkF la lb m 0 0 0 = out ++ gapH la lb pi pj la.length lb.length := by
  obtain ⟨ml, il, le, rise, eq, len⟩ := h
  rw [eq, List.drop_eq_nil_of_le (by omega), hi]
  rfl
/-- The gap is closed where it ends. -/
theorem HkAt.turn (h : HkAt la lb m out i pi pj) {k : Nat} (hk : (∃ hm : i < m.length, m[i] = (k : Int)) ∨ (i = la.length ∧ k = lb.length)) (hg : pi < i ∨ pj < k) (hle : pj ≤ k) :
    HkAt la lb m (out ++ [⟨pi, cutL la pi i, cutL lb pj k⟩]) i i k := by
  obtain ⟨ml, il, le, rise, eq, len⟩ := h
  suffices hs : hkF la lb m 0 0 0 = (out ++ [⟨pi, cutL la pi i, cutL lb pj k⟩]) ++ hkF la lb (m.drop i) i i k ∧ Rise (m.drop i) k lb.length from ⟨ml, il, Nat.le_refl _, hs.2, hs.1, by simp; omega⟩
  have hgap : gapH la lb pi pj i k = [⟨pi, cutL la pi i, cutL lb pj k⟩] := by unfold gapH; rw [if_pos hg]
  have hnil : gapH la lb i k i k = [] := by unfold gapH; rw [if_neg (by omega)]
  rcases hk with ⟨hm, e⟩ | ⟨e1, e2⟩
  · refine ⟨?_, ?_⟩
    · rw [eq, List.drop_eq_getElem_cons hm, e]
      show out ++ (if (k : Int) < 0 then _ else gapH la lb pi pj i (k : Int).toNat ++ hkF la lb (m.drop (i + 1)) (i + 1) (i + 1) ((k : Int).toNat + 1)) = _ ++ (if (k : Int) < 0 then _ else gapH la lb i k i (k : Int).toNat ++ hkF la lb (m.drop (i + 1)) (i + 1) (i + 1) ((k : Int).toNat + 1))
      rw [if_neg (by omega), if_neg (by omega), Int.toNat_natCast, hgap, hnil]
      simp
    · rcases rise.at hm with ⟨e', _⟩ | ⟨k', e', h1, h2, hr⟩
      · omega
      · have : k' = k := by omega
        subst this
        rw [List.drop_eq_getElem_cons hm, e]
        exact .inr ⟨k', rfl, Nat.le_refl _, h2, hr⟩
  · subst e1
    subst e2
    rw [List.drop_eq_nil_of_le (by omega)] at eq ⊢
    refine ⟨?_, Nat.le_refl _⟩
    rw [eq]
    show out ++ gapH la lb pi pj la.length lb.length = _ ++ gapH la lb la.length lb.length la.length lb.length
    rw [hgap, hnil]
    simp
end
end Go.Proofs.Qxb6500416a
