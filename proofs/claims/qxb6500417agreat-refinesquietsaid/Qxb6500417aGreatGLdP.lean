/-
  OWN WORK. THE GRAPH: the index of the commits, plain.
-/
import Derived.Test.Qxb6500417aGreatGTab
namespace Go.Proofs.Qxb6500417aGreat
open Go.RowKit Go.PlainAid
set_option linter.unusedSimpArgs false
set_option linter.unusedVariables false

structure OrdX (c : Nat → Cr) (o : Nat → Nat) (n : Nat) : Prop where
  oin : ∀ k, k < n → IsC c (o k)
  srt : ∀ k l, k < l → l < n → (c (o k)).seq < (c (o l)).seq
  all : ∀ i, IsC c i → ∃ k, k < n ∧ o k = i
  z : ∀ k, n ≤ k → o k = 0
theorem OrdX.uniq {c : Nat → Cr} {o o' : Nat → Nat} {n n' : Nat} (h : OrdX c o n) (h' : OrdX c o' n') : n = n' ∧ ∀ k, o k = o' k := by
  have key : ∀ (o o' : Nat → Nat) (n n' : Nat), OrdX c o n → OrdX c o' n' → ∀ k, k < n → k < n' → o k = o' k := fun o o' n n' h h' k => by
    induction k using Nat.strongRecOn with
    | _ k ih =>
      intro hk hk'
      obtain ⟨l, hl, el⟩ := h'.all _ (h.oin k hk)
      rcases Nat.lt_trichotomy l k with hlt | heq | hgt
      · have e1 := ih l hlt (by omega) hl
        have := h.srt l k hlt hk
        rw [e1, el] at this
        omega
      · rw [← el, heq]
      · obtain ⟨m, hm, em⟩ := h.all _ (h'.oin k hk')
        have h1 := h'.srt k l hgt hl
        rw [el] at h1
        have hmk : m < k := by
          rcases Nat.lt_trichotomy m k with a | a | a
          · exact a
          · rw [a] at em; rw [em] at h1; omega
          · have := h.srt k m a hm
            rw [em] at this; omega
        have e1 := ih m hmk (by omega) (by omega)
        have := h'.srt m k hmk hk'
        rw [← e1, em] at this
        omega
  have len : ∀ (o o' : Nat → Nat) (n n' : Nat), OrdX c o n → OrdX c o' n' → ¬ n < n' := fun o o' n n' h h' hlt => by
    obtain ⟨m, hm, em⟩ := h.all _ (h'.oin n hlt)
    have e1 := key o o' n n' h h' m hm (by omega)
    have := h'.srt m n hm hlt
    rw [← e1, em] at this
    omega
  have hn : n = n' := by
    have := len o o' n n' h h'
    have := len o' o n' n h' h
    omega
  refine ⟨hn, fun k => ?_⟩
  by_cases hk : k < n
  · exact key o o' n n' h h' k hk (by omega)
  · rw [h.z k (by omega), h'.z k (by omega)]
/-- The index of the commits below k. -/
structure OrdK (c : Nat → Cr) (o : Nat → Nat) (n k : Nat) : Prop where
  nk : n + 1 ≤ k
  oin : ∀ j, j < n → IsC c (o j) ∧ o j < k
  srt : ∀ j l, j < l → l < n → (c (o j)).seq < (c (o l)).seq
  all : ∀ i, IsC c i → i < k → ∃ j, j < n ∧ o j = i
  z : ∀ j, n ≤ j → o j = 0
theorem OrdK.start (c : Nat → Cr) : OrdK c (fun _ => 0) 0 1 := ⟨by omega, fun j h => by omega, fun j l _ h => by omega, fun i hi hk => by have := hi.1.1; omega, fun _ _ => rfl⟩
theorem OrdK.skip {c : Nat → Cr} {o : Nat → Nat} {n k : Nat} (h : OrdK c o n k) (hk : ¬ IsC c k) : OrdK c o n (k + 1) := by
  refine ⟨by have := h.nk; omega, fun j hj => ⟨(h.oin j hj).1, by have := (h.oin j hj).2; omega⟩, h.srt, fun i hi hlt => ?_, h.z⟩
  have : i ≠ k := fun e => hk (e ▸ hi)
  exact h.all i hi (by omega)
theorem insO_lo {o : Nat → Nat} {p id n j : Nat} (h : j < p) : insO o p id n j = o j := by unfold insO; rw [if_pos h]
theorem insO_at {o : Nat → Nat} {p id n : Nat} : insO o p id n p = id := by unfold insO; rw [if_neg (by omega), if_pos rfl]
theorem insO_hi {o : Nat → Nat} {p id n j : Nat} (h : p < j) (h2 : j ≤ n) : insO o p id n j = o (j - 1) := by unfold insO; rw [if_neg (by omega), if_neg (by omega), if_pos h2]
theorem OrdK.ins {c : Nat → Cr} {o : Nat → Nat} {n k p : Nat} (h : OrdK c o n k) (hk : IsC c k) (hp : p ≤ n) (hi : ∀ j, p ≤ j → j < n → (c k).seq < (c (o j)).seq) (hlo : p = 0 ∨ (c (o (p - 1))).seq ≤ (c k).seq) (ci : ∀ i j, IsC c i → IsC c j → (c i).seq = (c j).seq → i = j) : OrdK c (insO o p k n) (n + 1) (k + 1) := by
  have lo : ∀ j, j < p → (c (o j)).seq < (c k).seq := fun j hj => by
    rcases hlo with e | e
    · omega
    · have h1 : (c (o (p - 1))).seq < (c k).seq := by
        rcases Nat.lt_or_ge (c (o (p - 1))).seq (c k).seq with a | a
        · exact a
        · have e2 := ci _ _ (h.oin (p - 1) (by omega)).1 hk (by omega)
          have := (h.oin (p - 1) (by omega)).2
          omega
      by_cases e3 : j = p - 1
      · rw [e3]; exact h1
      · have := h.srt j (p - 1) (by omega) (by omega); omega
  have cas : ∀ j, j < n + 1 → (j < p ∧ insO o p k n j = o j) ∨ (j = p ∧ insO o p k n j = k) ∨ (p < j ∧ insO o p k n j = o (j - 1)) := fun j hj => by
    rcases Nat.lt_trichotomy j p with a | a | a
    · exact .inl ⟨a, insO_lo a⟩
    · exact .inr (.inl ⟨a, by rw [a]; exact insO_at⟩)
    · exact .inr (.inr ⟨a, insO_hi a (by omega)⟩)
  refine ⟨by have := h.nk; omega, fun j hj => ?_, fun j l hjl hl => ?_, fun i hi' hlt => ?_, fun j hj => ?_⟩
  · rcases cas j hj with ⟨a, e⟩ | ⟨a, e⟩ | ⟨a, e⟩
    · rw [e]; have := h.oin j (by omega); exact ⟨this.1, by omega⟩
    · rw [e]; exact ⟨hk, by omega⟩
    · rw [e]; have := h.oin (j - 1) (by omega); exact ⟨this.1, by omega⟩
  · rcases cas j (by omega) with ⟨a, e⟩ | ⟨a, e⟩ | ⟨a, e⟩ <;> rcases cas l hl with ⟨b, f⟩ | ⟨b, f⟩ | ⟨b, f⟩ <;> rw [e, f]
    · exact h.srt j l hjl (by omega)
    · exact lo j a
    · exact h.srt j (l - 1) (by omega) (by omega)
    · omega
    · omega
    · exact hi (l - 1) (by omega) (by omega)
    · omega
    · omega
    · exact h.srt (j - 1) (l - 1) (by omega) (by omega)
  · by_cases e : i = k
    · exact ⟨p, by omega, by rw [e]; exact insO_at⟩
    · obtain ⟨j, hj, ej⟩ := h.all i hi' (by omega)
      by_cases hjp : j < p
      · exact ⟨j, by omega, by rw [insO_lo hjp]; exact ej⟩
      · exact ⟨j + 1, by omega, by rw [insO_hi (by omega) (by omega)]; exact ej⟩
  · unfold insO
    rw [if_neg (by omega), if_neg (by omega), if_neg (by omega)]
    exact h.z j (by omega)
theorem OrdI.x {c : Nat → Cr} {o : Nat → Nat} {n : Nat} (h : OrdI c o n) : OrdX c o n := ⟨h.oin, h.srt, h.all, h.z⟩
theorem OrdK.x {c : Nat → Cr} {o : Nat → Nat} {n : Nat} (h : OrdK c o n 49) : OrdX c o n := ⟨fun k hk => (h.oin k hk).1, h.srt, fun i hi => h.all i hi (by have := hi.1.2; omega), h.z⟩
end Go.Proofs.Qxb6500417aGreat
