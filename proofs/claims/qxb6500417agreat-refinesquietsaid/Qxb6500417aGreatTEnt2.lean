/-
  OWN WORK. THE TREE: what CheckEntries lets by.
-/
import Derived.Test.Qxb6500417aGreatTEnt
namespace Go.Proofs.Qxb6500417aGreat
open Go.RowKit Go.PlainAid
set_option linter.unusedSimpArgs false
set_option linter.unusedVariables false

theorem scan_ok : ∀ (l cur : Str), scanB cur l = true → okP (!cur.isEmpty) l = true
  | [], cur, h => by
    unfold scanB partB at h
    cases cur with
    | nil => simp at h
    | cons c r => rfl
  | c :: l, cur, h => by
    unfold scanB at h
    unfold okP
    by_cases hc : c = 47
    · rw [if_pos hc] at h ⊢
      simp only [Bool.and_eq_true] at h
      have h2 := scan_ok l [] h.2
      have h1 : (!cur.isEmpty) = true := by
        cases cur with
        | nil => simp [partB] at h
        | cons => rfl
      rw [h1]
      simpa using h2
    · rw [if_neg hc] at h ⊢
      simp only [Bool.and_eq_true] at h
      have h2 := scan_ok l (cur ++ [c]) h.2
      have e : (!(cur ++ [c]).isEmpty) = true := by simp
      rw [e] at h2
      exact h2
theorem goodB_ok {p : Str} (h : goodB p = true) : okP false p = true ∧ p.length ≤ 12 := by
  unfold goodB at h
  simp only [Bool.and_eq_true, decide_eq_true_eq] at h
  exact ⟨scan_ok p [] h.2, h.1.2⟩
theorem rowErr_parts {p : Str} {m : Int} {A : List En} (h : rowErr (sb p) m 0 (A.map (fun e => sb e.path)) = 0) : goodB p = true ∧ (0 ≤ m ∧ m ≤ 3) ∧ (∀ B z, A = B ++ [z] → bl z.path p = true) := by
  have hg := rowErr_good h
  rw [ls_sb] at hg
  unfold rowErr at h
  rw [ls_sb, hg] at h
  rw [if_neg (by simp)] at h
  by_cases h1 : m < 0 ∨ 3 < m
  · rw [if_pos h1] at h; omega
  · rw [if_neg h1, if_neg (by omega)] at h
    refine ⟨hg, by omega, fun B z e => ?_⟩
    subst e
    by_cases h2 : (List.map (fun e => sb e.path) (B ++ [z])) ≠ [] ∧ ltS ((List.map (fun e => sb e.path) (B ++ [z])).getLastD ⟨#[]⟩) (sb p) = false
    · rw [if_pos h2] at h; omega
    · have h3 : ltS (sb z.path) (sb p) ≠ false := fun e => h2 ⟨by simp, by simpa using e⟩
      rw [ltS_eq, ls_sb, ls_sb] at h3
      simpa using h3
theorem chkE_ok : ∀ (l A : List En), A.Pairwise (fun a b => bl a.path b.path = true) → chkE l (A.map (fun e => sb e.path)) = 0 → (∀ e ∈ l, goodB e.path = true ∧ 0 ≤ e.mode ∧ e.mode ≤ 3) ∧ (A ++ l).Pairwise (fun a b => bl a.path b.path = true)
  | [], A, hA, _ => ⟨by simp, by simpa using hA⟩
  | e :: l, A, hA, h => by
    unfold chkE at h
    by_cases h1 : rowErr (sb e.path) e.mode 0 (A.map (fun e => sb e.path)) = 0
    · rw [if_pos h1] at h
      obtain ⟨g1, g2, g3⟩ := rowErr_parts h1
      have hA' : (A ++ [e]).Pairwise (fun a b => bl a.path b.path = true) := by
        rw [List.pairwise_append]
        refine ⟨hA, by simp, fun x hx y hy => ?_⟩
        have hy' : y = e := by simpa using hy
        rw [hy']
        rcases List.eq_nil_or_concat A with e' | ⟨B, z, e'⟩
        · rw [e'] at hx; simp at hx
        · have hz := g3 B z (by simpa using e')
          rw [e'] at hx hA
          simp only [List.concat_eq_append, List.mem_append, List.mem_singleton] at hx
          rw [List.concat_eq_append, List.pairwise_append] at hA
          rcases hx with hx | hx
          · exact bl_trans _ _ _ (hA.2.2 x hx z (by simp)) hz
          · rw [hx]; exact hz
      have ih := chkE_ok l (A ++ [e]) hA' (by rw [List.map_append]; exact h)
      refine ⟨fun x hx => ?_, by simpa using ih.2⟩
      rcases List.mem_cons.1 hx with hx | hx
      · rw [hx]; exact ⟨g1, g2⟩
      · exact ih.1 x hx
    · rw [if_neg h1] at h
      exact absurd h h1
theorem checkE_fine {l : List En} (h : checkE l = 0) (hid : ∀ e ∈ l, 1 ≤ e.id ∧ e.id ≤ 48) : Fine l := by
  unfold checkE at h
  by_cases h8 : 8 < l.length
  · rw [if_pos h8] at h; omega
  · rw [if_neg h8] at h
    obtain ⟨h1, h2⟩ := chkE_ok l [] List.Pairwise.nil h
    exact ⟨fun e he => (goodB_ok (h1 e he).1).1, fun e he => (goodB_ok (h1 e he).1).2, by simpa using h2, by omega, hid, fun e he => (h1 e he).2⟩
end Go.Proofs.Qxb6500417aGreat
