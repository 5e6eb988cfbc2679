/-
  OWN WORK. TXN: Delete (written by tools/gen_x16.py).
-/
import Derived.Test.Qxb6500412aGreatX15
namespace Go.Proofs.Qxb6500412aGreat
open Go.RowKit Go.PlainAid
set_option linter.unusedSimpArgs false
set_option linter.unusedVariables false

section
variable {q : Gnd} {w w' : World} {g x : Nat} {X : Xs} {op : Bool} {S : Vu} {T : List (Tb × Hd)}
/-- A session's write set turned, over the store. -/
theorem XR.setW (h : XR q w g x X op S) {s : Nat} (hs : s < 4) {v' : Value} {l' : List WCh} (hM : XM w' g x (X.setW s v' l')) (ho : Only (X.U g s) w w') (hb : ∀ k, v'.ownBlock = some k → (X.wv s).ownBlock = some k ∨ w.heap.size ≤ k) (hI : ∀ k, WLi l' k → X.I k ∨ (¬ q.A k ∧ k ≠ x)) : XR q w' g x (X.setW s v' l') op S := by
  have hU : ∀ k, X.U g s k → ¬ q.A k ∧ k ≠ x := fun k hk => by
    rcases hk with e | e
    · exact h.off k (.inl e)
    · exact h.off k (.inr (.inl ⟨s, hs, e⟩))
  refine ⟨h.st.keep ho (fun k hk e => ?_), hM, fun k hk => ?_⟩
  · rcases hk with hk | hk
    · exact (hU k e).1 hk
    · exact (hU k e).2 hk
  · rcases hk with hk | ⟨r, hr, hk⟩ | ⟨r, hr, hk⟩
    · exact h.off k (.inl hk)
    · have hw : (X.setW s v' l').wv r = if r = s then v' else X.wv r := rfl
      rw [hw] at hk
      by_cases e : r = s
      · rw [if_pos e] at hk
        rcases hb k hk with e1 | e1
        · exact h.off k (.inr (.inl ⟨s, hs, e1⟩))
        · refine ⟨fun c => ?_, fun c => ?_⟩
          · have := h.st.fv.Alt k c; omega
          · have := h.st.has.lt; omega
      · rw [if_neg e] at hk
        exact h.off k (.inr (.inl ⟨r, hr, hk⟩))
    · have hl : (X.setW s v' l').ws r = if r = s then l' else X.ws r := rfl
      rw [hl] at hk
      by_cases e : r = s
      · rw [if_pos e] at hk
        rcases hI k hk with e1 | e1
        · exact h.off k (.inr (.inr e1))
        · exact e1
      · rw [if_neg e] at hk
        exact h.off k (.inr (.inr ⟨r, hr, hk⟩))
end
end Go.Proofs.Qxb6500412aGreat
