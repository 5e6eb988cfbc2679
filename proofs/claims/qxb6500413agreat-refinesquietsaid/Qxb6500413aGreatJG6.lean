/-
  OWN WORK. THE TABLE LAW's GHOST: a row more; DueRow.
-/
import Derived.Test.Qxb6500413aGreatJG5
namespace Go.Proofs.Qxb6500413aGreat
open Go.RowKit Go.PlainAid
set_option linter.unusedSimpArgs false
set_option linter.unusedVariables false

section
variable {w : World} {l : List GE} {b cap i : Nat} {e : GE}
theorem GL.pushRow (h : GL w (.slice (some ⟨b, 0, none⟩) l.length cap) l) (hi : l[i]? = some e) {u v' : Value} {row : List Vl} {w' : World} {o : Obj} {n : Nat} (hu : OwnV w u row) (ok : GOk (withR e.t (e.t.rows ++ [row]))) (hown : w'.ownsRow 0 76 1 v' n (e.us ++ [u])) (hn : n = e.us.length + 1) (hgrow : (w.alloc o).grownBy w' e.rv.ownBlock) (hwh : ∀ k, v'.ownBlock = some k → e.rv.ownBlock = some k ∨ k = w.heap.size + 1) :
    GL (w'.setCell ⟨b, i * 5 + 4, none⟩ v') (.slice (some ⟨b, 0, none⟩) l.length cap) (l.set i ⟨withR e.t (e.t.rows ++ [row]), e.cv, v', e.us ++ [u]⟩) ∧ Only (GUp b e) w (w'.setCell ⟨b, i * 5 + 4, none⟩ v') := by
  have E := h.el e (List.mem_of_getElem? hi)
  have en := E.n
  have o1 : Only (GEm e) w w' := ((Only.refl (GEm e) w).alloc o).grown hgrow (fun k hk _ => hk)
  have o2 : Only (fun k => k = b) w' (w'.setCell ⟨b, i * 5 + 4, none⟩ v') := only1 _ _
  have oo : Only (GUp b e) w (w'.setCell ⟨b, i * 5 + 4, none⟩ v') := (o1.mono (fun k _ hk => Or.inr hk)).trans o2 (fun k _ hk => .inl hk)
  have bl : b < w.heap.size := ownsRow_lt h.own b rfl
  have imm : ∀ k, GEi e k → ¬ GUp b e k := fun k hk hk' => by
    rcases hk' with hk' | hk'
    · exact h.bne hi k (.inr hk) hk'
    · obtain ⟨c, hc⟩ := ownsRow_has E.rs hk'
      exact E.imm hk hc (by decide) (by decide)
  have uo : OwnV (w'.setCell ⟨b, i * 5 + 4, none⟩ v') u row := hu.keep oo (fun k hk hk' => by
    rcases hk' with hk' | hk'
    · obtain ⟨c, hc⟩ := ownsRow_has h.own (k := b) rfl
      exact ownsRow_ne hu hc (by decide) k hk hk'
    · obtain ⟨c, hc⟩ := ownsRow_has E.rs hk'
      exact ownsRow_ne hu hc (by decide) k hk rfl)
  refine ⟨h.upd hi oo ?_ ⟨ok, E.col.keep oo (fun k hk => imm k (.inl hk)), ?_, ?_, fun p x r hx hr => ?_⟩ rfl (fun k hk => ?_), oo⟩
  · rw [gcs_rv (e' := ⟨withR e.t (e.t.rows ++ [row]), e.cv, v', e.us ++ [u]⟩) hi rfl rfl rfl rfl]
    exact gbrowset (ownsRow_keep h.own o1 (fun k hk hk' => by
      simp [Value.ownBlock] at hk
      subst hk
      exact h.bne hi b (.inl hk') rfl)) _
  · have hl : (e.us ++ [u]).length = n := by simp [hn]
    simp only [hl]
    refine ownsRow_keep hown o2 (fun k hk hk' => ?_)
    rcases hwh k hk with c | c
    · exact h.bne hi k (.inl c) hk'
    · omega
  · simp only [withR, List.length_append, List.length_singleton]; omega
  · simp only [withR] at hr
    by_cases c : p < e.us.length
    · rw [List.getElem?_append_left c] at hx
      rw [List.getElem?_append_left (by omega)] at hr
      exact (E.row p x r hx hr).keep oo (fun k hk => imm k (.inr ⟨x, List.mem_of_getElem? hx, hk⟩))
    · rw [List.getElem?_append_right (by omega)] at hx
      rw [List.getElem?_append_right (by omega), ← en] at hr
      obtain ⟨q, hq⟩ : ∃ q, p - e.us.length = q := ⟨_, rfl⟩
      rw [hq] at hx hr
      cases q with
      | zero =>
        cases hx
        cases hr
        exact uo
      | succ q => simp at hx
  · rcases hwh k hk with c | c
    · exact .inl c
    · exact .inr (by omega)
end
end Go.Proofs.Qxb6500413aGreat
