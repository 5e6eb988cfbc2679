/-
  OWN WORK. THE TABLE LAW's GHOST: DueRow of a Delete.
-/
import Derived.Test.Qxb6500413aGreatJG6
namespace Go.Proofs.Qxb6500413aGreat
open Go.RowKit Go.PlainAid
set_option linter.unusedSimpArgs false
set_option linter.unusedVariables false

def rowOp (kind : Int) (T : ByteArray) (t0 : Tb) : Tb × Int := if kind = 9 then delR t0 (fstP T) else if kind = 8 then updR t0 (rowP T) else insR t0 (rowP T)
/-- Where the blocks of a turned table come from. -/
def GEn (w : World) (e e' : GE) : Prop := (∀ k, GEm e' k → GEm e k ∨ w.heap.size ≤ k) ∧ ∀ k, GEi e' k → GEi e k ∨ w.heap.size ≤ k
def RoP (kind : Int) (T : ByteArray) (t0 : Tb) (w : World) (b cap : Nat) (l : List GE) (i : Nat) (e : GE) (x : Ending) (w' : World) : Prop :=
  ∃ (e' : GE), x = .returned (.int .i64 (rowOp kind T t0).2) ∧ GL w' (.slice (some ⟨b, 0, none⟩) l.length cap) (l.set i e') ∧ GT e'.t (rowOp kind T t0).1 ∧ TbOk (rowOp kind T t0).1 ∧ Only (GUp b e) w w' ∧ GEn w e e'
section
variable {w : World} {l : List GE} {b cap i : Nat} {e : GE} {t0 : Tb}
/-- The last row in the place of one, the last dropped. -/
theorem GL.delRow (h : GL w (.slice (some ⟨b, 0, none⟩) l.length cap) l) (hi : l[i]? = some e) {rg rc j m : Nat} (hrv : e.rv = .slice (some ⟨rg, 0, none⟩) e.t.rows.length rc) (hj : j < e.t.rows.length) (hm : m ≤ e.t.rows.length) {u : Value} {row : List Vl} (hu : OwnV w u row) (ok : GOk (withR e.t ((e.t.rows.set j row).take m))) {w1 : World} (ho : Only (fun _ => False) (w.setCell ⟨rg, j, none⟩ u) w1) :
    GL (w1.setCell ⟨b, i * 5 + 4, none⟩ (.slice (some ⟨rg, 0, none⟩) m rc)) (.slice (some ⟨b, 0, none⟩) l.length cap) (l.set i ⟨withR e.t ((e.t.rows.set j row).take m), e.cv, .slice (some ⟨rg, 0, none⟩) m rc, (e.us.set j u).take m⟩) ∧ Only (GUp b e) w (w1.setCell ⟨b, i * 5 + 4, none⟩ (.slice (some ⟨rg, 0, none⟩) m rc)) := by
  have E := h.el e (List.mem_of_getElem? hi)
  have n := E.n
  have hge : GEm e rg := by unfold GEm; rw [hrv]; rfl
  have o1 : Only (fun k => k = rg) w w1 := (only1 (p := rg) _ _).trans ho (fun _ _ e => e.elim)
  have o2 : Only (fun k => k = b) w1 (w1.setCell ⟨b, i * 5 + 4, none⟩ (.slice (some ⟨rg, 0, none⟩) m rc)) := only1 _ _
  have oo : Only (GUp b e) w (w1.setCell ⟨b, i * 5 + 4, none⟩ (.slice (some ⟨rg, 0, none⟩) m rc)) := (o1.mono (fun k _ hk => Or.inr (by rw [hk]; exact hge))).trans o2 (fun k _ hk => .inl hk)
  have imm : ∀ k, GEi e k → ¬ GUp b e k := fun k hk hk' => by
    rcases hk' with hk' | hk'
    · exact h.bne hi k (.inr hk) hk'
    · obtain ⟨c, hc⟩ := ownsRow_has E.rs hk'
      exact E.imm hk hc (by decide) (by decide)
  have uo : OwnV (w1.setCell ⟨b, i * 5 + 4, none⟩ (.slice (some ⟨rg, 0, none⟩) m rc)) u row := hu.keep oo (fun k hk hk' => by
    rcases hk' with hk' | hk'
    · obtain ⟨c, hc⟩ := ownsRow_has h.own (k := b) rfl
      exact ownsRow_ne hu hc (by decide) k hk hk'
    · obtain ⟨c, hc⟩ := ownsRow_has E.rs hk'
      exact ownsRow_ne hu hc (by decide) k hk rfl)
  refine ⟨h.upd hi oo ?_ ⟨ok, E.col.keep oo (fun k hk => imm k (.inl hk)), ?_, ?_, fun p x r hx hr => ?_⟩ rfl (fun k hk => .inl ?_), oo⟩
  · rw [gcs_rv (e' := ⟨withR e.t ((e.t.rows.set j row).take m), e.cv, .slice (some ⟨rg, 0, none⟩) m rc, (e.us.set j u).take m⟩) hi rfl rfl rfl rfl]
    exact gbrowset (ownsRow_keep h.own o1 (fun k hk hk' => by
      simp [Value.ownBlock] at hk
      exact h.bne hi rg (.inl hge) (by omega))) _
  · have R := E.rs
    rw [hrv, n] at R
    have hl : ((e.us.set j u).take m).length = m := by rw [List.length_take, List.length_set]; omega
    simp only [hl]
    have R1 := ownsRow_keep (gbrowset (i := j) R u) ho (fun _ _ e => e)
    have R2 := gcutrow R1 hm
    rw [Nat.mul_one] at R2
    exact ownsRow_keep R2 o2 (fun k hk e' => h.bne hi k (.inl (by simp [Value.ownBlock] at hk; rw [← hk]; exact hge)) e')
  · simp only [withR, List.length_take, List.length_set]; omega
  · simp only [withR] at hr
    rw [List.getElem?_take] at hx hr
    by_cases c : p < m
    · rw [if_pos c] at hx hr
      by_cases cc : j = p
      · subst cc
        rw [List.getElem?_set_self (by omega)] at hx
        rw [List.getElem?_set_self hj] at hr
        cases hx
        cases hr
        exact uo
      · rw [List.getElem?_set_ne cc] at hx hr
        exact (E.row p x r hx hr).keep oo (fun k hk => imm k (.inr ⟨x, List.mem_of_getElem? hx, hk⟩))
    · rw [if_neg c] at hx; cases hx
  · have : k = rg := by unfold GEm at hk; simp [Value.ownBlock] at hk; exact hk.symm
    rw [this]
    exact hge
theorem RoP.same {kind z : Int} {T : ByteArray} {w' : World} (G : GL w (.slice (some ⟨b, 0, none⟩) l.length cap) l) (hi : l[i]? = some e) (g : GT e.t t0) (h0 : TbOk t0) (ho : Only (fun _ => False) w w') (hz : rowOp kind T t0 = (t0, z)) : RoP kind T t0 w b cap l i e (.returned (.int .i64 z)) w' := by
  refine ⟨e, by rw [hz], ?_, by rw [hz]; exact g, by rw [hz]; exact h0, ho.mono (fun _ _ e => e.elim), fun k hk => .inl hk, fun k hk => .inl hk⟩
  have : l.set i e = l := by
    obtain ⟨hl, rfl⟩ := List.getElem?_eq_some_iff.mp hi
    exact List.set_getElem_self hl
  rw [this]
  exact G.quiet ho
end
end Go.Proofs.Qxb6500413aGreat
