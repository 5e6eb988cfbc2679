/-
  OWN WORK. THE TABLE LAW's GHOST: what a changing step owes and does (the post of DueSchema and Due).
-/
import Derived.Test.Qxb6500413aGreatJH0
namespace Go.Proofs.Qxb6500413aGreat
open Go.RowKit Go.PlainAid
set_option linter.unusedSimpArgs false
set_option linter.unusedVariables false

def DuP (kind a : Int) (s T : ByteArray) (D : Db) (w : World) (g : Nat) (cv : Value) (cl : List GE) (mv : Value) (ml : List GE) (x : Ending) (w' : World) : Prop :=
  ∃ (cv' : Value) (cl' : List GE), x = .returned (.int .i64 (dueD kind a s T D).2) ∧ GH w' g cv' cl' mv ml true ∧ GP (cl'.map (·.t)) (dueD kind a s T D).1 ∧ (∀ k, GLm cv' cl' k → GLm cv cl k ∨ w.heap.size ≤ k) ∧ (∀ k, GLi cl' k → GLi cl k ∨ w.heap.size ≤ k) ∧ Only (fun k => k = g ∨ GLm cv cl k) w w'
theorem rowOp_nm {kind : Int} {T : ByteArray} {t0 : Tb} : (rowOp kind T t0).1.nm = t0.nm := by
  unfold rowOp delR updR insR
  (repeat' split) <;> rfl
theorem rowOp_same {kind : Int} {T : ByteArray} {t0 : Tb} : (rowOp kind T t0).2 ≠ 0 → (rowOp kind T t0).1 = t0 := by
  unfold rowOp delR updR insR
  (repeat' split) <;> intro z <;> first | rfl | exact absurd rfl z
section
variable {w w' : World} {g : Nat} {cv mv cv' : Value} {cl ml cl' : List GE} {op : Bool} {kind a : Int} {s T : ByteArray} {D : Db}
theorem DuP.same {z : Int} (H : GH w g cv cl mv ml true) (P : GP (cl.map (·.t)) D) (ho : Only (fun _ => False) w w') (hz : dueD kind a s T D = (D, z)) : DuP kind a s T D w g cv cl mv ml (.returned (.int .i64 z)) w' :=
  ⟨cv, cl, by rw [hz], H.quiet ho, by rw [hz]; exact P, fun k hk => .inl hk, fun k hk => .inl hk, ho.mono (fun _ _ e => e.elim)⟩
/-- Other current tables. -/
theorem GH.mk' (H : GH w g cv cl mv ml op) (hs : Has w' g #[cv', mv, .bool op] 38) (G : GL w' cv' cl') (oo : Only (fun k => k = g ∨ GLm cv cl k) w w') (hm : ∀ k, GLm cv' cl' k → GLm cv cl k ∨ w.heap.size ≤ k) : GH w' g cv' cl' mv ml op := by
  have ne := H.com.neT H.has (by decide) (by decide) (by decide) (by decide)
  refine ⟨hs, G, H.com.keep oo (fun k hk hb => ?_) (fun k hk hb => ?_), fun k hk hk' => ?_⟩
  · rcases hb with e | hb
    · exact ne k (.inl hk) e
    · exact H.ap k hb hk
  · rcases hb with e | hb
    · exact ne k (.inr hk) e
    · exact H.cur.mi H.com hb hk
  · rcases hm k hk with c | c
    · exact H.ap k c hk'
    · have := H.com.lt k (.inl hk')
      omega
/-- The current list's block is not the ghost's. -/
theorem GH.bne (H : GH w g cv cl mv ml op) : ∀ k, GLm cv cl k ∨ GLi cl k → k ≠ g := H.cur.neT H.has (by decide) (by decide) (by decide) (by decide)
theorem cixD_yes {t0 : Tb} (d : DOk D) (hf : findD D s = some t0) : (cixD D s a).2 = (cixR t0 a).2 ∧ ((cixR t0 a).2 ≠ 0 → cixD D s a = (D, (cixR t0 a).2)) ∧ ((cixR t0 a).2 = 0 → cixD D s a = (putT (cixR t0 a).1 D, 0)) := by
  unfold cixD onT
  rw [hf]
  refine ⟨rfl, fun h => ?_, fun h => ?_⟩
  · simp only [if_neg h]
  · simp only [h, if_true]
theorem dueD_row (hk : kind = 7 ∨ kind = 8 ∨ kind = 9) : dueD kind a s T D = onT D s (fun t0 => rowOp kind T t0) := by
  unfold dueD rowOp
  rcases hk with rfl | rfl | rfl <;> rfl
/-- A row step on the table found. -/
theorem DuP.row (H : GH w g cv cl mv ml true) (P : GP (cl.map (·.t)) D) (d : DOk D) (hk : kind = 7 ∨ kind = 8 ∨ kind = 9) {b cap i : Nat} {e : GE} {t0 : Tb} (hcv : cv = .slice (some ⟨b, 0, none⟩) cl.length cap) (hi : cl[i]? = some e) (hn : e.t.nm = s) (hf : findD D s = some t0) (h0 : t0 ∈ D) (hg : GT e.t t0) {x : Ending} {w1 : World} (o1 : Only (fun _ => False) w w1) (R : RoP kind T t0 w1 b cap cl i e x w') : DuP kind a s T D w g cv cl mv ml x w' := by
  subst hcv
  obtain ⟨e', rfl, G', gt, ok, oo, hm, hmi⟩ := R
  have hsz := o1.size
  have oo' : Only (fun k => k = g ∨ GLm (.slice (some ⟨b, 0, none⟩) cl.length cap) cl k) w w' := (o1.mono (fun _ _ e => e.elim)).trans oo (fun k _ hk => by
    rcases hk with rfl | hk
    · exact .inr (.inl rfl)
    · exact .inr (.inr ⟨e, List.mem_of_getElem? hi, hk⟩))
  have hm' : ∀ k, GLm (.slice (some ⟨b, 0, none⟩) cl.length cap) (cl.set i e') k → GLm (.slice (some ⟨b, 0, none⟩) cl.length cap) cl k ∨ w.heap.size ≤ k := fun k hk => by
    rcases hk with hk | ⟨x, hx, hk⟩
    · exact .inl (.inl hk)
    · rcases List.mem_or_eq_of_mem_set hx with hx | rfl
      · exact .inl (.inr ⟨x, hx, hk⟩)
      · rcases hm k hk with c | c
        · exact .inl (.inr ⟨e, List.mem_of_getElem? hi, c⟩)
        · exact .inr (by omega)
  have hh : Has w' g #[.slice (some ⟨b, 0, none⟩) cl.length cap, mv, .bool true] 38 := (H.has.keep o1 (fun e => e)).keep oo (fun hk => by
    rcases hk with hk | hk
    · exact H.bne b (.inl (.inl rfl)) hk.symm
    · exact H.bne g (.inl (.inr ⟨e, List.mem_of_getElem? hi, hk⟩)) rfl)
  have hdu := dueD_row (a := a) (s := s) (T := T) (D := D) hk
  have hon : onT D s (fun t0 => rowOp kind T t0) = (if (rowOp kind T t0).2 = 0 then putT (rowOp kind T t0).1 D else D, (rowOp kind T t0).2) := by
    unfold onT
    rw [hf]
  rw [hon] at hdu
  refine ⟨_, cl.set i e', by rw [hdu], H.mk' hh G' oo' hm', ?_, hm', fun k hk => ?_, oo'⟩
  rotate_left
  · obtain ⟨x, hx, hk⟩ := hk
    rcases List.mem_or_eq_of_mem_set hx with hx | rfl
    · exact .inl ⟨x, hx, hk⟩
    · rcases hmi k hk with c | c
      · exact .inl ⟨e, List.mem_of_getElem? hi, c⟩
      · exact .inr (by omega)
  rw [hdu, List.map_set]
  have hi' : (cl.map (·.t))[i]? = some e.t := by rw [List.getElem?_map, hi]; rfl
  have nm' : (rowOp kind T t0).1.nm = t0.nm := rowOp_nm
  by_cases z : (rowOp kind T t0).2 = 0
  · simp only [z, if_true]
    exact P.set d hi' h0 hg.nm gt nm'
  · simp only [if_neg z]
    have : (rowOp kind T t0).1 = t0 := rowOp_same z
    rw [this] at gt
    have := P.set d hi' h0 hg.nm gt rfl
    have e2 : putT t0 D = D := putT_same d h0
    rw [e2] at this
    exact this
end
end Go.Proofs.Qxb6500413aGreat
