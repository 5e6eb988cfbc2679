/-
  OWN WORK. THE TABLE LAW's MODEL, plain: a database turned.
-/
import Derived.Test.Qxb6500412aGreatMP1
namespace Go.Proofs.Qxb6500412aGreat
open Go.RowKit Go.PlainAid
set_option linter.unusedSimpArgs false
set_option linter.unusedVariables false

section
variable {D : Db} {t t' : Tb} {i : Nat}
theorem DOk.before (d : DOk D) (hi : D[i]? = some t) : ∀ (j : Nat) (x : Tb), j < i → D[j]? = some x → lt x.nm t.nm = true := fun j x hj hx => by
  obtain ⟨l1, e1⟩ := List.getElem?_eq_some_iff.mp hx
  obtain ⟨l2, e2⟩ := List.getElem?_eq_some_iff.mp hi
  have := List.pairwise_iff_getElem.mp d.srt j i l1 l2 hj
  rw [e1, e2] at this
  exact this
theorem putT_set (d : DOk D) (hi : D[i]? = some t) (hn : t'.nm = t.nm) : putT t' D = D.set i t' := putBy_on (fun t : Tb => t.nm) t' D i (fun j x hj hx => by rw [hn]; exact d.before hi j x hj hx) ⟨t, hi, hn.symm⟩
theorem DOk.put (d : DOk D) (ok : TbOk t') (hl : (putT t' D).length ≤ 3) : DOk (putT t' D) :=
  ⟨fun x hx => by
    rcases putBy_mem (fun t : Tb => t.nm) hx with rfl | h
    · exact ok
    · exact d.tb x h, putBy_srt (fun t : Tb => t.nm) d.srt, hl⟩
theorem DOk.set (d : DOk D) (hi : D[i]? = some t) (ok : TbOk t') (hn : t'.nm = t.nm) : DOk (D.set i t') := by
  rw [← putT_set d hi hn]
  refine d.put ok ?_
  rw [putT_set d hi hn, List.length_set]
  exact d.len
theorem DOk.drop (d : DOk D) (s : ByteArray) : DOk (D.filter (fun t => decide (t.nm ≠ s))) :=
  ⟨fun x hx => d.tb x (List.mem_filter.mp hx).1, d.srt.filter _, Nat.le_trans (List.length_filter_le _ _) d.len⟩
/-- The rows without the one at a place. -/
theorem drop_at {α : Type} [DecidableEq α] {f : α → ByteArray} : ∀ {l : List α} {p : Nat} {x : α}, l.Pairwise (fun a b => lt (f a) (f b) = true) → l[p]? = some x → l.filter (fun y => decide (f y ≠ f x)) = l.take p ++ l.drop (p + 1)
  | [], p, x, _, h => by simp at h
  | a :: l, 0, x, hs, h => by
    obtain rfl : a = x := by simpa using h
    obtain ⟨h1, _⟩ := List.pairwise_cons.mp hs
    rw [List.filter_cons_of_neg (by simp)]
    have : l.filter (fun y => decide (f y ≠ f a)) = l := by
      rw [List.filter_eq_self]
      intro y hy
      have hne : f y ≠ f a := fun e => by
        have := h1 y hy
        rw [e, lt_irr] at this
        cases this
      simp [hne]
    rw [this]
    rfl
  | a :: l, p + 1, x, hs, h => by
    obtain ⟨h1, h2⟩ := List.pairwise_cons.mp hs
    have hx : l[p]? = some x := by simpa using h
    have hne : f a ≠ f x := fun e => by
      have := h1 x (List.mem_of_getElem? hx)
      rw [e, lt_irr] at this
      cases this
    rw [List.filter_cons_of_pos (by simp [hne]), drop_at h2 hx]
    rfl
end
section
variable {t : Tb} {key : Vl} {p : Nat} {row : List Vl}
theorem GT.refl (t : Tb) : GT t t := ⟨rfl, rfl, rfl, rfl, List.Perm.refl _⟩
theorem Plc.grr_yes (ok : TbOk t) (hf : key.fit) (hs : ∀ x, t.cols[t.pk]? = some x → key.str = x.2) (h : Plc t key p true) : GRR t key p := by
  obtain ⟨r, hr, _⟩ := h.yes ok hf hs
  obtain ⟨h1, h2⟩ := h.2.2.1 (List.getElem?_eq_some_iff.mp hr).1 r hr
  exact .inr ⟨p, r, hr, rfl, by simpa using h2.symm⟩
theorem Plc.grr_no (ok : TbOk t) (hf : key.fit) (hs : ∀ x, t.cols[t.pk]? = some x → key.str = x.2) (h : Plc t key p false) : GRR t key (-1) := by
  obtain ⟨h1, _⟩ := h.no ok hf hs
  refine .inl ⟨rfl, fun x hx e => ?_⟩
  obtain ⟨cx, hcx⟩ := getE (l := t.cols) (i := t.pk) ok.pkn
  obtain ⟨a, b⟩ := RowOk.kc ok hcx hx
  have := (vcmp_zero hf a (by rw [b, hs cx hcx])).mp e
  unfold fndK at h1
  have h2 := List.find?_eq_none.mp h1 x hx
  simp at h2
  exact h2 (by unfold pkK; rw [this])
end
end Go.Proofs.Qxb6500412aGreat
