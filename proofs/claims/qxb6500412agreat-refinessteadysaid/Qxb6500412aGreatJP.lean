/-
  OWN WORK. THE TABLE LAW's GHOST, plain: rows in any order against a table of the database.
-/
import Derived.Test.Qxb6500412aGreatJG1
namespace Go.Proofs.Qxb6500412aGreat
open Go.RowKit Go.PlainAid
set_option linter.unusedSimpArgs false
set_option linter.unusedVariables false

theorem vcmp_zero {a b : Vl} (ha : a.fit) (hb : b.fit) (hs : a.str = b.str) : vcmp a b = 0 ↔ a = b := by
  have h1 := cV_lt ha hb hs
  have h2 := cV_lt hb ha hs.symm
  rw [← vcmp_flip] at h2
  constructor
  · intro h0
    rw [h0] at h1 h2
    rcases lt_total (cV a) (cV b) with c | c | c
    · rw [c] at h1; simp at h1
    · exact cV_inj ha hb hs c
    · rw [c] at h2; simp at h2
  · rintro rfl
    rw [lt_irr] at h1 h2
    have q1 := of_decide_eq_false h1.symm
    have q2 := of_decide_eq_false h2.symm
    omega
theorem nodup_inj {α : Type} {l : List α} (h : l.Nodup) {i j : Nat} (hi : i < l.length) (hj : j < l.length) (e : l[i] = l[j]) : i = j := by
  have hp := List.pairwise_iff_getElem.mp h
  rcases Nat.lt_trichotomy i j with c | c | c
  · exact absurd e (hp i j hi hj c)
  · exact c
  · exact absurd e.symm (hp j i hj hi c)
theorem kyR_at {pk : Nat} {r : List Vl} {v : Vl} (h : r[pk]? = some v) : kyR pk r = v := by unfold kyR; rw [h]; rfl
theorem RowOk.ky {c : List Cl} {r : List Vl} (h : RowOk c r) {pk : Nat} (hp : pk < c.length) : (kyR pk r).fit ∧ some (kyR pk r).str = (c[pk]?).map (·.2) ∧ r[pk]? = some (kyR pk r) := by
  obtain ⟨v, hv⟩ := getE (l := r) (i := pk) (by rw [h.len]; exact hp)
  rw [kyR_at hv]
  refine ⟨h.2 v (List.mem_of_getElem? hv), ?_, hv⟩
  have := congrArg (fun l => l[pk]?) h.1
  simpa [hv] using this
/-- A ghost's table against a table of the database. -/
structure GT (t t0 : Tb) : Prop where
  nm : t.nm = t0.nm
  cols : t.cols = t0.cols
  pk : t.pk = t0.pk
  ix : t.ix = t0.ix
  rows : t.rows.Perm t0.rows
theorem TbOk.nodup {t : Tb} (h : TbOk t) : (t.rows.map (kyR t.pk)).Nodup := by
  rw [List.Nodup, List.pairwise_map]
  refine h.srt.imp (fun {a b} hab e => ?_)
  unfold pkK at hab
  rw [e, lt_irr] at hab
  cases hab
theorem GT.ok {t t0 : Tb} (g : GT t t0) (h : TbOk t0) : GOk t :=
  ⟨by rw [g.nm]; exact h.nm, by rw [g.cols, g.pk]; exact h.cols, by rw [g.ix, g.cols, g.pk]; exact h.ix, fun r hr => by rw [g.cols]; exact h.row r (g.rows.mem_iff.mp hr), by rw [g.pk]; exact ((g.rows.map _).nodup_iff).mpr h.nodup, by rw [g.rows.length_eq]; exact h.len⟩
/-- The row of a key is the one that is found. -/
theorem GT.find {t t0 : Tb} (g : GT t t0) (h : TbOk t0) {key : Vl} (hf : key.fit) (hs : ∀ x, t0.cols[t0.pk]? = some x → key.str = x.2) {r : Int} (hr : GRR t key r) : (r = -1 ∧ fndK t0 (cV key) = none ∧ ∀ x ∈ t.rows, kyR t.pk x ≠ key) ∨ ∃ (i : Nat) (x : List Vl), t.rows[i]? = some x ∧ r = i ∧ kyR t.pk x = key ∧ fndK t0 (cV key) = some x := by
  obtain ⟨cx, hcx⟩ := getE (l := t0.cols) (i := t0.pk) h.pkn
  have hk := hs cx hcx
  have z : ∀ x ∈ t.rows, (vcmp key (kyR t.pk x) = 0 ↔ key = kyR t.pk x) ∧ (pkK t0.pk x = cV key ↔ kyR t.pk x = key) := fun x hx => by
    have R := h.row x (g.rows.mem_iff.mp hx)
    obtain ⟨k1, k2, k3⟩ := R.ky h.pkn
    rw [g.pk]
    rw [hcx] at k2
    have k2 : (kyR t0.pk x).str = cx.2 := by simpa using k2
    refine ⟨vcmp_zero hf k1 (by rw [hk, k2]), fun e => ?_, fun e => by unfold pkK; rw [e]⟩
    exact cV_inj k1 hf (by rw [hk, k2]) e
  rcases hr with ⟨rfl, hn⟩ | ⟨i, x, hx, rfl, hz⟩
  · refine .inl ⟨rfl, ?_, fun x hx e => hn x hx ((z x hx).1.mpr e.symm)⟩
    unfold fndK
    rw [List.find?_eq_none]
    intro x hx e
    have hx' := g.rows.mem_iff.mpr hx
    exact hn x hx' ((z x hx').1.mpr ((z x hx').2.mp (of_decide_eq_true e)).symm)
  · have hm := List.mem_of_getElem? hx
    have he := (z x hm).1.mp hz
    refine .inr ⟨i, x, hx, rfl, he.symm, ?_⟩
    cases hfn : fndK t0 (cV key) with
    | none =>
      unfold fndK at hfn
      rw [List.find?_eq_none] at hfn
      exact absurd (decide_eq_true ((z x hm).2.mpr he.symm)) (hfn x (g.rows.mem_iff.mp hm))
    | some y =>
      unfold fndK at hfn
      have hy := List.mem_of_find?_eq_some hfn
      have hy2 : pkK t0.pk y = cV key := by have := List.find?_some hfn; simpa using this
      have hy3 := (z y (g.rows.mem_iff.mpr hy)).2.mp hy2
      have hnd := (g.ok h).one
      have hy4 := g.rows.mem_iff.mpr hy
      obtain ⟨j, hj⟩ := List.getElem?_of_mem hy4
      have e1 : (t.rows.map (kyR t.pk))[i]? = some key := by simp [hx, ← he]
      have e2 : (t.rows.map (kyR t.pk))[j]? = some key := by simp [hj, hy3]
      obtain ⟨l1, q1⟩ := List.getElem?_eq_some_iff.mp e1
      obtain ⟨l2, q2⟩ := List.getElem?_eq_some_iff.mp e2
      have hij : i = j := nodup_inj hnd l1 l2 (q1.trans q2.symm)
      subst hij
      rw [hx] at hj
      exact hj.symm
end Go.Proofs.Qxb6500412aGreat
