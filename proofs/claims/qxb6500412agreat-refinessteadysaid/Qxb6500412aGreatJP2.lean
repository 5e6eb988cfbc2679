/-
  OWN WORK. THE TABLE LAW's GHOST, plain: rows put, turned, taken.
-/
import Derived.Test.Qxb6500412aGreatJP
namespace Go.Proofs.Qxb6500412aGreat
open Go.RowKit Go.PlainAid
set_option linter.unusedSimpArgs false
set_option linter.unusedVariables false

theorem putBy_perm {α : Type} (f : α → ByteArray) (r : α) : ∀ {l : List α}, l.Pairwise (fun a b => lt (f a) (f b) = true) → (putBy f r l).Perm (r :: l.filter (fun e => decide (f e ≠ f r)))
  | [], _ => by simp [putBy]
  | e :: l, h => by
    obtain ⟨h1, h2⟩ := List.pairwise_cons.mp h
    unfold putBy
    by_cases c1 : lt (f e) (f r) = true
    · rw [if_pos c1, List.filter_cons, if_pos (decide_eq_true (lt_ne c1))]
      exact ((putBy_perm f r h2).cons e).trans (List.Perm.swap _ _ _)
    · rw [if_neg c1]
      have all : lt (f r) (f e) = true ∨ f e = f r → l.filter (fun e => decide (f e ≠ f r)) = l := fun hc => List.filter_eq_self.mpr (fun x hx => decide_eq_true (fun e' => by
        have := h1 x hx
        rw [e'] at this
        exact c1 this))
      by_cases c2 : f e = f r
      · rw [if_pos c2, List.filter_cons, if_neg (by simp [c2]), all (.inr c2)]
      · rw [if_neg c2, List.filter_cons, if_pos (decide_eq_true c2)]
        have : lt (f r) (f e) = true := by
          rcases lt_total (f e) (f r) with c | c | c
          · exact absurd c c1
          · exact absurd c c2
          · exact c
        rw [all (.inl this)]
theorem split_at' {α : Type} {l : List α} {i : Nat} {x : α} (h : l[i]? = some x) : l = l.take i ++ x :: l.drop (i + 1) ∧ (l.take i).length = i := by
  obtain ⟨hi, rfl⟩ := List.getElem?_eq_some_iff.mp h
  exact ⟨by rw [List.getElem_cons_drop, List.take_append_drop], by rw [List.length_take]; omega⟩
/-- The rows without the one of a key. -/
theorem GT.wo {t t0 : Tb} (g : GT t t0) (h : TbOk t0) {i : Nat} {x : List Vl} (hx : t.rows[i]? = some x) : t.rows.filter (fun r => decide (pkK t0.pk r ≠ pkK t0.pk x)) = t.rows.take i ++ t.rows.drop (i + 1) := by
  obtain ⟨hs, hl⟩ := split_at' hx
  have key : ∀ (j : Nat) (y : List Vl), t.rows[j]? = some y → j ≠ i → pkK t0.pk y ≠ pkK t0.pk x := fun j y hy hne e => by
    obtain ⟨a1, a2, _⟩ := (h.row x (g.rows.mem_iff.mp (List.mem_of_getElem? hx))).ky h.pkn
    obtain ⟨b1, b2, _⟩ := (h.row y (g.rows.mem_iff.mp (List.mem_of_getElem? hy))).ky h.pkn
    have ee := cV_inj b1 a1 (Option.some.inj (b2.trans a2.symm)) e
    have hnd := (g.ok h).one
    rw [g.pk] at hnd
    have e1 : (t.rows.map (kyR t0.pk))[i]? = some (kyR t0.pk x) := by simp [hx]
    have e2 : (t.rows.map (kyR t0.pk))[j]? = some (kyR t0.pk x) := by simp [hy, ee]
    obtain ⟨l1, q1⟩ := List.getElem?_eq_some_iff.mp e1
    obtain ⟨l2, q2⟩ := List.getElem?_eq_some_iff.mp e2
    exact hne (nodup_inj hnd l2 l1 (q2.trans q1.symm))
  conv => lhs; rw [hs]
  rw [List.filter_append, List.filter_cons, if_neg (by simp)]
  congr 1
  · rw [List.filter_eq_self]
    intro y hy
    obtain ⟨j, hj⟩ := List.getElem?_of_mem hy
    rw [List.getElem?_take] at hj
    by_cases c : j < i
    · rw [if_pos c] at hj
      exact decide_eq_true (key j y hj (by omega))
    · rw [if_neg c] at hj; cases hj
  · rw [List.filter_eq_self]
    intro y hy
    obtain ⟨j, hj⟩ := List.getElem?_of_mem hy
    rw [List.getElem?_drop] at hj
    exact decide_eq_true (key (i + 1 + j) y hj (by omega))
theorem set_perm {α : Type} {l : List α} {i : Nat} {x : α} (h : l[i]? = some x) (y : α) : (l.set i y).Perm (y :: (l.take i ++ l.drop (i + 1))) := by
  have hi := (List.getElem?_eq_some_iff.mp h).1
  rw [List.set_eq_take_append_cons_drop, if_pos hi]
  exact List.perm_middle
/-- The last in the place of one, the last dropped. -/
theorem swap_perm {α : Type} {l : List α} {i : Nat} {x y : α} (h : l[i]? = some x) (hy : l[l.length - 1]? = some y) : ((l.set i y).take (l.length - 1)).Perm (l.take i ++ l.drop (i + 1)) := by
  have hi := (List.getElem?_eq_some_iff.mp h).1
  have h1 := set_perm h y
  have h2 : l.set i y = (l.set i y).take (l.length - 1) ++ [y] := by
    have hl : (l.set i y)[l.length - 1]? = some y := by
      by_cases c : i = l.length - 1
      · rw [← c, List.getElem?_set_self hi]
      · rw [List.getElem?_set_ne c]; exact hy
    obtain ⟨e1, _⟩ := split_at' hl
    have e2 : (l.set i y).drop (l.length - 1 + 1) = [] := List.drop_of_length_le (by rw [List.length_set]; omega)
    rw [e2] at e1
    exact e1
  rw [h2] at h1
  exact (List.perm_cons y).mp ((List.perm_append_singleton y _).symm.trans h1)
section
variable {t t0 : Tb} {row : List Vl} {key : Vl} {r : Int}
theorem GT.keyrow (g : GT t t0) (h : TbOk t0) (hw : ∀ v ∈ row, v.wf) (hc : chkRow t.cols row = 0) : RowOk t0.cols row ∧ (kyR t.pk row).fit ∧ ∀ x, t0.cols[t0.pk]? = some x → (kyR t.pk row).str = x.2 := by
  rw [g.cols] at hc
  have R := chkRow_ok hc hw
  obtain ⟨a, b, c⟩ := R.ky h.pkn
  rw [g.pk]
  exact ⟨R, a, fun x hx => by rw [hx] at b; simpa using b⟩
theorem GT.ins_no (g : GT t t0) (hc : chkRow t.cols row ≠ 0) : insR t0 row = (t0, chkRow t.cols row) := by
  unfold insR
  rw [← g.cols, if_pos hc]
theorem GT.upd_no (g : GT t t0) (hc : chkRow t.cols row ≠ 0) : updR t0 row = (t0, chkRow t.cols row) := by
  unfold updR
  rw [← g.cols, if_pos hc]
theorem GT.ins_yes (g : GT t t0) (h : TbOk t0) (hw : ∀ v ∈ row, v.wf) (hc : chkRow t.cols row = 0) (hr : GRR t (kyR t.pk row) r) : (0 ≤ r → insR t0 row = (t0, 17)) ∧ (r < 0 → 8 ≤ t.rows.length → insR t0 row = (t0, 6)) ∧ (r < 0 → t.rows.length < 8 → (insR t0 row).2 = 0 ∧ GT (withR t (t.rows ++ [row])) (insR t0 row).1 ∧ TbOk (insR t0 row).1) := by
  obtain ⟨R, kf, ks⟩ := g.keyrow h hw hc
  have hp : pkK t0.pk row = cV (kyR t.pk row) := by unfold pkK; rw [g.pk]
  have hl := g.rows.length_eq
  rw [g.cols] at hc
  rcases g.find h kf ks hr with ⟨rfl, hn, hno⟩ | ⟨i, x, hx, rfl, hk, hf⟩
  · refine ⟨fun c => by omega, fun _ c => ?_, fun _ c => ?_⟩
    · unfold insR
      rw [if_neg (by simp [hc]), hp, hn]
      simp only
      rw [if_pos (by omega)]
    · have hne : ∀ e ∈ t0.rows, pkK t0.pk e ≠ pkK t0.pk row := fun e he e' => by
        unfold fndK at hn
        rw [List.find?_eq_none] at hn
        exact hn e he (decide_eq_true (e'.trans hp))
      have e0 : insR t0 row = (withR t0 (putBy (pkK t0.pk) row t0.rows), 0) := by
        unfold insR
        rw [if_neg (by simp [hc]), hp, hn]
        simp only
        rw [if_neg (by omega)]
      rw [e0]
      refine ⟨rfl, ⟨g.nm, g.cols, g.pk, g.ix, ?_⟩, h.put R (by rw [putBy_len_new _ hne]; omega)⟩
      have p := putBy_perm (pkK t0.pk) row h.srt
      rw [List.filter_eq_self.mpr (fun e he => decide_eq_true (hne e he))] at p
      exact (List.perm_append_singleton row t.rows).trans ((g.rows.cons row).trans p.symm)
  · refine ⟨fun _ => ?_, fun c => by omega, fun c => by omega⟩
    unfold insR
    rw [if_neg (by simp [hc]), hp, hf]
theorem GT.upd_yes (g : GT t t0) (h : TbOk t0) (hw : ∀ v ∈ row, v.wf) (hc : chkRow t.cols row = 0) (hr : GRR t (kyR t.pk row) r) : (r < 0 → updR t0 row = (t0, 9)) ∧ (∀ i : Nat, r = i → (updR t0 row).2 = 0 ∧ GT (withR t (t.rows.set i row)) (updR t0 row).1 ∧ TbOk (updR t0 row).1) := by
  obtain ⟨R, kf, ks⟩ := g.keyrow h hw hc
  have hp : pkK t0.pk row = cV (kyR t.pk row) := by unfold pkK; rw [g.pk]
  rw [g.cols] at hc
  rcases g.find h kf ks hr with ⟨rfl, hn, hno⟩ | ⟨i, x, hx, rfl, hk, hf⟩
  · refine ⟨fun _ => ?_, fun i c => by omega⟩
    unfold updR
    rw [if_neg (by simp [hc]), hp, hn]
  · refine ⟨fun c => by omega, fun i' c => ?_⟩
    obtain rfl : i' = i := by omega
    have e0 : updR t0 row = (withR t0 (putBy (pkK t0.pk) row t0.rows), 0) := by
      unfold updR
      rw [if_neg (by simp [hc]), hp, hf]
    rw [e0]
    have hpx : pkK t0.pk x = pkK t0.pk row := by unfold pkK; rw [← g.pk, hk]
    have hxm := g.rows.mem_iff.mp (List.mem_of_getElem? hx)
    refine ⟨rfl, ⟨g.nm, g.cols, g.pk, g.ix, ?_⟩, h.put R (by rw [putBy_len_old _ h.srt ⟨x, hxm, hpx⟩]; exact h.len)⟩
    have p := putBy_perm (pkK t0.pk) row h.srt
    have q := g.wo h hx
    rw [hpx] at q
    refine (set_perm hx row).trans ?_
    rw [← q]
    exact ((g.rows.filter _).cons row).trans p.symm
theorem GT.del_no (g : GT t t0) (hc : chkKey t key ≠ 0) : delR t0 key = (t0, chkKey t key) := by
  have : chkKey t key = chkKey t0 key := by unfold chkKey; rw [g.cols, g.pk]
  rw [this] at hc ⊢
  unfold delR
  rw [if_pos hc]
theorem GT.keyOk (g : GT t t0) (h : TbOk t0) (hw : key.wf) (hc : chkKey t key = 0) : key.fit ∧ ∀ x, t0.cols[t0.pk]? = some x → key.str = x.2 := by
  unfold chkKey at hc
  rw [g.cols, g.pk] at hc
  obtain ⟨cx, hcx⟩ := getE (l := t0.cols) (i := t0.pk) h.pkn
  rw [hcx] at hc
  obtain ⟨a, b⟩ := chkVal_ok hc hw
  exact ⟨a, fun x hx => by rw [hcx] at hx; cases hx; exact b⟩
theorem GT.del_yes (g : GT t t0) (h : TbOk t0) (hw : key.wf) (hc : chkKey t key = 0) (hr : GRR t key r) : (r < 0 → delR t0 key = (t0, 9)) ∧ (∀ (i : Nat) (y : List Vl), r = i → t.rows[t.rows.length - 1]? = some y → (delR t0 key).2 = 0 ∧ GT (withR t ((t.rows.set i y).take (t.rows.length - 1))) (delR t0 key).1 ∧ TbOk (delR t0 key).1) := by
  obtain ⟨kf, ks⟩ := g.keyOk h hw hc
  have hc0 : chkKey t0 key = 0 := by unfold chkKey at hc ⊢; rw [g.cols, g.pk] at hc; exact hc
  rcases g.find h kf ks hr with ⟨rfl, hn, hno⟩ | ⟨i, x, hx, rfl, hk, hf⟩
  · refine ⟨fun _ => ?_, fun i y c => by omega⟩
    unfold delR
    rw [if_neg (by simp [hc0]), hn]
  · refine ⟨fun c => by omega, fun i' y c hy => ?_⟩
    obtain rfl : i' = i := by omega
    have e0 : delR t0 key = (withR t0 (t0.rows.filter (fun r => decide (pkK t0.pk r ≠ cV key))), 0) := by
      unfold delR
      rw [if_neg (by simp [hc0]), hf]
    rw [e0]
    refine ⟨rfl, ⟨g.nm, g.cols, g.pk, g.ix, ?_⟩, h.del _⟩
    have hpx : pkK t0.pk x = cV key := by unfold pkK; rw [← g.pk, hk]
    have q := g.wo h hx
    rw [hpx] at q
    refine (swap_perm hx hy).trans ?_
    rw [← q]
    exact g.rows.filter _
end
end Go.Proofs.Qxb6500412aGreat
