/-
  OWN WORK. THE PAGER's CACHE, PLAIN: what the frames and the log together show. No Go in sight.
-/
import Derived.Test.Qxb6500412aGreatPgLow
import Derived.Test.Qxb6500412aGreatPgFrm
namespace Go.Proofs.Qxb6500412aGreat
set_option linter.unusedSimpArgs false
set_option linter.unusedVariables false

def fa (fr : List Frame) (i : Nat) : Frame := fr.getD i Frame.none
theorem fa_get {fr : List Frame} {i : Nat} (h : i < fr.length) : fa fr i = fr[i] := by simp [fa, List.getD_eq_getElem?_getD, h]
theorem fa_out {fr : List Frame} {i : Nat} (h : fr.length ≤ i) : fa fr i = Frame.none := by simp [fa, List.getD_eq_getElem?_getD, List.getElem?_eq_none h]
theorem fa_set {fr : List Frame} {f : Nat} (g : Frame) (i : Nat) (h : f < fr.length) : fa (fr.set f g) i = if i = f then g else fa fr i := getD_set fr f i g Frame.none h
theorem fa_lt {fr : List Frame} {i : Nat} (h : (fa fr i).valid = true) : i < fr.length := by
  by_cases hi : i < fr.length
  · exact hi
  · rw [fa_out (by omega)] at h; cases h

theorem frameOf_hit {fr : List Frame} {n i : Nat} (h : frameOf fr n = some i) : i < fr.length ∧ (fa fr i).valid = true ∧ (fa fr i).page = n := by
  obtain ⟨hi, hv, hp⟩ := frameOf_some h
  rw [fa_get hi]
  exact ⟨hi, hv, by omega⟩
theorem frameOf_no {fr : List Frame} {n : Nat} (h : frameOf fr n = Option.none) : ∀ i, (fa fr i).valid = true → (fa fr i).page ≠ n := by
  intro i hv hp
  have hi := fa_lt hv
  rw [fa_get hi] at hv hp
  unfold frameOf at h
  rw [List.findIdx?_eq_none_iff] at h
  have := h _ (List.getElem_mem hi)
  simp [hv, hp] at this

structure PInv (fr : List Frame) (ord : List Nat) (op : Bool) (cur view : List ByteArray) : Prop where
  lf : fr.length = 5
  lo : ord.length = 5
  lv : view.length = 72
  lc : cur.length = 80
  oin : ∀ x ∈ ord, x < 5
  ond : ord.Nodup
  opw : ord.Pairwise (fun x y => (fa fr y).valid = true → (fa fr x).valid = true)
  page : ∀ i, (fa fr i).valid = true → (fa fr i).page < 72 ∧ (fa fr i).data.size = 128 ∧ view.getD (fa fr i).page emptyB = (fa fr i).data
  uniq : ∀ i j, (fa fr i).valid = true → (fa fr j).valid = true → (fa fr i).page = (fa fr j).page → i = j
  nul : ∀ i, (fa fr i).valid = false → fa fr i = Frame.none
  clean : ∀ i, (fa fr i).valid = true → (fa fr i).dirty = false → cur.getD (fa fr i).page emptyB = (fa fr i).data
  dop : ∀ i, (fa fr i).valid = true → (fa fr i).dirty = true → op = true
  miss : ∀ n, n < 72 → (∀ i, (fa fr i).valid = true → (fa fr i).page ≠ n) → view.getD n emptyB = cur.getD n emptyB
  sz : ∀ n, n < 72 → (view.getD n emptyB).size = 128

/-- The order, split at a frame. -/
theorem ord_split {ord : List Nat} (lo : ord.length = 5) (hin : ∀ x ∈ ord, x < 5) (hnd : ord.Nodup) {f : Nat} (hf : f < 5) :
    ∃ a b, ord = a ++ f :: b ∧ f ∉ a ∧ f ∉ b ∧ toFront ord f = f :: (a ++ b) ∧ toBack ord f = a ++ b ++ [f] := by
  have hm : f ∈ ord := by
    apply Classical.byContradiction
    intro h
    have := nodup_lt 5 (f :: ord) (List.nodup_cons.2 ⟨h, hnd⟩) (by intro x hx; rcases List.mem_cons.1 hx with rfl | hx; exact hf; exact hin x hx)
    simp at this
    omega
  obtain ⟨a, b, rfl, ha⟩ := List.eq_append_cons_of_mem hm
  have hb : f ∉ b := by
    have := (List.nodup_append.1 hnd).2.1
    exact (List.nodup_cons.1 this).1
  have hal : a.length ≤ 4 := by simp at lo; omega
  have hbl : a.length + b.length = 4 := by simp at lo; omega
  have hp : placeOf (a ++ f :: b) f = a.length := by
    unfold placeOf
    by_cases h4 : a.length < 4
    · have : ((a ++ f :: b).take 4).findIdx (fun o => o == f) = a.length := by
        rw [List.findIdx_eq (by simp; omega)]
        refine ⟨by simp, fun j hj => ?_⟩
        have : ((a ++ f :: b).take 4)[j]'(by simp; omega) = a[j] := by
          rw [List.getElem_take, List.getElem_append_left hj]
        rw [this]
        have : a[j] ≠ f := fun e => ha (e ▸ List.getElem_mem hj)
        simpa using this
      rw [this]; omega
    · have h4' : a.length = 4 := by omega
      have : ((a ++ f :: b).take 4) = a := by rw [← h4', List.take_left]
      rw [this]
      have : a.findIdx (fun o => o == f) = a.length := by
        rw [List.findIdx_eq_length]
        intro x hx
        have : x ≠ f := fun e => ha (e ▸ hx)
        simpa using this
      rw [this]; omega
  refine ⟨a, b, rfl, ha, hb, ?_, ?_⟩
  · unfold toFront
    rw [hp]
    apply List.ext_getElem (by simp; omega)
    intro t h1 h2
    rw [tab_get]
    simp at h1
    cases t with
    | zero => rfl
    | succ t =>
      rw [if_neg (by omega), List.getElem_cons_succ, List.getD_eq_getElem?_getD, List.getD_eq_getElem?_getD]
      by_cases ht : t + 1 ≤ a.length
      · rw [if_pos ht, List.getElem_append_left (by omega), Nat.add_sub_cancel, List.getElem?_append_left (by omega), List.getElem?_eq_getElem (by omega)]
        rfl
      · rw [if_neg ht, List.getElem_append_right (by omega), List.getElem?_append_right (by omega), show t + 1 - a.length = (t - a.length) + 1 by omega, List.getElem?_cons_succ, List.getElem?_eq_getElem (by omega)]
        rfl
  · unfold toBack
    rw [hp]
    apply List.ext_getElem (by simp; omega)
    intro t h1 h2
    rw [tab_get]
    simp at h1
    by_cases h4 : t = 4
    · subst h4
      rw [if_pos rfl, List.getElem_append_right (by simp; omega)]
      simp
    · rw [if_neg h4, List.getElem_append_left (by simp; omega), List.getD_eq_getElem?_getD, List.getD_eq_getElem?_getD]
      by_cases ht : a.length ≤ t
      · rw [if_pos ht, List.getElem_append_right (by omega), List.getElem?_append_right (by omega), show t + 1 - a.length = (t - a.length) + 1 by omega, List.getElem?_cons_succ, List.getElem?_eq_getElem (by omega)]
        rfl
      · rw [if_neg ht, List.getElem_append_left (by omega), List.getElem?_append_left (by omega), List.getElem?_eq_getElem (by omega)]
        rfl

section
variable {fr : List Frame} {ord : List Nat} {op : Bool} {cur view : List ByteArray}

theorem PInv.last (h : PInv fr ord op cur view) : ord[4]'(by have := h.lo; omega) < 5 := h.oin _ (List.getElem_mem _)

theorem pw_set {l : List Nat} {f : Nat} {g : Frame} (hf : f < fr.length) (hl : f ∉ l) (h : l.Pairwise (fun x y => (fa fr y).valid = true → (fa fr x).valid = true)) : l.Pairwise (fun x y => (fa (fr.set f g) y).valid = true → (fa (fr.set f g) x).valid = true) := by
  refine List.Pairwise.imp_of_mem ?_ h
  intro x y hx hy hxy
  have ex : x ≠ f := fun e => hl (by rw [← e]; exact hx)
  have ey : y ≠ f := fun e => hl (by rw [← e]; exact hy)
  rw [fa_set g _ hf, fa_set g _ hf, if_neg ex, if_neg ey]
  exact hxy

/-- Frame f takes page n, and comes to the front. -/
theorem PInv.put (h : PInv fr ord op cur view) {f n : Nat} {x : ByteArray} {dt : Bool} (hf : f < 5) (hn : n < 72) (hx : x.size = 128) (hd : dt = false → cur.getD n emptyB = x) (ho : dt = true → op = true)
    (hoth : ∀ i, i ≠ f → (fa fr i).valid = true → (fa fr i).page ≠ n) (hold : (fa fr f).valid = true → (fa fr f).page = n) :
    PInv (fr.set f ⟨n, true, dt, x⟩) (toFront ord f) op cur (view.set n x) := by
  have hf' : f < fr.length := by rw [h.lf]; exact hf
  obtain ⟨a, b, he, ha, hb, htf, _⟩ := ord_split h.lo h.oin h.ond hf
  have hperm : (a ++ f :: b).Perm (f :: (a ++ b)) := List.perm_middle
  have hlo := h.lo
  have hoin := h.oin
  have hond := h.ond
  have hopw := h.opw
  rw [he] at hlo hoin hond hopw
  have hsub : (a ++ b).Sublist (a ++ f :: b) := List.Sublist.append_left (List.sublist_cons_self f b) a
  have hset := fun i => fa_set (fr := fr) (⟨n, true, dt, x⟩ : Frame) i hf'
  have hv : ∀ c, (view.set n x).getD c emptyB = if c = n then x else view.getD c emptyB := fun c => getD_set view n c x emptyB (by rw [h.lv]; exact hn)
  refine ⟨by simpa using h.lf, by simp [toFront], by simpa using h.lv, h.lc, ?_, ?_, ?_, ?_, ?_, ?_, ?_, ?_, ?_, ?_⟩
  · rw [htf]; intro y hy; exact hoin y (hperm.mem_iff.2 hy)
  · rw [htf]; exact hperm.nodup_iff.1 hond
  · rw [htf]
    refine List.pairwise_cons.2 ⟨fun y hy _ => ?_, pw_set hf' (by simp [ha, hb]) (hopw.sublist hsub)⟩
    rw [hset, if_pos rfl]
  · intro i hi
    rw [hset] at hi ⊢
    by_cases e : i = f
    · rw [if_pos e]
      exact ⟨hn, hx, by rw [hv, if_pos rfl]⟩
    · rw [if_neg e] at hi ⊢
      obtain ⟨h1, h2, h3⟩ := h.page i hi
      exact ⟨h1, h2, by rw [hv, if_neg (hoth i e hi)]; exact h3⟩
  · intro i j hi hj hp
    rw [hset] at hi hp
    rw [hset] at hj hp
    by_cases ei : i = f <;> by_cases ej : j = f
    · rw [ei, ej]
    · rw [if_pos ei, if_neg ej] at hp
      rw [if_neg ej] at hj
      exact absurd hp.symm (hoth j ej hj)
    · rw [if_neg ei, if_pos ej] at hp
      rw [if_neg ei] at hi
      exact absurd hp (hoth i ei hi)
    · rw [if_neg ei] at hi hp
      rw [if_neg ej] at hj hp
      exact h.uniq i j hi hj hp
  · intro i hi
    rw [hset] at hi ⊢
    by_cases e : i = f
    · rw [if_pos e] at hi; cases hi
    · rw [if_neg e] at hi ⊢; exact h.nul i hi
  · intro i hi hdi
    rw [hset] at hi hdi ⊢
    by_cases e : i = f
    · rw [if_pos e] at hdi ⊢; exact hd hdi
    · rw [if_neg e] at hi hdi ⊢; exact h.clean i hi hdi
  · intro i hi hdi
    rw [hset] at hi hdi
    by_cases e : i = f
    · rw [if_pos e] at hdi; exact ho hdi
    · rw [if_neg e] at hi hdi; exact h.dop i hi hdi
  · intro c hc hno
    have hcn : c ≠ n := by
      intro e
      have := hno f (by rw [hset, if_pos rfl])
      rw [hset, if_pos rfl] at this
      exact this e.symm
    rw [hv, if_neg hcn]
    refine h.miss c hc (fun i hi hp => ?_)
    by_cases e : i = f
    · subst e; exact hcn (hp.symm.trans (hold hi))
    · have := hno i (by rw [hset, if_neg e]; exact hi)
      rw [hset, if_neg e] at this
      exact this hp
  · intro c hc
    rw [hv]
    split
    · exact hx
    · exact h.sz c hc

theorem set_getD_self (view : List ByteArray) (n : Nat) : view.set n (view.getD n emptyB) = view := by
  apply List.ext_getElem (by simp)
  intro i h1 h2
  rw [List.getElem_set]
  split
  · rename_i e; subst e; simp [List.getD_eq_getElem?_getD, h2]
  · rfl

/-- The least recently used frame is emptied; what was dirty has gone down. -/
theorem PInv.evict (h : PInv fr ord op cur view) {f : Nat} (hfl : f = ord[4]'(by have := h.lo; omega)) {cur' : List ByteArray}
    (hc : ((fa fr f).valid && (fa fr f).dirty) = true ∧ cur' = cur.set (fa fr f).page (fa fr f).data ∨ ((fa fr f).valid && (fa fr f).dirty) = false ∧ cur' = cur) :
    PInv (fr.set f Frame.none) ord op cur' view := by
  have hlo := h.lo
  have hf : f < 5 := by rw [hfl]; exact h.last
  have hf' : f < fr.length := by rw [h.lf]; exact hf
  have hset := fun i => fa_set (fr := fr) Frame.none i hf'
  have hcur : ∀ c, c < 72 → (∀ i, i ≠ f → (fa fr i).valid = true → (fa fr i).page ≠ c) → cur'.getD c emptyB = view.getD c emptyB := by
    intro c hc72 hno
    rcases hc with ⟨hd, rfl⟩ | ⟨hd, rfl⟩
    · simp only [Bool.and_eq_true] at hd
      obtain ⟨hp, _, hvw⟩ := h.page f hd.1
      rw [getD_set cur _ c _ _ (by rw [h.lc]; omega)]
      split
      · rename_i e; subst e; exact hvw.symm
      · rename_i e
        refine (h.miss c hc72 (fun i hi hpi => ?_)).symm
        by_cases ei : i = f
        · subst ei; exact e hpi.symm
        · exact hno i ei hi hpi
    · by_cases hv : (fa fr f).valid = true
      · have hdf : (fa fr f).dirty = false := by rw [hv] at hd; simpa using hd
        by_cases e : (fa fr f).page = c
        · subst e
          rw [h.clean f hv hdf]
          exact (h.page f hv).2.2.symm
        · refine (h.miss c hc72 (fun i hi hpi => ?_)).symm
          by_cases ei : i = f
          · subst ei; exact e hpi
          · exact hno i ei hi hpi
      · refine (h.miss c hc72 (fun i hi hpi => ?_)).symm
        by_cases ei : i = f
        · subst ei; exact hv hi
        · exact hno i ei hi hpi
  have hcl : ∀ i, i ≠ f → (fa fr i).valid = true → cur'.getD (fa fr i).page emptyB = cur.getD (fa fr i).page emptyB := by
    intro i hif hi
    rcases hc with ⟨hd, rfl⟩ | ⟨hd, rfl⟩
    · simp only [Bool.and_eq_true] at hd
      obtain ⟨hp, _, _⟩ := h.page f hd.1
      rw [getD_set cur _ _ _ _ (by rw [h.lc]; omega), if_neg (fun e => hif (h.uniq i f hi hd.1 e))]
    · rfl
  refine ⟨by simpa using h.lf, h.lo, h.lv, ?_, h.oin, h.ond, ?_, ?_, ?_, ?_, ?_, ?_, ?_, h.sz⟩
  · rcases hc with ⟨_, rfl⟩ | ⟨_, rfl⟩
    · simpa using h.lc
    · exact h.lc
  · have he : ord = ord.take 4 ++ [f] := by
      have := List.take_append_drop 4 ord
      rw [List.drop_eq_getElem_cons (by omega), List.drop_of_length_le (by omega), ← hfl] at this
      exact this.symm
    have hpw := h.opw
    have hnd := h.ond
    rw [he] at hpw hnd ⊢
    obtain ⟨p1, _, _⟩ := List.pairwise_append.1 hpw
    have hna : f ∉ ord.take 4 := fun hm => (List.nodup_append.1 hnd).2.2 f hm f (by simp) rfl
    refine List.pairwise_append.2 ⟨pw_set hf' hna p1, by simp, ?_⟩
    intro x hx y hy hvy
    simp at hy
    subst hy
    rw [hset, if_pos rfl] at hvy
    cases hvy
  · intro i hi
    rw [hset] at hi ⊢
    by_cases e : i = f
    · rw [if_pos e] at hi; cases hi
    · rw [if_neg e] at hi ⊢; exact h.page i hi
  · intro i j hi hj hp
    rw [hset] at hi hp
    rw [hset] at hj hp
    by_cases ei : i = f
    · rw [if_pos ei] at hi; cases hi
    · by_cases ej : j = f
      · rw [if_pos ej] at hj; cases hj
      · rw [if_neg ei] at hi hp
        rw [if_neg ej] at hj hp
        exact h.uniq i j hi hj hp
  · intro i hi
    rw [hset] at hi ⊢
    by_cases e : i = f
    · rw [if_pos e]
    · rw [if_neg e] at hi ⊢; exact h.nul i hi
  · intro i hi hdi
    rw [hset] at hi hdi ⊢
    by_cases e : i = f
    · rw [if_pos e] at hi; cases hi
    · rw [if_neg e] at hi hdi ⊢
      rw [hcl i e hi]
      exact h.clean i hi hdi
  · intro i hi hdi
    rw [hset] at hi hdi
    by_cases e : i = f
    · rw [if_pos e] at hi; cases hi
    · rw [if_neg e] at hi hdi; exact h.dop i hi hdi
  · intro c hc hno
    refine (hcur c hc (fun i hif hi => ?_)).symm
    have := hno i (by rw [hset, if_neg hif]; exact hi)
    rw [hset, if_neg hif] at this
    exact this

/-- Frame f is forgotten, whatever it held, and goes to the back. -/
theorem PInv.forget (h : PInv fr ord op cur view) {f n : Nat} (hf : f < 5) (hv : (fa fr f).valid = true) (hp : (fa fr f).page = n) (hcs : (cur.getD n emptyB).size = 128) :
    PInv (fr.set f Frame.none) (toBack ord f) op cur (view.set n (cur.getD n emptyB)) := by
  have hf' : f < fr.length := by rw [h.lf]; exact hf
  have hn : n < 72 := by rw [← hp]; exact (h.page f hv).1
  obtain ⟨a, b, he, ha, hb, _, htb⟩ := ord_split h.lo h.oin h.ond hf
  have hperm : (a ++ f :: b).Perm (f :: (a ++ b)) := List.perm_middle
  have hperm2 : (a ++ b ++ [f]).Perm (f :: (a ++ b)) := List.perm_append_comm
  have hlo := h.lo
  have hoin := h.oin
  have hond := h.ond
  have hopw := h.opw
  rw [he] at hlo hoin hond hopw
  have hsub : (a ++ b).Sublist (a ++ f :: b) := List.Sublist.append_left (List.sublist_cons_self f b) a
  have hset := fun i => fa_set (fr := fr) Frame.none i hf'
  have hvw : ∀ c, (view.set n (cur.getD n emptyB)).getD c emptyB = if c = n then cur.getD n emptyB else view.getD c emptyB := fun c => getD_set view n c _ emptyB (by rw [h.lv]; exact hn)
  refine ⟨by simpa using h.lf, by simp [toBack], by simpa using h.lv, h.lc, ?_, ?_, ?_, ?_, ?_, ?_, ?_, ?_, ?_, ?_⟩
  · rw [htb]; intro y hy; exact hoin y (hperm.mem_iff.2 (hperm2.mem_iff.1 hy))
  · rw [htb]; exact hperm2.nodup_iff.2 (hperm.nodup_iff.1 hond)
  · rw [htb]
    refine List.pairwise_append.2 ⟨pw_set hf' (by simp [ha, hb]) (hopw.sublist hsub), by simp, ?_⟩
    intro x hx y hy hvy
    simp at hy
    subst hy
    rw [hset, if_pos rfl] at hvy
    cases hvy
  · intro i hi
    rw [hset] at hi ⊢
    by_cases e : i = f
    · rw [if_pos e] at hi; cases hi
    · rw [if_neg e] at hi ⊢
      obtain ⟨h1, h2, h3⟩ := h.page i hi
      refine ⟨h1, h2, ?_⟩
      rw [hvw, if_neg (fun e' => e (h.uniq i f hi hv (e'.trans hp.symm)))]
      exact h3
  · intro i j hi hj hpp
    rw [hset] at hi hpp
    rw [hset] at hj hpp
    by_cases ei : i = f
    · rw [if_pos ei] at hi; cases hi
    · by_cases ej : j = f
      · rw [if_pos ej] at hj; cases hj
      · rw [if_neg ei] at hi hpp
        rw [if_neg ej] at hj hpp
        exact h.uniq i j hi hj hpp
  · intro i hi
    rw [hset] at hi ⊢
    by_cases e : i = f
    · rw [if_pos e]
    · rw [if_neg e] at hi ⊢; exact h.nul i hi
  · intro i hi hdi
    rw [hset] at hi hdi ⊢
    by_cases e : i = f
    · rw [if_pos e] at hi; cases hi
    · rw [if_neg e] at hi hdi ⊢; exact h.clean i hi hdi
  · intro i hi hdi
    rw [hset] at hi hdi
    by_cases e : i = f
    · rw [if_pos e] at hi; cases hi
    · rw [if_neg e] at hi hdi; exact h.dop i hi hdi
  · intro c hc hno
    rw [hvw]
    split
    · rename_i e; subst e; rfl
    · rename_i e
      refine h.miss c hc (fun i hi hpi => ?_)
      by_cases ei : i = f
      · subst ei; exact e (hpi.symm.trans hp)
      · have := hno i (by rw [hset, if_neg ei]; exact hi)
        rw [hset, if_neg ei] at this
        exact this hpi
  · intro c hc
    rw [hvw]
    split
    · exact hcs
    · exact h.sz c hc
end
end Go.Proofs.Qxb6500412aGreat
