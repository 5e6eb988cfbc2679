/-
  OWN WORK. THE TABLE LAW's GHOST, plain: a list of tables, in any order, against the database.
-/
import Derived.Test.Qxb6500412aGreatJP2
namespace Go.Proofs.Qxb6500412aGreat
open Go.RowKit Go.PlainAid
set_option linter.unusedSimpArgs false
set_option linter.unusedVariables false

/-- What a database keeps to. -/
structure DOk (D : Db) : Prop where
  tb : ∀ t ∈ D, TbOk t
  srt : D.Pairwise (fun a b => lt a.nm b.nm = true)
  len : D.length ≤ 3
theorem Lay.dok {S : Vu} {T : List (Tb × Hd)} (L : Lay S T) : DOk (dbOf T) := by
  refine ⟨fun t ht => ?_, ?_, ?_⟩
  · unfold dbOf at ht
    obtain ⟨x, hx, rfl⟩ := List.mem_map.mp ht
    exact L.tb x hx
  · unfold dbOf
    rw [List.pairwise_map]
    exact L.srt
  · unfold dbOf
    rw [List.length_map]
    exact L.len
/-- A ghost's tables against a database's. -/
def GP (L : List Tb) (D : Db) : Prop := (L.map (fun t => t.nm)).Perm (D.map (fun t => t.nm)) ∧ ∀ t ∈ L, ∀ t0 ∈ D, t.nm = t0.nm → GT t t0
theorem perm_pull {α β : Type} [DecidableEq β] (f : α → β) {x : α} : ∀ {l : List α}, (l.map f).Nodup → x ∈ l → l.Perm (x :: l.filter (fun y => decide (f y ≠ f x)))
  | [], _, h => by simp at h
  | a :: l, hn, h => by
    rw [List.map_cons, List.nodup_cons] at hn
    rcases List.mem_cons.mp h with rfl | h
    · have : l.filter (fun y => decide (f y ≠ f x)) = l := by
        rw [List.filter_eq_self]
        intro y hy
        have : f y ≠ f x := fun e => hn.1 (e ▸ List.mem_map.mpr ⟨y, hy, rfl⟩)
        simp [this]
      rw [List.filter_cons_of_neg (by simp), this]
    · have ne : f a ≠ f x := fun e => hn.1 (e ▸ List.mem_map.mpr ⟨x, h, rfl⟩)
      rw [List.filter_cons_of_pos (by simp [ne])]
      exact ((perm_pull f hn.2 h).cons a).trans (List.Perm.swap _ _ _)
section
variable {L L' R : List Tb} {D D' : Db} {t t0 : Tb}
theorem DOk.nd (h : DOk D) : (D.map (fun t => t.nm)).Nodup := by
  rw [List.Nodup, List.pairwise_map]
  exact h.srt.imp (fun {a b} hab e => by rw [e] at hab; exact absurd hab (by rw [lt_irr]; simp))
theorem GP.permL (h : GP L D) (p : L.Perm L') : GP L' D := ⟨(p.symm.map _).trans h.1, fun t ht t0 h0 e => h.2 t (p.mem_iff.mpr ht) t0 h0 e⟩
theorem GP.permR (h : GP L D) (p : D.Perm D') : GP L D' := ⟨h.1.trans (p.map _), fun t ht t0 h0 e => h.2 t ht t0 (p.mem_iff.mpr h0) e⟩
theorem GP.len (h : GP L D) : L.length = D.length := by have := h.1.length_eq; simpa using this
theorem GP.ndL (h : GP L D) (d : DOk D) : (L.map (fun t => t.nm)).Nodup := h.1.symm.nodup_iff.mp d.nd
theorem GP.nil : GP [] [] := ⟨List.Perm.refl _, fun t ht => by simp at ht⟩
theorem GP.cons (g : GT t t0) (h : GP L D) (hx : ∀ y ∈ D, y.nm ≠ t0.nm) : GP (t :: L) (t0 :: D) := by
  refine ⟨by rw [List.map_cons, List.map_cons, g.nm]; exact h.1.cons _, fun a ha b hb e => ?_⟩
  rcases List.mem_cons.mp ha with rfl | ha
  · rcases List.mem_cons.mp hb with rfl | hb
    · exact g
    · exact absurd (e.symm.trans g.nm) (hx b hb)
  · rcases List.mem_cons.mp hb with rfl | hb
    · obtain ⟨y, hy, he⟩ := List.mem_map.mp (h.1.mem_iff.mp (List.mem_map.mpr ⟨a, ha, rfl⟩))
      exact absurd (he.trans e) (hx y hy)
    · exact h.2 a ha b hb e
theorem GP.tail (h : GP (t :: L) (t0 :: D)) (e : t.nm = t0.nm) : GP L D := by
  refine ⟨?_, fun a ha b hb => h.2 a (List.mem_cons_of_mem _ ha) b (List.mem_cons_of_mem _ hb)⟩
  have := h.1
  rw [List.map_cons, List.map_cons, e] at this
  exact this.cons_inv
theorem GP.no (h : GP L D) {nm : ByteArray} (hn : ∀ t ∈ L, t.nm ≠ nm) : findD D nm = none := by
  unfold findD
  rw [List.find?_eq_none]
  intro x hx e
  obtain ⟨t, ht, he⟩ := List.mem_map.mp (h.1.mem_iff.mpr (List.mem_map.mpr ⟨x, hx, rfl⟩))
  exact hn t ht (he.trans (by simpa using e))
theorem GP.yes (h : GP L D) {nm : ByteArray} (ht : t ∈ L) (e : t.nm = nm) : ∃ t0, findD D nm = some t0 ∧ t0 ∈ D ∧ GT t t0 := by
  obtain ⟨x, hx, he⟩ := List.mem_map.mp (h.1.mem_iff.mp (List.mem_map.mpr ⟨t, ht, rfl⟩))
  cases hf : findD D nm with
  | none =>
    unfold findD at hf
    have := List.find?_eq_none.mp hf x hx
    simp at this
    exact absurd (he.trans e) this
  | some t0 =>
    unfold findD at hf
    have h1 := List.mem_of_find?_eq_some hf
    have h2 := List.find?_some hf
    simp at h2
    exact ⟨t0, rfl, h1, h.2 t ht t0 h1 (e.trans h2.symm)⟩
/-- A table and its mate taken out. -/
theorem GP.split (h : GP L D) (d : DOk D) {i : Nat} (hi : L[i]? = some t) (h0 : t0 ∈ D) (e : t.nm = t0.nm) : GP (L.take i ++ L.drop (i + 1)) (D.filter (fun y => decide (y.nm ≠ t0.nm))) := by
  obtain ⟨hs, _⟩ := split_at' hi
  have p1 : L.Perm (t :: (L.take i ++ L.drop (i + 1))) := by
    refine List.Perm.trans (List.Perm.of_eq hs) ?_
    exact List.perm_middle
  exact ((h.permL p1).permR (perm_pull (fun t : Tb => t.nm) d.nd h0)).tail e
theorem GP.set (h : GP L D) (d : DOk D) {i : Nat} (hi : L[i]? = some t) (h0 : t0 ∈ D) (e : t.nm = t0.nm) {t' t0' : Tb} (g : GT t' t0') (e' : t0'.nm = t0.nm) : GP (L.set i t') (putT t0' D) := by
  have s := h.split d hi h0 e
  have p := putBy_perm (fun t : Tb => t.nm) t0' d.srt
  rw [e'] at p
  exact ((GP.cons g s (fun y hy => by have := (List.mem_filter.mp hy).2; rw [e']; simpa using this)).permL (set_perm hi t').symm).permR p.symm
theorem GP.push (h : GP L D) (d : DOk D) (g : GT t t0) (hn : findD D t0.nm = none) : GP (L ++ [t]) (putT t0 D) := by
  have hx : ∀ y ∈ D, y.nm ≠ t0.nm := fun y hy e => by
    unfold findD at hn
    have := List.find?_eq_none.mp hn y hy
    simp at this
    exact this e
  have p := putBy_perm (fun t : Tb => t.nm) t0 d.srt
  have : D.filter (fun y => decide (y.nm ≠ t0.nm)) = D := by
    rw [List.filter_eq_self]
    intro y hy
    simp [hx y hy]
  rw [this] at p
  exact ((GP.cons g h hx).permL (List.perm_append_comm (l₁ := [t]) (l₂ := L))).permR p.symm
theorem GP.drop (h : GP L D) (d : DOk D) {i : Nat} (hi : L[i]? = some t) (h0 : t0 ∈ D) (e : t.nm = t0.nm) {y : Tb} (hy : L[L.length - 1]? = some y) : GP ((L.set i y).take (L.length - 1)) (D.filter (fun y => decide (y.nm ≠ t0.nm))) :=
  (h.split d hi h0 e).permL (swap_perm hi hy).symm
end
theorem putBy_same {α : Type} (f : α → ByteArray) {r : α} : ∀ {l : List α}, l.Pairwise (fun a b => lt (f a) (f b) = true) → r ∈ l → putBy f r l = l
  | [], _, h => by simp at h
  | e :: l, hs, h => by
    obtain ⟨h1, h2⟩ := List.pairwise_cons.mp hs
    unfold putBy
    rcases List.mem_cons.mp h with rfl | h
    · rw [if_neg (by rw [lt_irr]; simp), if_pos rfl]
    · rw [if_pos (h1 r h), putBy_same f h2 h]
theorem putT_same {D : Db} {t0 : Tb} (d : DOk D) (h : t0 ∈ D) : putT t0 D = D := putBy_same (fun t : Tb => t.nm) d.srt h
/-- What a changing step, in a transaction, does to a database. -/
def dueD (kind a : Int) (s T : ByteArray) (D : Db) : Db × Int :=
  if kind = 4 then crtD D s (colsP T) a else if kind = 5 then drpD D s else if kind = 6 then cixD D s a else if kind = 7 then insD D s (rowP T) else if kind = 8 then updD D s (rowP T) else delD D s (fstP T)
end Go.Proofs.Qxb6500412aGreat
