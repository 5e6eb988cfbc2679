/-
  OWN WORK. THE TXN LAW: the ghost in memory: the shadow, the sessions' lists, who is over.
-/
import Derived.Test.Qxb6500414aGreatXS3
import Derived.Test.Qxb6500414aGreatXSP
namespace Go.Proofs.Qxb6500414aGreat
open Go.RowKit Go.PlainAid
set_option linter.unusedSimpArgs false
set_option linter.unusedVariables false

/-- One record with its slices. -/
structure Rm where
  r : Rq
  m : AnM
def rmC (x : Rm) : List Value := [.int .i64 x.r.kd, .int .i64 x.r.a, .int .i64 x.r.bb, .int .i64 x.r.cc, .string x.r.s, .string x.r.t, .int .i64 x.r.an.e, .int .i64 x.r.an.n, x.m.rv, x.m.sv, .string x.r.an.nm, x.m.cv, .int .i64 x.r.an.pk, .int .i64 x.r.an.ix, x.m.nv]
def rcs : List Rm → List Value
  | [] => []
  | x :: l => rmC x ++ rcs l
theorem rcs_len (l : List Rm) : (rcs l).length = l.length * 15 := by
  induction l with
  | nil => rfl
  | cons a r ih => simp [rcs, rmC, ih]; omega
theorem rcs_app (l r : List Rm) : rcs (l ++ r) = rcs l ++ rcs r := by
  induction l with
  | nil => rfl
  | cons a t ih => simp [rcs, ih]
theorem rcs_at : ∀ (l : List Rm) (i : Nat) {x : Rm}, l[i]? = some x → ∀ (j : Nat) (v : Value), (rmC x)[j]? = some v → (rcs l)[i * 15 + j]? = some v
  | [], i, x, h, j, v, hv => by simp at h
  | y :: r, 0, x, h, j, v, hv => by
    obtain rfl : y = x := by simpa using h
    rw [Nat.zero_mul, Nat.zero_add]
    show (rmC y ++ rcs r)[j]? = _
    rw [List.getElem?_append_left (List.getElem?_eq_some_iff.mp hv).1]
    exact hv
  | y :: r, i + 1, x, h, j, v, hv => by
    have ih := rcs_at r i (x := x) (by simpa using h) j v hv
    show (rmC y ++ rcs r)[(i + 1) * 15 + j]? = _
    have hl : (rmC y).length = 15 := rfl
    rw [List.getElem?_append_right (by rw [hl]; omega), hl, show (i + 1) * 15 + j - 15 = i * 15 + j by omega]
    exact ih
/-- A list of records in memory. -/
structure RcL (w : World) (v : Value) (l : List Rm) : Prop where
  own : w.ownsRow 0 132 15 v l.length (rcs l)
  an : ∀ x ∈ l, AnAt w x.m x.r.an
def RcB (l : List Rm) (k : Nat) : Prop := ∃ x ∈ l, AnB x.m k
section
variable {w w' : World} {v : Value} {l : List Rm}
theorem RcL.keep {B : Nat → Prop} (h : RcL w v l) (ho : Only B w w') (hv : ∀ k, v.ownBlock = some k → ¬ B k) (hB : ∀ k, RcB l k → ¬ B k) : RcL w' v l :=
  ⟨ownsRow_keep h.own ho hv, fun x hx => (h.an x hx).keep ho (fun k hk => hB k ⟨x, hx, hk⟩)⟩
theorem RcL.nil (w : World) : RcL w (.slice none 0 0) [] := ⟨World.ownsRow_nil _ _ _ _, fun x h => by cases h⟩
theorem RcL.lt (h : RcL w v l) : ∀ k, v.ownBlock = some k ∨ RcB l k → k < w.heap.size := by
  rintro k (hk | ⟨x, hx, hk⟩)
  · exact ownsRow_lt h.own k hk
  · exact (h.an x hx).lt k hk
theorem RcL.at_ {a : Option Addr} {n cap : Nat} (h : RcL w (.slice a n cap) l) {i : Nat} {x : Rm} (hx : l[i]? = some x) : ∃ g, a = some ⟨g, 0, none⟩ ∧ ∀ j v, (rmC x)[j]? = some v → w.cell? ⟨g, i * 15 + j, none⟩ = some v := by
  have hi := (List.getElem?_eq_some_iff.mp hx).1
  rcases h.own.2 with ⟨he, h0⟩ | ⟨g, cap', cur, he, _⟩
  · omega
  · obtain ⟨rfl, _⟩ : a = some ⟨g, 0, none⟩ ∧ True := by
      have := he
      simp at this
      exact ⟨this.1, trivial⟩
    refine ⟨g, rfl, fun j v hv => ?_⟩
    have hc := World.ownsRow.cells h.own (g := g) (by first | exact rfl | simp [Value.ownBlock])
    have b1 := hc _ _ (rcs_at l i hx j v hv)
    rw [addr_add] at b1
    exact b1
/-- A block of another type is none of an answer's. -/
theorem AnAt.ne {m : AnM} {a : An} (A : AnAt w m a) {b : Nat} {c : Array Value} {ty : TypeId} (H : Has w b c ty) (h1 : 106 ≠ ty) (h2 : 47 ≠ ty) (h3 : 169 ≠ ty) (h4 : 9 ≠ ty) : ∀ k, AnB m k → k ≠ b := by
  rintro k (hk | hk | ⟨z, hz, hk⟩ | hk | hk)
  · exact ownsRow_ne A.row H h1 k hk
  · exact ownsRow_ne A.own H h2 k hk
  · exact ownsRow_ne (A.rows z hz) H h1 k hk
  · exact ownsRow_ne A.col H h3 k hk
  · exact ownsRow_ne A.nms H h4 k hk
end
/-- The ghost: its slices. -/
structure GhM where
  shv : Value
  shl : List GE
  lv : Nat → Value
  ls : Nat → List Rm
  ov : Nat → Bool
def ghF (m : GhM) (i : Nat) : Value := if i = 0 then m.shv else if i < 5 then m.lv (i - 1) else .bool (m.ov (i - 5))
def ghC (m : GhM) : Array Value := tabV 9 (ghF m)
structure GhAt (w : World) (kG : Nat) (m : GhM) (sh : Db) : Prop where
  md : MDc 42 w kG 0 (ghC m) m.shv m.shl sh
  rl : ∀ s, s < 4 → RcL w (m.lv s) (m.ls s)
  sep : ∀ s r, s < 4 → r < 4 → s ≠ r → ∀ k, (m.lv s).ownBlock = some k → (m.lv r).ownBlock ≠ some k
  sa : ∀ s, s < 4 → ∀ k, RcB (m.ls s) k → ¬ MLm m.shv m.shl k
  len : ∀ s, s < 4 → (m.ls s).length ≤ 64
  tl : ∀ s, s < 4 → ∀ x ∈ m.ls s, x.r.t.size ≤ maxLen
/-- The ghost's blocks: those that are turned in place; all. -/
def GhM.T (m : GhM) (kG k : Nat) : Prop := k = kG ∨ MLm m.shv m.shl k ∨ ∃ s, s < 4 ∧ (m.lv s).ownBlock = some k
def GhM.A (m : GhM) (kG k : Nat) : Prop := m.T kG k ∨ MLi m.shl k ∨ ∃ s, s < 4 ∧ RcB (m.ls s) k
theorem stoG : StoT 42 := ⟨by decide, by decide, by decide, by decide⟩
section
variable {w w' : World} {kG : Nat} {m : GhM} {sh : Db} {s : Nat}
theorem GhAt.keep {B : Nat → Prop} (h : GhAt w kG m sh) (ho : Only B w w') (hB : ∀ k, m.A kG k → ¬ B k) : GhAt w' kG m sh := by
  refine ⟨h.md.keep ho (fun k hk => hB k ?_), fun s hs => (h.rl s hs).keep ho (fun k hk => hB k (.inl (.inr (.inr ⟨s, hs, hk⟩)))) (fun k hk => hB k (.inr (.inr ⟨s, hs, hk⟩))), h.sep, h.sa, h.len, h.tl⟩
  rcases hk with hk | hk | hk
  · exact .inl (.inl hk)
  · exact .inl (.inr (.inl hk))
  · exact .inr (.inl hk)
theorem GhAt.quiet (h : GhAt w kG m sh) (ho : Only (fun _ => False) w w') : GhAt w' kG m sh := h.keep ho (fun _ _ e => e)
theorem GhAt.lt (h : GhAt w kG m sh) : ∀ k, m.A kG k → k < w.heap.size := by
  rintro k ((hk | hk | ⟨s, hs, hk⟩) | hk | ⟨s, hs, hk⟩)
  · exact h.md.lt k (.inl hk)
  · exact h.md.lt k (.inr (.inl hk))
  · exact (h.rl s hs).lt k (.inl hk)
  · exact h.md.lt k (.inr (.inr hk))
  · exact (h.rl s hs).lt k (.inr hk)
theorem GhAt.has (h : GhAt w kG m sh) : Has w kG (ghC m) 42 := h.md.has
theorem GhAt.cell (h : GhAt w kG m sh) (i : Nat) (hi : i < 9) : w.cell? ⟨kG, i, none⟩ = some (ghF m i) := by
  rw [h.has.cell]
  exact tabV_get _ _ _ hi
theorem GhAt.cL (h : GhAt w kG m sh) (hs : s < 4) : w.cell? ⟨kG, 1 + s, none⟩ = some (m.lv s) := by
  rw [h.cell _ (by omega)]
  unfold ghF
  rw [if_neg (by omega), if_pos (by omega), show 1 + s - 1 = s by omega]
theorem GhAt.cO (h : GhAt w kG m sh) (hs : s < 4) : w.cell? ⟨kG, 5 + s, none⟩ = some (.bool (m.ov s)) := by
  rw [h.cell _ (by omega)]
  unfold ghF
  rw [if_neg (by omega), if_neg (by omega), show 5 + s - 5 = s by omega]
/-- kG is none of the other blocks. -/
theorem GhAt.ne (h : GhAt w kG m sh) : (∀ k, MLm m.shv m.shl k ∨ MLi m.shl k → k ≠ kG) ∧ (∀ s, s < 4 → ∀ k, (m.lv s).ownBlock = some k → k ≠ kG) ∧ ∀ s, s < 4 → ∀ k, RcB (m.ls s) k → k ≠ kG :=
  ⟨h.md.dkne, fun s hs k hk => ownsRow_ne (h.rl s hs).own h.has (by decide) k hk, fun s hs k ⟨x, hx, hk⟩ => ((h.rl s hs).an x hx).ne h.has (by decide) (by decide) (by decide) (by decide) k hk⟩
/-- A list's block is none of the shadow's, nor of an answer's. -/
theorem GhAt.lne (h : GhAt w kG m sh) (hs : s < 4) {k : Nat} (hk : (m.lv s).ownBlock = some k) : ¬ MLm m.shv m.shl k ∧ ¬ MLi m.shl k ∧ ∀ r, r < 4 → ¬ RcB (m.ls r) k := by
  obtain ⟨c, hc⟩ := ownsRow_has (h.rl s hs).own hk
  have h1 := h.md.ml.neT hc (by decide) (by decide) (by decide) (by decide)
  exact ⟨fun x => h1 k (.inl x) rfl, fun x => h1 k (.inr x) rfl, fun r hr ⟨y, hy, x⟩ => ((h.rl r hr).an y hy).ne hc (by decide) (by decide) (by decide) (by decide) k x rfl⟩
def GhM.setL (m : GhM) (s : Nat) (v : Value) (l : List Rm) : GhM := { m with lv := fun i => if i = s then v else m.lv i, ls := fun i => if i = s then l else m.ls i }
def GhM.setO (m : GhM) (s : Nat) (b : Bool) : GhM := { m with ov := fun i => if i = s then b else m.ov i }
def GhM.setS (m : GhM) (v : Value) (l : List GE) : GhM := { m with shv := v, shl := l }
theorem ghC_L (m : GhM) (hs : s < 4) (v : Value) (l : List Rm) : (ghC m).setIfInBounds (1 + s) v = ghC (m.setL s v l) := by
  unfold ghC
  rw [tabV_set]
  refine tabV_congr 9 (fun i hi => ?_)
  unfold ghF GhM.setL
  by_cases c : i = 1 + s
  · subst c
    rw [if_pos rfl, if_neg (by omega), if_pos (by omega)]
    simp only
    rw [if_pos (by omega)]
  · rw [if_neg c]
    simp only
    by_cases c0 : i = 0
    · rw [if_pos c0, if_pos c0]
    · rw [if_neg c0, if_neg c0]
      by_cases c5 : i < 5
      · rw [if_pos c5, if_pos c5, if_neg (by omega)]
      · rw [if_neg c5, if_neg c5]
theorem ghC_O (m : GhM) (hs : s < 4) (b : Bool) : (ghC m).setIfInBounds (5 + s) (.bool b) = ghC (m.setO s b) := by
  unfold ghC
  rw [tabV_set]
  refine tabV_congr 9 (fun i hi => ?_)
  unfold ghF GhM.setO
  by_cases c : i = 5 + s
  · subst c
    rw [if_pos rfl, if_neg (by omega), if_neg (by omega)]
    simp only
    rw [if_pos (by omega)]
  · rw [if_neg c]
    simp only
    by_cases c0 : i = 0
    · rw [if_pos c0, if_pos c0]
    · rw [if_neg c0, if_neg c0]
      by_cases c5 : i < 5
      · rw [if_pos c5, if_pos c5]
      · rw [if_neg c5, if_neg c5, if_neg (by omega)]
theorem ghC_S (m : GhM) (v : Value) (l : List GE) : (ghC m).setIfInBounds 0 v = ghC (m.setS v l) := by
  unfold ghC
  rw [tabV_set]
  refine tabV_congr 9 (fun i hi => ?_)
  unfold ghF GhM.setS
  by_cases c : i = 0
  · subst c
    rw [if_pos rfl, if_pos rfl]
  · rw [if_neg c, if_neg c, if_neg c]
theorem ghC_0 (m : GhM) : (ghC m)[0]? = some m.shv := tabV_get _ _ _ (by omega)
/-- Session s is over, or is not. -/
theorem GhAt.setO (h : GhAt w kG m sh) (hs : s < 4) (b : Bool) : GhAt (w.setCell ⟨kG, 5 + s, none⟩ (.bool b)) kG (m.setO s b) sh := by
  have o1 : Only (fun k => k = kG) w (w.setCell ⟨kG, 5 + s, none⟩ (.bool b)) := only1 _ _
  have hn := h.ne
  have H := h.has.setCell (5 + s) (.bool b)
  rw [ghC_O m hs b] at H
  exact ⟨⟨stoG, H, ghC_0 _, h.md.ml.keep o1 (fun k hk => hn.1 k (.inl hk)) (fun k hk => hn.1 k (.inr hk)), h.md.tt, h.md.ok⟩, fun r hr => (h.rl r hr).keep o1 (fun k hk => hn.2.1 r hr k hk) (fun k hk => hn.2.2 r hr k hk), h.sep, h.sa, h.len, h.tl⟩
/-- Session s's list turned. -/
theorem GhAt.setL {B : Nat → Prop} {w1 : World} (h : GhAt w kG m sh) (hs : s < 4) (ho : Only B w w1) (hB : ∀ k, B k → (m.lv s).ownBlock = some k) {v : Value} {l : List Rm} (hv : RcL w1 v l) (hvs : ∀ r, r < 4 → r ≠ s → ∀ k, v.ownBlock = some k → (m.lv r).ownBlock ≠ some k) (hvk : ∀ k, v.ownBlock = some k → k ≠ kG) (hva : ∀ k, RcB l k → ¬ MLm m.shv m.shl k ∧ k ≠ kG) (hl : l.length ≤ 64) (htl : ∀ x ∈ l, x.r.t.size ≤ maxLen) : GhAt (w1.setCell ⟨kG, 1 + s, none⟩ v) kG (m.setL s v l) sh := by
  have o1 : Only (fun k => k = kG) w1 (w1.setCell ⟨kG, 1 + s, none⟩ v) := only1 _ _
  have hn := h.ne
  have M1 := h.md.keep ho (fun k hk c => by
    have h1 := hB k c
    have h2 := h.lne hs h1
    rcases hk with hk | hk | hk
    · exact hn.2.1 s hs k h1 hk
    · exact h2.1 hk
    · exact h2.2.1 hk)
  have H := M1.has.setCell (1 + s) v
  rw [ghC_L m hs v l] at H
  have elv : ∀ r, (m.setL s v l).lv r = if r = s then v else m.lv r := fun _ => rfl
  have els : ∀ r, (m.setL s v l).ls r = if r = s then l else m.ls r := fun _ => rfl
  refine ⟨⟨stoG, H, ghC_0 _, M1.ml.keep o1 (fun k hk => hn.1 k (.inl hk)) (fun k hk => hn.1 k (.inr hk)), h.md.tt, h.md.ok⟩, fun r hr => ?_, fun a b ha hb hab k => ?_, fun r hr k => ?_, fun r hr => ?_, fun r hr => ?_⟩
  · rw [elv, els]
    by_cases c : r = s
    · rw [if_pos c, if_pos c]
      exact hv.keep o1 hvk (fun k hk => (hva k hk).2)
    · rw [if_neg c, if_neg c]
      exact ((h.rl r hr).keep ho (fun k hk x => h.sep s r hs hr (fun e => c e.symm) k (hB k x) hk) (fun k hk x => (h.lne hs (hB k x)).2.2 r hr hk)).keep o1 (fun k hk => hn.2.1 r hr k hk) (fun k hk => hn.2.2 r hr k hk)
  · rw [elv, elv]
    by_cases ca : a = s <;> by_cases cb : b = s
    · omega
    · rw [if_pos ca, if_neg cb]
      exact hvs b hb cb k
    · rw [if_neg ca, if_pos cb]
      exact fun h1 h2 => hvs a ha ca k h2 h1
    · rw [if_neg ca, if_neg cb]
      exact h.sep a b ha hb hab k
  · rw [els]
    by_cases c : r = s
    · rw [if_pos c]; exact fun hk => (hva k hk).1
    · rw [if_neg c]; exact h.sa r hr k
  · rw [els]
    by_cases c : r = s
    · rw [if_pos c]; exact hl
    · rw [if_neg c]; exact h.len r hr
  · rw [els]
    by_cases c : r = s
    · rw [if_pos c]; exact htl
    · rw [if_neg c]; exact h.tl r hr
theorem GhAt.clear (h : GhAt w kG m sh) (hs : s < 4) : GhAt (w.setCell ⟨kG, 1 + s, none⟩ (.slice none 0 0)) kG (m.setL s (.slice none 0 0) []) sh :=
  h.setL (B := fun _ => False) hs (Only.refl _ _) (fun _ e => e.elim) (RcL.nil _) (fun _ _ _ _ e => by cases e) (fun _ e => by cases e) (fun _ ⟨_, e, _⟩ => by cases e) (by simp) (fun _ e => by cases e)
/-- The shadow turned by a call. -/
theorem GhAt.setS {v' : Value} {l' : List GE} {D' : Db} (h : GhAt w kG m sh) (hD : MDc 42 w' kG 0 ((ghC m).setIfInBounds 0 v') v' l' D') (ho : Only (fun k => k = kG ∨ MLm m.shv m.shl k) w w') (hm : ∀ k, MLm v' l' k → MLm m.shv m.shl k ∨ w.heap.size ≤ k) : GhAt w' kG (m.setS v' l') D' := by
  have hn := h.ne
  rw [ghC_S m v' l'] at hD
  refine ⟨hD, fun r hr => (h.rl r hr).keep ho (fun k hk c => ?_) (fun k hk c => ?_), h.sep, fun r hr k hk c => ?_, h.len, h.tl⟩
  · rcases c with c | c
    · exact hn.2.1 r hr k hk c
    · exact (h.lne hr hk).1 c
  · rcases c with c | c
    · exact hn.2.2 r hr k hk c
    · exact h.sa r hr k hk c
  · rcases hm k c with c | c
    · exact h.sa r hr k hk c
    · have := (h.rl r hr).lt k (.inr hk)
      omega
/-- The shadow taken anew. -/
theorem GhAt.newS {tv : Value} {l' : List GE} {D' : Db} (h : GhAt w kG m sh) (hM : ML w tv l') (ht : l'.map (·.t) = D') (G : DOk D') (hk : ∀ k, MLm tv l' k ∨ MLi l' k → ¬ m.A kG k) : GhAt (w.setCell ⟨kG, 0, none⟩ tv) kG (m.setS tv l') D' := by
  have o1 : Only (fun k => k = kG) w (w.setCell ⟨kG, 0, none⟩ tv) := only1 _ _
  have hn := h.ne
  have H := h.has.setCell 0 tv
  rw [ghC_S m tv l'] at H
  refine ⟨⟨stoG, H, ghC_0 _, hM.keep o1 (fun k h1 e => hk k (.inl h1) (.inl (.inl e))) (fun k h1 e => hk k (.inr h1) (.inl (.inl e))), ht, G⟩, fun r hr => (h.rl r hr).keep o1 (fun k hk => hn.2.1 r hr k hk) (fun k hk => hn.2.2 r hr k hk), h.sep, fun r hr k h1 h2 => ?_, h.len, h.tl⟩
  exact hk k (.inl h2) (.inr (.inr ⟨r, hr, h1⟩))
end
end Go.Proofs.Qxb6500414aGreat
