/-
  OWN WORK. WHAT THE PAGER SHOWS, AGAINST A GHOST OF IT: plain words and small facts.
-/
import Derived.Test.Qxb6500412aGreatPgNew
namespace Go.Proofs.Qxb6500412aGreat
open Go.RowKit
set_option linter.unusedSimpArgs false
set_option linter.unusedVariables false

def usedL (used : List Bool) (n : Nat) : Bool := used.getD n false

/-- The book says of page n what the pager shows. -/
def Sees (view : List ByteArray) (used : List Bool) (pg : List ByteArray) (n : Nat) : Prop := usedL used n = usedV view n ∧ (usedV view n = true → view.getD n emptyB = pg.getD n emptyB)
def SeesAll (view : List ByteArray) (used : List Bool) (pg : List ByteArray) : Prop := ∀ n, 1 ≤ n → n < 72 → Sees view used pg n

theorem lowOf_congr1 {f g : Nat → Bool} (h : ∀ n, 1 ≤ n → n < 72 → f n = g n) : lowOf f = lowOf g := by
  unfold lowOf
  congr 1
  apply find_congr
  intro x hx
  have hx' : x < 72 := by simpa using hx
  by_cases h0 : x = 0
  · simp [h0]
  · rw [h x (by omega) hx']

theorem getD_setQ {α : Type} (l : List α) (i j : Nat) (x d : α) (hi : i < l.length) : (l.set i x).getD j d = if j = i then x else l.getD j d := by
  simp only [List.getD_eq_getElem?_getD, List.getElem?_set]
  by_cases h : i = j
  · subst h; simp [hi]
  · have h' : ¬ j = i := fun e => h e.symm
    simp [h, h']

section
variable {view : List ByteArray} {used : List Bool} {pg : List ByteArray}
theorem SeesAll.low (h : SeesAll view used pg) : lowOf (usedL used) = lowOf (usedV view) := lowOf_congr1 (fun n a b => (h n a b).1)

theorem SeesAll.alloc (h : SeesAll view used pg) (lv : view.length = 72) (hs : (view.getD 0 emptyB).size = 128) (lu : used.length = 72) (lp : pg.length = 72) {n : Nat} (h1 : 1 ≤ n) (hn : n < 72) :
    SeesAll ((view.set 0 (setB (view.getD 0 emptyB) n)).set n zeroB) (used.set n true) (pg.set n zeroB) := by
  intro k k1 k2
  obtain ⟨a, b⟩ := h k k1 k2
  have e0 : ((view.set 0 (setB (view.getD 0 emptyB) n)).set n zeroB).getD 0 emptyB = setB (view.getD 0 emptyB) n := by
    rw [getD_setQ _ _ _ _ _ (by simp; omega), if_neg (by omega), getD_setQ _ _ _ _ _ (by omega), if_pos rfl]
  have ek : ((view.set 0 (setB (view.getD 0 emptyB) n)).set n zeroB).getD k emptyB = if k = n then zeroB else view.getD k emptyB := by
    rw [getD_setQ _ _ _ _ _ (by simp; omega), getD_setQ _ _ _ _ _ (by omega)]
    by_cases hk : k = n
    · simp [hk]
    · rw [if_neg hk, if_neg hk, if_neg (by omega)]
  unfold Sees
  have eu : usedV ((view.set 0 (setB (view.getD 0 emptyB) n)).set n zeroB) k = if k = n then true else usedV view k := by
    unfold usedV
    rw [e0, bitOf_setB _ _ _ hs hn k2]
  rw [eu, ek]
  unfold usedL at a ⊢
  rw [getD_setQ _ _ _ _ _ (by omega), getD_setQ _ _ _ _ _ (by omega)]
  by_cases hk : k = n
  · simp [hk]
  · rw [if_neg hk, if_neg hk, if_neg hk, if_neg hk]; exact ⟨a, b⟩

theorem SeesAll.freed (h : SeesAll view used pg) {view' : List ByteArray} {n : Nat} (h1 : 1 ≤ n) (hn : n < 72) (hs : (view.getD 0 emptyB).size = 128) (lu : used.length = 72) (e0 : view'.getD 0 emptyB = clrB (view.getD 0 emptyB) n) (ek : ∀ k, k ≠ 0 → k ≠ n → view'.getD k emptyB = view.getD k emptyB) :
    SeesAll view' (used.set n false) pg := by
  intro k k1 k2
  obtain ⟨a, b⟩ := h k k1 k2
  have eu : usedV view' k = if k = n then false else usedV view k := by
    unfold usedV
    rw [e0, bitOf_clrB _ _ _ hs hn k2]
  unfold Sees
  rw [eu]
  unfold usedL at a ⊢
  rw [getD_setQ _ _ _ _ _ (by omega)]
  by_cases hk : k = n
  · simp [hk]
  · rw [if_neg hk, if_neg hk, ek k (by omega) hk]; exact ⟨a, b⟩

theorem SeesAll.put (h : SeesAll view used pg) (lv : view.length = 72) (lp : pg.length = 72) {n : Nat} (h1 : 1 ≤ n) (hn : n < 72) (x : ByteArray) :
    SeesAll (view.set n x) used (pg.set n x) := by
  intro k k1 k2
  obtain ⟨a, b⟩ := h k k1 k2
  have eu : usedV (view.set n x) k = usedV view k := by
    unfold usedV
    rw [getD_setQ _ _ _ _ _ (by omega), if_neg (by omega)]
  unfold Sees
  rw [eu, getD_setQ _ _ _ _ _ (by omega), getD_setQ _ _ _ _ _ (by omega)]
  by_cases hk : k = n
  · simp [hk]; rw [← hk]; exact a
  · rw [if_neg hk, if_neg hk]; exact ⟨a, b⟩
end

section
variable {w : World} {p l d : Nat} {blk base : List ByteArray} {recs : List (Nat × ByteArray)} {op : Bool} {com view : List ByteArray} {F G : Nat → Prop}

theorem PG.still (h : PG w p l d blk base recs op com view F G) : CutInv blk [] com com := by
  obtain ⟨⟨fr, ord, cur, h1, h2, h3⟩, a, b⟩ := h
  exact h2.still
theorem PG.inF (h : PG w p l d blk base recs op com view F G) : ∀ k, F k → k < w.heap.size := by
  obtain ⟨⟨fr, ord, cur, h1, h2, h3⟩, a, b⟩ := h
  exact h2.inF
theorem PG.inG (h : PG w p l d blk base recs op com view F G) : ∀ k, G k → k < w.heap.size := by
  obtain ⟨⟨fr, ord, cur, h1, h2, h3⟩, a, b⟩ := h
  exact h2.inG
theorem PG.plt (h : PG w p l d blk base recs op com view F G) : p < w.heap.size := by
  obtain ⟨⟨fr, ord, cur, h1, h2, h3⟩, a, b⟩ := h
  exact h1.has.lt

/-- Without a transaction the pager shows the committed list. -/
theorem PG.shut (h : PG w p l d blk base recs false com view F G) : view = com.take 72 := by
  obtain ⟨⟨fr, ord, cur, h1, h2, h3⟩, a, b⟩ := h
  obtain rfl := h2.shut
  have hlc := h2.lcom
  apply List.ext_getElem (by rw [h3.lv]; simp [hlc])
  intro i i1 i2
  have hi : i < 72 := by rw [h3.lv] at i1; exact i1
  have hv : view.getD i emptyB = cur.getD i emptyB := by
    by_cases hex : ∃ j, (fa fr j).valid = true ∧ (fa fr j).page = i
    · obtain ⟨j, hj, hp⟩ := hex
      have hd : (fa fr j).dirty = false := by
        cases hdd : (fa fr j).dirty with
        | false => rfl
        | true => exact absurd (h3.dop j hj hdd) (by simp)
      have e1 := (h3.page j hj).2.2
      have e2 := h3.clean j hj hd
      rw [hp] at e1 e2
      rw [e1, e2]
    · exact h3.miss i hi (fun j hj hp => hex ⟨j, hj, hp⟩)
  rw [List.getElem_take]
  have i3 : i < cur.length := by rw [hlc]; omega
  simpa [List.getD_eq_getElem?_getD, i1, i3] using hv

theorem Shows.inj {D X Y : List ByteArray} (lX : X.length = 80) (lY : Y.length = 80) (h : Shows D X) (h' : Shows D Y) : X = Y := by
  apply List.ext_getElem (by omega)
  intro i i1 i2
  have hi : i < 80 := by omega
  have := (h i hi).symm.trans (h' i hi)
  simpa [List.getD_eq_getElem?_getD, i1, i2] using this

theorem PG.lcom (h : PG w p l d blk base recs op com view F G) : com.length = 80 := by
  obtain ⟨⟨fr, ord, cur, h1, h2, h3⟩, a, b⟩ := h
  exact h2.lcom
theorem PG.dk (h : PG w p l d blk base recs op com view F G) : DiskAt w d blk base recs F := by
  obtain ⟨⟨fr, ord, cur, h1, h2, h3⟩, a, b⟩ := h
  exact h2.dk
theorem PG.FG (h : PG w p l d blk base recs op com view F G) : ∀ k, F k → ¬ G k := by
  obtain ⟨⟨fr, ord, cur, h1, h2, h3⟩, a, b⟩ := h
  exact h2.FG

/-- The disk was marked. -/
theorem PG.marked {w' : World} (h : PG w p l d blk base recs op com view F G) (hd : DiskAt w' d blk blk [] (Ext F w w')) (ho : Only F w w') : PG w' p l d blk blk [] op com view (Ext F w w') G := by
  have hp := h.plt
  obtain ⟨⟨fr, ord, cur, h1, ⟨⟨es, dirty, g1, g2, g3⟩, h22, h23⟩, h3⟩, a, b⟩ := h
  refine ⟨⟨fr, ord, cur, h1.keep ho a, ⟨⟨es, dirty, g1.keep ho (fun x hx hf => h23 x hf hx), g2, g3⟩, hd, Ext.off h23 g1.inn⟩, h3⟩, ?_, b⟩
  rintro (hh | hh)
  · exact a hh
  · omega

end

theorem sees_zero {pg : List ByteArray} : SeesAll ((zeros 80).take 72) (nots 72) pg := by
  intro n h1 hn
  have e0 : ((zeros 80).take 72).getD 0 emptyB = zeroB := rfl
  have hb : bitOf zeroB n = false := by
    have : ∀ n : Fin 72, bitOf zeroB n.val = false := by decide +kernel
    exact this ⟨n, hn⟩
  unfold Sees usedV
  rw [e0, hb]
  refine ⟨?_, fun h => by cases h⟩
  unfold usedL nots
  rw [List.getD_eq_getElem?_getD, List.getElem?_replicate, if_pos hn]
  rfl

end Go.Proofs.Qxb6500412aGreat
