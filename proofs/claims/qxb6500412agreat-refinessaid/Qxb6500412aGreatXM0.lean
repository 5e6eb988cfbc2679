/-
  OWN WORK. TXN's MODEL: api.Multi in memory: the committed database (0) and the sessions' own (1 + s), who is in a transaction, the locks.
-/
import Derived.Test.Qxb6500412aGreatMM13
import Derived.Test.Qxb6500412aGreatMM7
import Derived.Test.Qxb6500412aGreatXSPQ
import Derived.Laws.Append
namespace Go.Proofs.Qxb6500412aGreat
open Go.RowKit Go.PlainAid
set_option linter.unusedSimpArgs false
set_option linter.unusedVariables false

structure Mm where
  act : Nat → Bool
  lk : Nat → Nat → Int
  v : Nat → Value
  l : Nat → List GE
def mmC (Z : Mm) (o : Nat) : Value := if o = 0 then Z.v 0 else if o < 5 then .bool (Z.act (o - 1)) else if o < 17 then .int .i64 (Z.lk ((o - 5) / 3) ((o - 5) % 3)) else Z.v (o - 16)
def offM (j : Nat) : Nat := if j = 0 then 0 else 16 + j
structure MMt (w : World) (k : Nat) (Z : Mm) : Prop where
  has : Has w k (tabV 21 (mmC Z)) 113
  ml : ∀ j, j < 5 → ML w (Z.v j) (Z.l j)
  sep : ∀ i j, i < 5 → j < 5 → i ≠ j → ∀ b, MLm (Z.v i) (Z.l i) b → ¬ MLm (Z.v j) (Z.l j) b
def Mm.T (Z : Mm) (k b : Nat) : Prop := b = k ∨ ∃ j, j < 5 ∧ MLm (Z.v j) (Z.l j) b
def Mm.A (Z : Mm) (k b : Nat) : Prop := Z.T k b ∨ ∃ j, j < 5 ∧ MLi (Z.l j) b
def Mm.setV (Z : Mm) (j : Nat) (v : Value) (l : List GE) : Mm := { Z with v := fun i => if i = j then v else Z.v i, l := fun i => if i = j then l else Z.l i }
def Mm.setA (Z : Mm) (s : Nat) (b : Bool) : Mm := { Z with act := fun i => if i = s then b else Z.act i }
def Mm.setK (Z : Mm) (s i : Nat) (x : Int) : Mm := { Z with lk := fun r c => if r = s ∧ c = i then x else Z.lk r c }
theorem stoM : StoT 113 := ⟨by decide, by decide, by decide, by decide⟩
theorem offM_pos {s : Nat} : offM (1 + s) = 17 + s := by
  unfold offM
  rw [if_neg (by omega)]
  omega
theorem offM_lt {j : Nat} (hj : j < 5) : offM j < 21 := by
  unfold offM
  split <;> omega
theorem mmC_V (Z : Mm) {j : Nat} (hj : j < 5) (v : Value) (l : List GE) : (tabV 21 (mmC Z)).setIfInBounds (offM j) v = tabV 21 (mmC (Z.setV j v l)) := by
  rw [tabV_set]
  refine tabV_congr 21 (fun i hi => ?_)
  unfold mmC Mm.setV offM
  simp only
  by_cases j0 : j = 0
  · subst j0
    rw [if_pos rfl]
    by_cases c : i = 0
    · subst c
      rw [if_pos rfl, if_pos rfl, if_pos rfl]
    · rw [if_neg c, if_neg c, if_neg c]
      by_cases c5 : i < 5
      · rw [if_pos c5, if_pos c5]
      · rw [if_neg c5, if_neg c5]
        by_cases c17 : i < 17
        · rw [if_pos c17, if_pos c17]
        · rw [if_neg c17, if_neg c17, if_neg (by omega)]
  · rw [if_neg j0]
    by_cases c : i = 16 + j
    · subst c
      rw [if_pos rfl, if_neg (by omega), if_neg (by omega), if_neg (by omega), if_pos (by omega)]
    · rw [if_neg c]
      by_cases c0 : i = 0
      · subst c0
        rw [if_pos rfl, if_pos rfl, if_neg (by omega)]
      · rw [if_neg c0, if_neg c0]
        by_cases c5 : i < 5
        · rw [if_pos c5, if_pos c5]
        · rw [if_neg c5, if_neg c5]
          by_cases c17 : i < 17
          · rw [if_pos c17, if_pos c17]
          · rw [if_neg c17, if_neg c17, if_neg (by omega)]
theorem mmC_A (Z : Mm) {s : Nat} (hs : s < 4) (b : Bool) : (tabV 21 (mmC Z)).setIfInBounds (1 + s) (.bool b) = tabV 21 (mmC (Z.setA s b)) := by
  rw [tabV_set]
  refine tabV_congr 21 (fun i hi => ?_)
  unfold mmC Mm.setA
  simp only
  by_cases c : i = 1 + s
  · subst c
    rw [if_pos rfl, if_neg (by omega), if_pos (by omega), if_pos (by omega)]
  · rw [if_neg c]
    by_cases c0 : i = 0
    · rw [if_pos c0, if_pos c0]
    · rw [if_neg c0, if_neg c0]
      by_cases c5 : i < 5
      · rw [if_pos c5, if_pos c5, if_neg (by omega)]
      · rw [if_neg c5, if_neg c5]
theorem mmC_K (Z : Mm) {s i : Nat} (hs : s < 4) (hi : i < 3) (x : Int) : (tabV 21 (mmC Z)).setIfInBounds (5 + s * 3 + i) (.int .i64 x) = tabV 21 (mmC (Z.setK s i x)) := by
  rw [tabV_set]
  refine tabV_congr 21 (fun o ho => ?_)
  unfold mmC Mm.setK
  simp only
  by_cases c : o = 5 + s * 3 + i
  · subst c
    rw [if_pos rfl, if_neg (by omega), if_neg (by omega), if_pos (by omega), if_pos (by omega)]
  · rw [if_neg c]
    by_cases c0 : o = 0
    · rw [if_pos c0, if_pos c0]
    · rw [if_neg c0, if_neg c0]
      by_cases c5 : o < 5
      · rw [if_pos c5, if_pos c5]
      · rw [if_neg c5, if_neg c5]
        by_cases c17 : o < 17
        · rw [if_pos c17, if_pos c17, if_neg (by omega)]
        · rw [if_neg c17, if_neg c17]
section
variable {w w' : World} {k : Nat} {Z : Mm}
theorem MMt.keep {B : Nat → Prop} (h : MMt w k Z) (ho : Only B w w') (hB : ∀ b, Z.A k b → ¬ B b) : MMt w' k Z :=
  ⟨h.has.keep ho (hB k (.inl (.inl rfl))), fun j hj => (h.ml j hj).keep ho (fun b hb => hB b (.inl (.inr ⟨j, hj, hb⟩))) (fun b hb => hB b (.inr ⟨j, hj, hb⟩)), h.sep⟩
theorem MMt.quiet (h : MMt w k Z) (ho : Only (fun _ => False) w w') : MMt w' k Z := h.keep ho (fun _ _ e => e)
theorem MMt.lt (h : MMt w k Z) : ∀ b, Z.A k b → b < w.heap.size := by
  rintro b ((rfl | ⟨j, hj, hb⟩) | ⟨j, hj, hb⟩)
  · exact h.has.lt
  · exact (h.ml j hj).lt b (.inl hb)
  · exact (h.ml j hj).lt b (.inr hb)
theorem MMt.cell (h : MMt w k Z) {o : Nat} (ho : o < 21) : w.cell? ⟨k, o, none⟩ = some (mmC Z o) := by
  rw [h.has.cell, tabV_get _ _ _ ho]
theorem MMt.fr (h : MMt w k Z) (o : Nat) : w.frozen? ⟨k, o, none⟩ = false := h.has.free o
theorem mmC_off {j : Nat} (hj : j < 5) : mmC Z (offM j) = Z.v j := by
  unfold mmC offM
  by_cases c : j = 0
  · rw [if_pos c, if_pos rfl, c]
  · rw [if_neg c, if_neg (by omega), if_neg (by omega), if_neg (by omega), show 16 + j - 16 = j by omega]
theorem MMt.c0 (h : MMt w k Z) : w.cell? ⟨k, 0, none⟩ = some (Z.v 0) := h.cell (by omega)
theorem MMt.cA (h : MMt w k Z) {s : Nat} (hs : s < 4) : w.cell? ⟨k, 1 + s, none⟩ = some (.bool (Z.act s)) := by
  rw [h.cell (by omega)]
  unfold mmC
  rw [if_neg (by omega), if_pos (by omega), show 1 + s - 1 = s by omega]
theorem MMt.cK (h : MMt w k Z) {s i : Nat} (hs : s < 4) (hi : i < 3) : w.cell? ⟨k, 5 + s * 3 + i, none⟩ = some (.int .i64 (Z.lk s i)) := by
  rw [h.cell (by omega)]
  unfold mmC
  rw [if_neg (by omega), if_neg (by omega), if_pos (by omega), show (5 + s * 3 + i - 5) / 3 = s by omega, show (5 + s * 3 + i - 5) % 3 = i by omega]
theorem MMt.cP (h : MMt w k Z) {s : Nat} (hs : s < 4) : w.cell? ⟨k, 17 + s, none⟩ = some (Z.v (1 + s)) := by
  rw [h.cell (by omega)]
  unfold mmC
  rw [if_neg (by omega), if_neg (by omega), if_neg (by omega), show 17 + s - 16 = 1 + s by omega]
theorem MMt.ne (h : MMt w k Z) {j : Nat} (hj : j < 5) : ∀ b, MLm (Z.v j) (Z.l j) b ∨ MLi (Z.l j) b → b ≠ k := (h.ml j hj).neT h.has stoM.1 stoM.2.1 stoM.2.2.1 stoM.2.2.2
/-- One of its databases turned (or taken anew). -/
theorem MMt.setV {B : Nat → Prop} {j : Nat} {v : Value} {l : List GE} (h : MMt w k Z) (hj : j < 5) (ho : Only B w w') (hB : ∀ b, B b → b = k ∨ MLm (Z.v j) (Z.l j) b) (hh : Has w' k ((tabV 21 (mmC Z)).setIfInBounds (offM j) v) 113) (hM : ML w' v l) (hm : ∀ b, MLm v l b → MLm (Z.v j) (Z.l j) b ∨ w.heap.size ≤ b) : MMt w' k (Z.setV j v l) := by
  rw [mmC_V Z hj v l] at hh
  have old : ∀ i, i < 5 → i ≠ j → ML w' (Z.v i) (Z.l i) := fun i hi hne => (h.ml i hi).keep ho (fun b hb c => by
    rcases hB b c with d | d
    · exact h.ne hi b (.inl hb) d
    · exact h.sep i j hi hj hne b hb d) (fun b hb c => by
    rcases hB b c with d | d
    · exact h.ne hi b (.inr hb) d
    · exact (h.ml j hj).mi (h.ml i hi) d hb)
  have new : ∀ i, i < 5 → i ≠ j → ∀ b, MLm (Z.v i) (Z.l i) b → ¬ MLm v l b := fun i hi hne b hb c => by
    rcases hm b c with d | d
    · exact h.sep i j hi hj hne b hb d
    · have := (h.ml i hi).lt b (.inl hb)
      omega
  refine ⟨hh, fun i hi => ?_, fun i r hi hr hne b hb hc => ?_⟩
  · show ML w' (if i = j then v else Z.v i) (if i = j then l else Z.l i)
    by_cases c : i = j
    · rw [if_pos c, if_pos c]; exact hM
    · rw [if_neg c, if_neg c]; exact old i hi c
  · have hb : MLm (if i = j then v else Z.v i) (if i = j then l else Z.l i) b := hb
    have hc : MLm (if r = j then v else Z.v r) (if r = j then l else Z.l r) b := hc
    by_cases c : i = j
    · rw [if_pos c, if_pos c] at hb
      rw [if_neg (by omega), if_neg (by omega)] at hc
      exact new r hr (by omega) b hc hb
    · rw [if_neg c, if_neg c] at hb
      by_cases d : r = j
      · rw [if_pos d, if_pos d] at hc
        exact new i hi c b hb hc
      · rw [if_neg d, if_neg d] at hc
        exact h.sep i r hi hr hne b hb hc
theorem MMt.setA (h : MMt w k Z) {s : Nat} (hs : s < 4) (b : Bool) : MMt (w.setCell ⟨k, 1 + s, none⟩ (.bool b)) k (Z.setA s b) := by
  have o1 : Only (fun x => x = k) w (w.setCell ⟨k, 1 + s, none⟩ (.bool b)) := only1 _ _
  have H := h.has.setCell (1 + s) (.bool b)
  rw [mmC_A Z hs b] at H
  exact ⟨H, fun j hj => (h.ml j hj).keep o1 (fun x hx => h.ne hj x (.inl hx)) (fun x hx => h.ne hj x (.inr hx)), h.sep⟩
theorem MMt.setK (h : MMt w k Z) {s i : Nat} (hs : s < 4) (hi : i < 3) (x : Int) : MMt (w.setCell ⟨k, 5 + s * 3 + i, none⟩ (.int .i64 x)) k (Z.setK s i x) := by
  have o1 : Only (fun x => x = k) w (w.setCell ⟨k, 5 + s * 3 + i, none⟩ (.int .i64 x)) := only1 _ _
  have H := h.has.setCell (5 + s * 3 + i) (.int .i64 x)
  rw [mmC_K Z hs hi x] at H
  exact ⟨H, fun j hj => (h.ml j hj).keep o1 (fun x hx => h.ne hj x (.inl hx)) (fun x hx => h.ne hj x (.inr hx)), h.sep⟩
theorem Mm.setV_A {j : Nat} {v : Value} {l : List GE} {b : Nat} (h : (Z.setV j v l).A k b) : Z.A k b ∨ MLm v l b ∨ MLi l b := by
  rcases h with (h | ⟨i, hi, h⟩) | ⟨i, hi, h⟩
  · exact .inl (.inl (.inl h))
  · have h : MLm (if i = j then v else Z.v i) (if i = j then l else Z.l i) b := h
    by_cases c : i = j
    · rw [if_pos c, if_pos c] at h; exact .inr (.inl h)
    · rw [if_neg c, if_neg c] at h; exact .inl (.inl (.inr ⟨i, hi, h⟩))
  · have h : MLi (if i = j then l else Z.l i) b := h
    by_cases c : i = j
    · rw [if_pos c] at h; exact .inr (.inr h)
    · rw [if_neg c] at h; exact .inl (.inr ⟨i, hi, h⟩)
end
/-- The tables of one of its databases. -/
def Mm.db (Z : Mm) (j : Nat) : Db := (Z.l j).map (·.t)
/-- What it shows, in the words of the state. -/
structure MmS (Z : Mm) (M : Mu) : Prop where
  com : Z.db 0 = M.com
  ok : ∀ j, j < 5 → DOk (Z.db j)
  act : ∀ s, s < 4 → M.act s = Z.act s
  lk : ∀ s i t, s < 4 → M.com[i]? = some t → M.lk s t.nm = Z.lk s i
  lk0 : ∀ s nm, s < 4 → findD M.com nm = none → M.lk s nm = 0
  nms : ∀ s, s < 4 → M.act s = true → nmsD (Z.db (1 + s)) = nmsD M.com
  idle : ∀ s i, s < 4 → i < 3 → M.act s = false → Z.lk s i = 0
  see : ∀ s, s < 4 → M.see s = mixD (M.lk s) (Z.db (1 + s)) M.com
/-- The model shows the state M; H bounds its blocks. -/
structure MX (w : World) (k : Nat) (M : Mu) (H : Nat → Prop) : Prop where
  ex : ∃ Z, MMt w k Z ∧ MmS Z M ∧ ∀ b, Z.A k b → H b
  lt : ∀ b, H b → b < w.heap.size
section
variable {w w' : World} {k : Nat} {M M' : Mu} {H : Nat → Prop}
theorem MX.keep {B : Nat → Prop} (h : MX w k M H) (ho : Only B w w') (hB : ∀ b, H b → ¬ B b) : MX w' k M H := by
  obtain ⟨Z, h1, h2, h3⟩ := h.ex
  exact ⟨⟨Z, h1.keep ho (fun b hb => hB b (h3 b hb)), h2, h3⟩, fun b hb => Nat.lt_of_lt_of_le (h.lt b hb) ho.size⟩
theorem MX.quiet (h : MX w k M H) (ho : Only (fun _ => False) w w') : MX w' k M H := h.keep ho (fun _ _ e => e)
theorem MX.kH (h : MX w k M H) : H k := by
  obtain ⟨Z, h1, h2, h3⟩ := h.ex
  exact h3 k (.inl (.inl rfl))
theorem MX.mono {H' : Nat → Prop} (h : MX w k M H) (hH : ∀ b, H b → H' b) (hl : ∀ b, H' b → b < w.heap.size) : MX w k M H' := by
  obtain ⟨Z, h1, h2, h3⟩ := h.ex
  exact ⟨⟨Z, h1, h2, fun b hb => hH b (h3 b hb)⟩, hl⟩
/-- It has turned: its blocks are old ones or new. -/
theorem MX.turn {Z' : Mm} {B : Nat → Prop} (h : MX w k M H) (h1 : MMt w' k Z') (h2 : MmS Z' M') (h3 : ∀ b, Z'.A k b → H b ∨ w.heap.size ≤ b) (ho : Only B w w') (hB : ∀ b, B b → H b) : MX w' k M' (Ext H w w') ∧ Only H w w' :=
  ⟨⟨⟨Z', h1, h2, fun b hb => (h3 b hb).imp id (fun c => ⟨c, h1.lt b hb⟩)⟩, Ext.in h.lt ho.size⟩, ho.mono (fun b _ c => hB b c)⟩
end
theorem MmS.com_at {Z : Mm} {M : Mu} (h : MmS Z M) {i : Nat} {e : GE} (hi : (Z.l 0)[i]? = some e) : M.com[i]? = some e.t := by
  rw [← h.com]
  unfold Mm.db
  rw [List.getElem?_map, hi]
  rfl
end Go.Proofs.Qxb6500412aGreat
