/-
  OWN WORK. THE B-TREE: the forest over the pager: pages that are there.
-/
import Derived.Test.Qxb6500412aGreatBNv
import Derived.Test.Qxb6500412aGreatBTr4
namespace Go.Proofs.Qxb6500412aGreat
open Go.RowKit Go.PlainAid
set_option linter.unusedSimpArgs false
set_option linter.unusedVariables false

/-- The pages that are there. -/
def NV (view : List ByteArray) (n : Nat) : Option ByteArray := if 1 ≤ n ∧ n < 72 ∧ usedV view n = true then some (view.getD n emptyB) else none
theorem NV_some {view : List ByteArray} {n : Nat} {b : ByteArray} (h : NV view n = some b) : 1 ≤ n ∧ n < 72 ∧ usedV view n = true ∧ view.getD n emptyB = b := by
  unfold NV at h
  by_cases c : 1 ≤ n ∧ n < 72 ∧ usedV view n = true
  · rw [if_pos c] at h
    exact ⟨c.1, c.2.1, c.2.2, Option.some.inj h⟩
  · rw [if_neg c] at h; cases h
theorem NV_in {view : List ByteArray} {n : Nat} (h1 : 1 ≤ n) (h2 : n < 72) (h3 : usedV view n = true) : NV view n = some (view.getD n emptyB) := by
  unfold NV; rw [if_pos ⟨h1, h2, h3⟩]
theorem NV_out {view : List ByteArray} {n : Nat} (h : ¬ (1 ≤ n ∧ n < 72)) : NV view n = none := by
  unfold NV; rw [if_neg (fun c => h ⟨c.1, c.2.1⟩)]
theorem NV_free {view : List ByteArray} {n : Nat} (h : usedV view n = false) : NV view n = none := by
  unfold NV; rw [if_neg (fun c => by rw [h] at c; cases c.2.2)]
theorem NV_none {view : List ByteArray} {n : Nat} (h : NV view n = none) (h1 : 1 ≤ n) (h2 : n < 72) : usedV view n = false := by
  cases hu : usedV view n with
  | false => rfl
  | true => rw [NV_in h1 h2 hu] at h; cases h
theorem NV_lt {view : List ByteArray} (n : Nat) (b : ByteArray) (h : NV view n = some b) : n < 72 := (NV_some h).2.1
/-- All that a forest's block stands on. -/
structure Gnd where
  f : Nat
  p : Nat
  l : Nat
  d : Nat
  blk : List ByteArray
  base : List ByteArray
  recs : List (Nat × ByteArray)
  com : List ByteArray
  F : Nat → Prop
  G : Nat → Prop
def Gnd.S (q : Gnd) (k : Nat) : Prop := q.G k ∨ k = q.p
structure FA (q : Gnd) (w : World) (op : Bool) (view : List ByteArray) : Prop where
  pg : PG w q.p q.l q.d q.blk q.base q.recs op q.com view q.F q.G
  has : Has w q.f #[.pointer (some ⟨q.p, 0, none⟩)] 145
  fG : ¬ q.G q.f
  fF : ¬ q.F q.f
  fp : q.f ≠ q.p
section
variable {q : Gnd} {w w' : World} {op : Bool} {view view' : List ByteArray}
theorem FA.ptr (h : FA q w op view) : w.cell? ⟨q.f, 0, none⟩ = some (.pointer (some ⟨q.p, 0, none⟩)) := by rw [h.has.cell]; rfl
theorem FA.fS (h : FA q w op view) : ¬ q.S q.f := fun c => by
  rcases c with c | c
  · exact h.fG c
  · exact h.fp c
theorem FA.turn (h : FA q w op view) (hp : PG w' q.p q.l q.d q.blk q.base q.recs op q.com view' q.F q.G) (ho : Only q.S w w') : FA q w' op view' := ⟨hp, h.has.keep ho h.fS, h.fG, h.fF, h.fp⟩
theorem FA.quiet (h : FA q w op view) (ho : Only (fun _ => False) w w') : FA q w' op view := ⟨h.pg.quiet ho, h.has.keep ho (fun h => h), h.fG, h.fF, h.fp⟩
theorem FA.keep {S : Nat → Prop} (h : FA q w op view) (ho : Only S w w') (hF : ∀ k, q.F k → ¬ S k) (hG : ∀ k, q.G k → ¬ S k) (hp : ¬ S q.p) (hf : ¬ S q.f) : FA q w' op view := ⟨h.pg.keep ho hF hG hp, h.has.keep ho hf, h.fG, h.fF, h.fp⟩
theorem qget (h : FA q w op view) {n : Nat} {b : ByteArray} (hn : NV view n = some b) :
    Calls Tryz.prog 211 #[.pointer (some ⟨q.p, 0, none⟩), .int .i64 n] w fun e w' => e = .returned (.tuple #[.string b, .int .i64 0]) ∧ FA q w' op view ∧ Only q.S w w' := by
  obtain ⟨h1, h2, h3, h4⟩ := NV_some hn
  have := pget_used h.pg n h1 h2 h3
  rw [h4] at this
  exact this.mono fun e w' ⟨e1, e2, e3⟩ => ⟨e1, h.turn e2.pg e3, e3⟩
theorem qput (h : FA q w true view) {n : Nat} {b0 b : ByteArray} (hn : NV view n = some b0) (hb : b.size = 128) :
    Calls Tryz.prog 213 #[.pointer (some ⟨q.p, 0, none⟩), .int .i64 n, .string b] w fun e w' => e = .returned (.int .i64 0) ∧ (∃ view', FA q w' true view' ∧ NV view' = setN (NV view) n (some b)) ∧ Only q.S w w' := by
  obtain ⟨h1, h2, h3, h4⟩ := NV_some hn
  have hv := h.pg.lv
  refine (pput_used h.pg n b (by rw [hb]; decide) h1 h2 h3).mono ?_
  rintro e w' ⟨e1, e2, e3⟩
  refine ⟨e1, ⟨_, h.turn e2.pg e3, ?_⟩, e3⟩
  rw [blockOf_id b hb]
  have hu : ∀ k, usedV (view.set n b) k = usedV view k := fun k => by
    unfold usedV
    congr 1
    rw [List.getD_eq_getElem?_getD, List.getElem?_set, if_neg (by omega), ← List.getD_eq_getElem?_getD]
  funext k
  unfold setN
  by_cases ek : k = n
  · subst ek
    rw [if_pos rfl, NV_in h1 h2 (by rw [hu]; exact h3)]
    rw [List.getD_eq_getElem?_getD, List.getElem?_set, if_pos rfl, if_pos (by omega)]
    rfl
  · rw [if_neg ek]
    have hg : (view.set n b).getD k emptyB = view.getD k emptyB := by rw [List.getD_eq_getElem?_getD, List.getElem?_set, if_neg (fun e => ek e.symm), ← List.getD_eq_getElem?_getD]
    unfold NV
    rw [hu, hg]
/-- A list that holds every page that is there. -/
def Cov (N : Nat → Option ByteArray) (us : List Nat) : Prop := ∀ n b, N n = some b → n ∈ us
theorem pigeon : ∀ (m : Nat) (us : List Nat), (∀ n, n < m → n ∈ us) → m ≤ us.length
  | 0, _, _ => Nat.zero_le _
  | m + 1, us, h => by
    have h1 := h m (by omega)
    have := pigeon m (us.erase m) (fun n hn => (List.mem_erase_of_ne (by omega)).mpr (h n (by omega)))
    rw [List.length_erase_of_mem h1] at this
    have : 0 < us.length := List.length_pos_of_mem h1
    omega
theorem low_some {view : List ByteArray} {us : List Nat} (hc : Cov (NV view) us) (hl : us.length < 71) : lowOf (usedV view) ≠ 0 := by
  intro h0
  have hall : ∀ n, 1 ≤ n → n < 72 → usedV view n = true := by
    intro n h1 h2
    cases hu : usedV view n with
    | true => rfl
    | false =>
      exfalso
      unfold lowOf at h0
      cases hf : (List.range 72).find? (fun n => n != 0 && !usedV view n) with
      | none =>
        have := List.find?_eq_none.mp hf n (by simpa using h2)
        rw [hu] at this
        simp at this
        omega
      | some m =>
        have := List.find?_some hf
        rw [hf] at h0
        simp at h0 this
        exact this.1 h0
  have := pigeon 72 (0 :: us) (fun n hn => by
    by_cases e : n = 0
    · simp [e]
    · exact List.mem_cons_of_mem _ (hc n _ (NV_in (by omega) hn (hall n (by omega) hn))))
  simp at this
  omega
theorem qalloc (h : FA q w true view) {us : List Nat} (hc : Cov (NV view) us) (hl : us.length < 71) :
    Calls Tryz.prog 89 #[.pointer (some ⟨q.p, 0, none⟩)] w fun e w' => ∃ n : Nat, e = .returned (.tuple #[.int .i64 n, .int .i64 0]) ∧ (∃ view', FA q w' true view' ∧ NV view' = setN (NV view) n (some zeroB)) ∧ (1 ≤ n ∧ n < 72 ∧ NV view n = none) ∧ Only q.S w w' := by
  have hlow := low_some hc hl
  have hlt := lowOf_lt (usedV view)
  have hfree := lowOf_free hlow
  have hv := h.pg.lv
  have hs := h.pg.sz 0 (by omega)
  generalize hn : lowOf (usedV view) = n at *
  refine (palloc_some h.pg n hn hlow).mono ?_
  rintro e w' ⟨e1, e2, e3⟩
  refine ⟨n, e1, ⟨_, h.turn e2.pg e3, ?_⟩, ⟨by omega, hlt, NV_free hfree⟩, e3⟩
  have g0 : ((view.set 0 (setB (view.getD 0 emptyB) n)).set n zeroB).getD 0 emptyB = setB (view.getD 0 emptyB) n := by
    rw [List.getD_eq_getElem?_getD, List.getElem?_set, if_neg (by omega), List.getElem?_set, if_pos rfl, if_pos (by omega)]
    rfl
  have hu : ∀ k, k < 72 → usedV ((view.set 0 (setB (view.getD 0 emptyB) n)).set n zeroB) k = if k = n then true else usedV view k := fun k hk => by
    unfold usedV
    rw [g0, bitOf_setB _ _ _ hs hlt hk]
  funext k
  unfold setN
  by_cases ek : k = n
  · subst ek
    rw [if_pos rfl, NV_in (by omega) hlt (by rw [hu k hlt, if_pos rfl])]
    rw [List.getD_eq_getElem?_getD, List.getElem?_set, if_pos rfl, if_pos (by simp; omega)]
    rfl
  · rw [if_neg ek]
    by_cases hk : 1 ≤ k ∧ k < 72
    · have hg : ((view.set 0 (setB (view.getD 0 emptyB) n)).set n zeroB).getD k emptyB = view.getD k emptyB := by rw [List.getD_eq_getElem?_getD, List.getElem?_set, if_neg (fun e => ek e.symm), List.getElem?_set, if_neg (by omega), ← List.getD_eq_getElem?_getD]
      unfold NV
      rw [hu k hk.2, if_neg ek, hg]
    · rw [NV_out hk, NV_out hk]
theorem qfree (h : FA q w true view) {n : Nat} {b : ByteArray} (hn : NV view n = some b) :
    Calls Tryz.prog 308 #[.pointer (some ⟨q.p, 0, none⟩), .int .i64 n] w fun e w' => e = .returned (.int .i64 0) ∧ (∃ view', FA q w' true view' ∧ NV view' = setN (NV view) n none) ∧ Only q.S w w' := by
  obtain ⟨h1, h2, h3, h4⟩ := NV_some hn
  have hs := h.pg.sz 0 (by omega)
  refine (pfree_used h.pg n h1 h2 h3).mono ?_
  rintro e w' ⟨e1, ⟨view', e2, e4, e5⟩, e3⟩
  refine ⟨e1, ⟨view', h.turn e2 e3, ?_⟩, e3⟩
  have hu : ∀ k, k < 72 → usedV view' k = if k = n then false else usedV view k := fun k hk => by
    unfold usedV
    rw [e4, bitOf_clrB _ _ _ hs h2 hk]
  funext k
  unfold setN
  by_cases ek : k = n
  · subst ek
    rw [if_pos rfl]
    exact NV_free (by rw [hu k h2, if_pos rfl])
  · rw [if_neg ek]
    by_cases hk : 1 ≤ k ∧ k < 72
    · unfold NV
      rw [hu k hk.2, if_neg ek, e5 k (by omega) ek]
    · rw [NV_out hk, NV_out hk]
end
theorem page_size (nd : Nd) : (page nd).size = 128 := strF_size _
end Go.Proofs.Qxb6500412aGreat
