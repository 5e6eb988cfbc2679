/-
  OWN WORK. THE THREE-WAY MERGE, in plain terms.
-/
import Derived.Test.Qxb6500416aDHkP
namespace Go.Proofs.Qxb6500416a
set_option linter.unusedSimpArgs false
set_option linter.unusedVariables false

def markO : Str := [60, 60, 60, 60, 60, 60, 60, 10]
def markM : Str := [61, 61, 61, 61, 61, 61, 61, 10]
def markT : Str := [62, 62, 62, 62, 62, 62, 62, 10]
def closeS (s : Str) : Str := if s ≠ [] ∧ s.getLast? ≠ some 10 then s ++ [10] else s
def pieceT (b o t : List Str) : Str := if o = b then t.flatten else if t = b then o.flatten else if o = t then o.flatten else
  markO ++ closeS o.flatten ++ markM ++ closeS t.flatten ++ markT
def pieceN (b o t : List Str) : Nat := if o = b then 0 else if t = b then 0 else if o = t then 0 else 1
/-- What is still to come of a merge: the text and the count. -/
def mgT (b o t : List Str) : List Int → List Int → Nat → Nat → Nat → Nat → Str
  | x :: mo, y :: mt, i, bi, oi, ti => if 0 ≤ x ∧ 0 ≤ y then pieceT (cutL b bi i) (cutL o oi x.toNat) (cutL t ti y.toNat) ++ (b.getD i [] ++ mgT b o t mo mt (i + 1) (i + 1) (x.toNat + 1) (y.toNat + 1)) else mgT b o t mo mt (i + 1) bi oi ti
  | _, _, i, bi, oi, ti => pieceT (cutL b bi b.length) (cutL o oi o.length) (cutL t ti t.length)
def mgN (b o t : List Str) : List Int → List Int → Nat → Nat → Nat → Nat → Nat
  | x :: mo, y :: mt, i, bi, oi, ti => if 0 ≤ x ∧ 0 ≤ y then pieceN (cutL b bi i) (cutL o oi x.toNat) (cutL t ti y.toNat) + mgN b o t mo mt (i + 1) (i + 1) (x.toNat + 1) (y.toNat + 1) else mgN b o t mo mt (i + 1) bi oi ti
  | _, _, i, bi, oi, ti => pieceN (cutL b bi b.length) (cutL o oi o.length) (cutL t ti t.length)
theorem closeS_len (s : Str) : (closeS s).length ≤ s.length + 1 := by unfold closeS; split <;> simp
theorem pieceT_len (b o t : List Str) : (pieceT b o t).length ≤ o.flatten.length + t.flatten.length + 26 := by
  unfold pieceT
  have h1 := closeS_len o.flatten
  have h2 := closeS_len t.flatten
  split
  · omega
  · split
    · omega
    · split
      · omega
      · simp only [List.length_append]
        have e1 : markO.length = 8 := rfl
        have e2 : markM.length = 8 := rfl
        have e3 : markT.length = 8 := rfl
        omega
theorem pieceN_le (b o t : List Str) : pieceN b o t ≤ 1 := by
  unfold pieceN
  split
  · omega
  · split
    · omega
    · split <;> omega
theorem flat_take (l : List Str) (a b : Nat) (h : a ≤ b) : (l.take b).flatten.length = (l.take a).flatten.length + (cutL l a b).flatten.length := by
  rw [← List.length_append, ← List.flatten_append]
  congr 2
  unfold cutL
  have e : b = a + (b - a) := by omega
  rw [e, List.take_add]
  congr 1
  congr 1
  omega
theorem flat_take_le (l : List Str) (a : Nat) : (l.take a).flatten.length ≤ l.flatten.length := by
  have := congrArg (fun t : List Str => t.flatten.length) (List.take_append_drop a l)
  simp only [List.flatten_append, List.length_append] at this
  omega
/-- How far a merge has come. -/
structure MgAt (b o t : List Str) (mo mt : List Int) (out : Str) (n i bi oi ti : Nat) : Prop where
  lo : mo.length = b.length
  lt : mt.length = b.length
  il : i ≤ b.length
  bl : bi ≤ i
  ro : Rise (mo.drop i) oi o.length
  rt : Rise (mt.drop i) ti t.length
  et : mgT b o t mo mt 0 0 0 0 = out ++ mgT b o t (mo.drop i) (mt.drop i) i bi oi ti
  en : mgN b o t mo mt 0 0 0 0 = n + mgN b o t (mo.drop i) (mt.drop i) i bi oi ti
  nl : n ≤ i
  ol : out.length ≤ 30 * i + (b.take bi).flatten.length + (o.take oi).flatten.length + (t.take ti).flatten.length
section
variable {b o t : List Str} {mo mt : List Int} {out : Str} {n i bi oi ti : Nat}
theorem MgAt.start (lo : mo.length = b.length) (lt : mt.length = b.length) (ro : Rise mo 0 o.length) (rt : Rise mt 0 t.length) : MgAt b o t mo mt [] 0 0 0 0 0 :=
  ⟨lo, lt, by omega, by omega, ro, rt, rfl, by simp, by omega, by simp⟩
theorem MgAt.bound (h : MgAt b o t mo mt out n i bi oi ti) : out.length ≤ 30 * b.length + b.flatten.length + o.flatten.length + t.flatten.length := by
  have := h.ol
  have := h.il
  have := flat_take_le b bi
  have := flat_take_le o oi
  have := flat_take_le t ti
  omega
theorem flat_snoc (l : List Str) (i : Nat) (h : i < l.length) : (l.take (i + 1)).flatten.length = (l.take i).flatten.length + l[i].length := by
  rw [List.take_succ_eq_append_getElem h, List.flatten_append, List.length_append]
  simp
/-- What stands at place i. -/
theorem MgAt.cases (h : MgAt b o t mo mt out n i bi oi ti) (hi : i < b.length) : ∃ (h1 : i < mo.length) (h2 : i < mt.length), (¬ (0 ≤ mo[i] ∧ 0 ≤ mt[i]) ∧ (mo[i] = -1 ∨ ∃ k : Nat, mo[i] = (k : Int) ∧ k < o.length) ∧ (mt[i] = -1 ∨ ∃ k : Nat, mt[i] = (k : Int) ∧ k < t.length) ∧ MgAt b o t mo mt out n (i + 1) bi oi ti) ∨
    (∃ x y : Nat, mo[i] = (x : Int) ∧ mt[i] = (y : Int) ∧ oi ≤ x ∧ x < o.length ∧ ti ≤ y ∧ y < t.length ∧
      MgAt b o t mo mt (out ++ (pieceT (cutL b bi i) (cutL o oi x) (cutL t ti y) ++ b[i])) (n + pieceN (cutL b bi i) (cutL o oi x) (cutL t ti y)) (i + 1) (i + 1) (x + 1) (y + 1)) := by
  obtain ⟨lo, lt, il, bl, ro, rt, et, en, nl, ol⟩ := h
  have h1 : i < mo.length := by omega
  have h2 : i < mt.length := by omega
  refine ⟨h1, h2, ?_⟩
  rw [List.drop_eq_getElem_cons h1, List.drop_eq_getElem_cons h2] at et en
  have no : ∀ (p q : Nat), ¬ (0 ≤ mo[i] ∧ 0 ≤ mt[i]) → Rise (mo.drop (i + 1)) p o.length → oi ≤ p → Rise (mt.drop (i + 1)) q t.length → ti ≤ q → MgAt b o t mo mt out n (i + 1) bi oi ti := by
    intro p q hn hp hpl hq hql
    refine ⟨lo, lt, by omega, by omega, hp.mono hpl, hq.mono hql, ?_, ?_, by omega, by omega⟩
    · rw [et]
      show out ++ (if 0 ≤ mo[i] ∧ 0 ≤ mt[i] then _ else mgT b o t (mo.drop (i + 1)) (mt.drop (i + 1)) (i + 1) bi oi ti) = _
      rw [if_neg hn]
    · rw [en]
      show n + (if 0 ≤ mo[i] ∧ 0 ≤ mt[i] then _ else mgN b o t (mo.drop (i + 1)) (mt.drop (i + 1)) (i + 1) bi oi ti) = _
      rw [if_neg hn]
  rcases ro.at h1 with ⟨e, hr⟩ | ⟨x, e, a1, a2, hr⟩
  · rcases rt.at h2 with ⟨e', hr'⟩ | ⟨y, e', b1, b2, hr'⟩
    · exact .inl ⟨by omega, .inl e, .inl e', no oi ti (by omega) hr (by omega) hr' (by omega)⟩
    · exact .inl ⟨by omega, .inl e, .inr ⟨y, e', b2⟩, no oi (y + 1) (by omega) hr (by omega) hr' (by omega)⟩
  · rcases rt.at h2 with ⟨e', hr'⟩ | ⟨y, e', b1, b2, hr'⟩
    · exact .inl ⟨by omega, .inr ⟨x, e, a2⟩, .inl e', no (x + 1) ti (by omega) hr (by omega) hr' (by omega)⟩
    · refine .inr ⟨x, y, e, e', a1, a2, b1, b2, lo, lt, by omega, by omega, hr, hr', ?_, ?_, ?_, ?_⟩
      · rw [et]
        show out ++ (if 0 ≤ mo[i] ∧ 0 ≤ mt[i] then pieceT (cutL b bi i) (cutL o oi mo[i].toNat) (cutL t ti mt[i].toNat) ++ (b.getD i [] ++ mgT b o t (mo.drop (i + 1)) (mt.drop (i + 1)) (i + 1) (i + 1) (mo[i].toNat + 1) (mt[i].toNat + 1)) else _) = _
        rw [if_pos (by omega), e, e', Int.toNat_natCast, Int.toNat_natCast, List.getD_eq_getElem?_getD, List.getElem?_eq_getElem hi]
        simp
      · rw [en]
        show n + (if 0 ≤ mo[i] ∧ 0 ≤ mt[i] then pieceN (cutL b bi i) (cutL o oi mo[i].toNat) (cutL t ti mt[i].toNat) + mgN b o t (mo.drop (i + 1)) (mt.drop (i + 1)) (i + 1) (i + 1) (mo[i].toNat + 1) (mt[i].toNat + 1) else _) = _
        rw [if_pos (by omega), e, e', Int.toNat_natCast, Int.toNat_natCast]
        omega
      · have := pieceN_le (cutL b bi i) (cutL o oi x) (cutL t ti y)
        omega
      · rw [List.length_append, List.length_append]
        have q1 := pieceT_len (cutL b bi i) (cutL o oi x) (cutL t ti y)
        have q2 := flat_snoc b i hi
        have q3 := flat_take b bi i bl
        have q4 := flat_snoc o x a2
        have q5 := flat_take o oi x a1
        have q6 := flat_snoc t y b2
        have q7 := flat_take t ti y b1
        omega
theorem MgAt.fin (h : MgAt b o t mo mt out n i bi oi ti) (hi : i = b.length) : mgT b o t mo mt 0 0 0 0 = out ++ pieceT (cutL b bi b.length) (cutL o oi o.length) (cutL t ti t.length) ∧
    mgN b o t mo mt 0 0 0 0 = n + pieceN (cutL b bi b.length) (cutL o oi o.length) (cutL t ti t.length) ∧ bi ≤ b.length ∧ oi ≤ o.length ∧ ti ≤ t.length := by
  obtain ⟨lo, lt, il, bl, ro, rt, et, en, nl, ol⟩ := h
  have hb : bi ≤ b.length := by omega
  have d1 : mo.drop i = [] := List.drop_eq_nil_of_le (by omega)
  have d2 : mt.drop i = [] := List.drop_eq_nil_of_le (by omega)
  refine ⟨?_, ?_, hb, ro.le, rt.le⟩
  · rw [et, d1, d2]; rfl
  · rw [en, d1, d2]; rfl
end
/-- A run of lines that are not empty ends as its last line does. -/
theorem flat_last (l : List Str) (h : ∀ x ∈ l, x ≠ []) (hl : 0 < l.length) : l.flatten ≠ [] ∧ l.flatten.getLast? = (l[l.length - 1]'(by omega)).getLast? := by
  have hne : l ≠ [] := by intro e; simp [e] at hl
  have hd := List.dropLast_concat_getLast hne
  have e1 : l[l.length - 1]'(by omega) = l.getLast hne := (List.getLast_eq_getElem hne).symm
  have e2 : l.flatten = l.dropLast.flatten ++ l.getLast hne := by
    rw (occs := [1]) [← hd]
    rw [List.flatten_append]
    simp
  have hn : l.getLast hne ≠ [] := h _ (List.getLast_mem hne)
  refine ⟨?_, ?_⟩
  · rw [e2]; intro e; exact hn (List.append_eq_nil_iff.1 e).2
  · rw [e2, e1, List.getLast?_append, List.getLast?_eq_some_getLast hn]
    rfl
theorem splitS_ne : ∀ (s : Str), ∀ x ∈ splitS s, x ≠ []
  | [], x, hx => by simp [splitS] at hx
  | c :: r, x, hx => by
    have ih := splitS_ne r
    simp only [splitS] at hx
    split at hx
    · simp at hx
      rcases hx with rfl | hx
      · simp
      · exact ih x hx
    · split at hx
      · simp at hx; subst hx; simp
      · rename_i l t e
        simp at hx
        rcases hx with rfl | hx
        · simp
        · exact ih x (by rw [e]; simp [hx])
theorem splitS_flat : ∀ (s : Str), (splitS s).flatten = s
  | [] => rfl
  | c :: r => by
    have ih := splitS_flat r
    simp only [splitS]
    split
    · rw [List.flatten_cons, ih]; rfl
    · split
      · rename_i e; rw [e] at ih; simp at ih; simp [← ih]
      · rename_i l t e; rw [e] at ih; simp at ih ⊢; exact ih
theorem splitS_len (s : Str) : (splitS s).length ≤ s.length := by
  have h1 := splitS_flat s
  have h2 := splitS_ne s
  have key : ∀ l : List Str, (∀ x ∈ l, x ≠ []) → l.length ≤ l.flatten.length := by
    intro l
    induction l with
    | nil => intro _; simp
    | cons a r ih =>
      intro h
      have := ih (fun x hx => h x (by simp [hx]))
      have ha : 0 < a.length := List.length_pos_iff.2 (h a (by simp))
      simp
      simp at this
      omega
  have := key _ h2
  rw [h1] at this
  exact this
end Go.Proofs.Qxb6500416a
