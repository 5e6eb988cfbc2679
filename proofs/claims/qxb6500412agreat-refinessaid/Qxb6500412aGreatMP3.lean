/-
  OWN WORK. THE TABLE LAW's MODEL, plain: the stable insertion sort; what it makes of a scan's rows.
-/
import Derived.Test.Qxb6500412aGreatJSP
namespace Go.Proofs.Qxb6500412aGreat
open Go.RowKit Go.PlainAid
set_option linter.unusedSimpArgs false
set_option linter.unusedVariables false

section
variable {α β : Type}
/-- Where an element stops that comes from the end: behind the first that stops it. -/
def posP (st : α → α → Bool) (A : List α) (x : α) : Nat → Nat
  | 0 => 0
  | n + 1 => match A[n]? with
    | some a => if st a x then n + 1 else posP st A x n
    | none => posP st A x n
def insP (st : α → α → Bool) (A : List α) (x : α) : List α := A.take (posP st A x A.length) ++ x :: A.drop (posP st A x A.length)
def sortP (st : α → α → Bool) (l : List α) : List α := l.foldl (insP st) []
theorem posP_le (st : α → α → Bool) (A : List α) (x : α) : ∀ n, posP st A x n ≤ n
  | 0 => Nat.le_refl _
  | n + 1 => by
    unfold posP
    have := posP_le st A x n
    split
    · split <;> omega
    · omega
theorem posP_stop {st : α → α → Bool} {A : List α} {x a : α} {n : Nat} (h : A[n]? = some a) (hs : st a x = true) : posP st A x (n + 1) = n + 1 := by
  unfold posP
  rw [h]
  simp [hs]
theorem posP_go {st : α → α → Bool} {A : List α} {x a : α} {n : Nat} (h : A[n]? = some a) (hs : st a x = false) : posP st A x (n + 1) = posP st A x n := by
  conv => lhs; unfold posP
  rw [h]
  simp [hs]
theorem posP_far {st : α → α → Bool} {A : List α} {x : α} : ∀ (n : Nat), ∀ q a, posP st A x n ≤ q → q < n → A[q]? = some a → st a x = false
  | 0, q, a, _, h, _ => by omega
  | n + 1, q, a, h1, h2, h3 => by
    by_cases c : q = n
    · subst c
      cases hs : st a x with
      | false => rfl
      | true =>
        rw [posP_stop h3 hs] at h1
        omega
    · refine posP_far n q a ?_ (by omega) h3
      cases hb : A[n]? with
      | none =>
        unfold posP at h1
        rw [hb] at h1
        exact h1
      | some b =>
        cases hs : st b x with
        | false => rw [posP_go hb hs] at h1; exact h1
        | true => rw [posP_stop hb hs] at h1; omega
theorem posP_at {st : α → α → Bool} {A : List α} {x : α} : ∀ (n : Nat), n ≤ A.length → posP st A x n = 0 ∨ ∃ a, A[posP st A x n - 1]? = some a ∧ st a x = true
  | 0, _ => .inl rfl
  | n + 1, h => by
    obtain ⟨b, hb⟩ : ∃ b, A[n]? = some b := ⟨A[n], List.getElem?_eq_getElem (by omega)⟩
    cases hs : st b x with
    | false =>
      rw [posP_go hb hs]
      exact posP_at n (by omega)
    | true =>
      rw [posP_stop hb hs]
      exact .inr ⟨b, by simpa using hb, hs⟩
theorem insP_perm (st : α → α → Bool) (A : List α) (x : α) : (insP st A x).Perm (A ++ [x]) := by
  unfold insP
  refine List.perm_middle.trans ?_
  rw [List.take_append_drop]
  exact (List.perm_append_singleton x A).symm
theorem sortP_succ {st : α → α → Bool} {l : List α} {i : Nat} {x : α} (h : l[i]? = some x) : sortP st (l.take (i + 1)) = insP st (sortP st (l.take i)) x := by
  unfold sortP
  rw [List.take_add_one, h, List.foldl_append]
  rfl
theorem sortP_snoc (st : α → α → Bool) (l : List α) (x : α) : sortP st (l ++ [x]) = insP st (sortP st l) x := by
  unfold sortP
  rw [List.foldl_append]
  rfl
theorem foldl_perm (st : α → α → Bool) : ∀ (l A : List α), (l.foldl (insP st) A).Perm (A ++ l)
  | [], A => by simp
  | x :: l, A => by
    refine (foldl_perm st l (insP st A x)).trans ?_
    refine ((insP_perm st A x).append_right l).trans ?_
    rw [List.append_assoc]
    exact List.Perm.refl _
theorem sortP_perm (st : α → α → Bool) (l : List α) : (sortP st l).Perm l := by
  have := foldl_perm st l []
  rw [List.nil_append] at this
  exact this
theorem sortP_len (st : α → α → Bool) (l : List α) : (sortP st l).length = l.length := (sortP_perm st l).length_eq
theorem posP_map {st : β → β → Bool} (f : α → β) (A : List α) (x : α) : ∀ n, posP st (A.map f) (f x) n = posP (fun a b => st (f a) (f b)) A x n
  | 0 => rfl
  | n + 1 => by
    unfold posP
    rw [List.getElem?_map, posP_map f A x n]
    cases A[n]? <;> rfl
theorem insP_map {st : β → β → Bool} (f : α → β) (A : List α) (x : α) : (insP (fun a b => st (f a) (f b)) A x).map f = insP st (A.map f) (f x) := by
  unfold insP
  rw [List.length_map, posP_map, List.map_append, List.map_take, List.map_cons, List.map_drop]
theorem foldl_map' {st : β → β → Bool} (f : α → β) : ∀ (l A : List α), (l.foldl (insP (fun a b => st (f a) (f b))) A).map f = (l.map f).foldl (insP st) (A.map f)
  | [], A => rfl
  | x :: l, A => by
    show (l.foldl _ (insP _ A x)).map f = _
    rw [foldl_map' f l, insP_map]
    rfl
theorem sortP_map {st : β → β → Bool} (f : α → β) (l : List α) : (sortP (fun a b => st (f a) (f b)) l).map f = sortP st (l.map f) := foldl_map' f l []
/-- A sorted list is settled by its members. -/
theorem srt_perm_eq {g : α → ByteArray} : ∀ {l l' : List α}, l.Perm l' → l.Pairwise (fun a b => lt (g a) (g b) = true) → l'.Pairwise (fun a b => lt (g a) (g b) = true) → l = l'
  | [], l', hp, _, _ => by
    have := hp.length_eq
    exact (List.eq_nil_of_length_eq_zero (by simpa using this.symm)).symm
  | a :: l, [], hp, _, _ => by
    have := hp.length_eq
    simp at this
  | a :: l, b :: l', hp, h1, h2 => by
    obtain ⟨a1, a2⟩ := List.pairwise_cons.mp h1
    obtain ⟨b1, b2⟩ := List.pairwise_cons.mp h2
    have e : a = b := by
      have ha : a ∈ b :: l' := hp.mem_iff.mp List.mem_cons_self
      have hb : b ∈ a :: l := hp.mem_iff.mpr List.mem_cons_self
      rcases List.mem_cons.mp ha with e | ha
      · exact e
      · rcases List.mem_cons.mp hb with e | hb
        · exact e.symm
        · have x1 := a1 b hb
          have x2 := b1 a ha
          rw [lt_asymm x1] at x2
          cases x2
    subst e
    rw [srt_perm_eq ((List.perm_cons a).mp hp) a2 b2]
end
section
variable {t : Tb} {c : Nat} {lo hi : Bnd}
def cmpR (c : Nat) (a b : List Vl) : Bool := decide (vcmp (kyR c a) (kyR c b) ≤ 0)
theorem cmpR_code (ok : TbOk t) (hc : c < t.cols.length) {a x : List Vl} (ha : a ∈ t.rows) (hx : x ∈ t.rows) : cmpR c a x = !lt (cV (kyR c x)) (cV (kyR c a)) := by
  obtain ⟨cl, hcl⟩ := getE (l := t.cols) (i := c) hc
  obtain ⟨a1, a2, _⟩ := row_col ok ha hcl
  obtain ⟨x1, x2, _⟩ := row_col ok hx hcl
  rw [cV_lt x1 a1 (by rw [x2, a2]), ← vcmp_flip]
  unfold cmpR
  by_cases h : vcmp (kyR c a) (kyR c x) ≤ 0
  · rw [decide_eq_true h, decide_eq_false (by omega)]; rfl
  · rw [decide_eq_false h, decide_eq_true (by omega)]; rfl
theorem ins_srt (ok : TbOk t) (hc : c < t.cols.length) {A : List (List Vl)} {x : List Vl} (hA : ∀ a ∈ A, a ∈ t.rows ∧ lt (pkK t.pk a) (pkK t.pk x) = true) (hx : x ∈ t.rows) (h : A.Pairwise (fun a b => lt (idxK a c t.pk) (idxK b c t.pk) = true)) : (insP (cmpR c) A x).Pairwise (fun a b => lt (idxK a c t.pk) (idxK b c t.pk) = true) := by
  obtain ⟨p, hp⟩ : ∃ p, posP (cmpR c) A x A.length = p := ⟨_, rfl⟩
  have hpl : p ≤ A.length := by rw [← hp]; exact posP_le _ _ _ _
  unfold insP
  rw [hp, List.pairwise_append]
  have hdr : ∀ a ∈ A.drop p, lt (idxK x c t.pk) (idxK a c t.pk) = true := fun a ha => by
    obtain ⟨q, hq⟩ := List.getElem?_of_mem ha
    rw [List.getElem?_drop] at hq
    have hm := List.mem_of_getElem? hq
    have := posP_far (st := cmpR c) (x := x) A.length (p + q) a (by omega) (List.getElem?_eq_some_iff.mp hq).1 hq
    rw [cmpR_code ok hc (hA a hm).1 hx] at this
    rw [idxK_lt]
    simp at this
    simp [this]
  have htk : ∀ a ∈ A.take p, lt (idxK a c t.pk) (idxK x c t.pk) = true := fun a ha => by
    obtain ⟨q, hq⟩ := List.getElem?_of_mem ha
    rw [List.getElem?_take] at hq
    by_cases hqp : q < p
    rotate_left
    · rw [if_neg hqp] at hq; cases hq
    rw [if_pos hqp] at hq
    have hm := List.mem_of_getElem? hq
    rcases posP_at (st := cmpR c) (A := A) (x := x) A.length (Nat.le_refl _) with e | ⟨b, hb, hs⟩
    · rw [hp] at e; omega
    rw [hp] at hb
    have hbm := List.mem_of_getElem? hb
    rw [cmpR_code ok hc (hA b hbm).1 hx] at hs
    have hab : lt (cV (kyR c b)) (cV (kyR c a)) = false := by
      by_cases e : q = p - 1
      · subst e
        rw [hq] at hb
        cases hb
        exact lt_irr _
      · obtain ⟨l1, e1⟩ := List.getElem?_eq_some_iff.mp hq
        obtain ⟨l2, e2⟩ := List.getElem?_eq_some_iff.mp hb
        have := List.pairwise_iff_getElem.mp h q (p - 1) l1 l2 (by omega)
        rw [e1, e2, idxK_lt, Bool.or_eq_true, Bool.and_eq_true] at this
        rcases this with h1 | ⟨h1, _⟩
        · exact lt_asymm h1
        · rw [show cV (kyR c b) = cV (kyR c a) from (by have := of_decide_eq_true h1; exact this.symm)]
          exact lt_irr _
    have hbx : lt (cV (kyR c x)) (cV (kyR c b)) = false := by simpa using hs
    rw [idxK_lt]
    rcases lt_total (cV (kyR c a)) (cV (kyR c x)) with h1 | h1 | h1
    · simp [h1]
    · have h2 := (hA a hm).2
      unfold pkK at h2
      simp [h1, h2]
    · exfalso
      have := lt_ge h1 hab
      -- x < a and not b < a ... x < b
      rw [this] at hbx
      cases hbx
  refine ⟨h.sublist (List.take_sublist _ _), List.pairwise_cons.mpr ⟨hdr, h.sublist (List.drop_sublist _ _)⟩, fun a ha b hb => ?_⟩
  rcases List.mem_cons.mp hb with rfl | hb
  · exact htk a ha
  · have h2 := hdr b hb
    exact lt_trans (htk a ha) h2
theorem sort_srt (ok : TbOk t) (hc : c < t.cols.length) {F : List (List Vl)} (hF : F.Sublist t.rows) : ∀ i, (sortP (cmpR c) (F.take i)).Pairwise (fun a b => lt (idxK a c t.pk) (idxK b c t.pk) = true)
  | 0 => by simp [sortP]
  | i + 1 => by
    cases hx : F[i]? with
    | none =>
      have hl : F.length ≤ i := List.getElem?_eq_none_iff.mp hx
      rw [List.take_of_length_le (by omega)]
      have := sort_srt ok hc hF i
      rw [List.take_of_length_le hl] at this
      exact this
    | some x =>
      rw [sortP_succ hx]
      refine ins_srt ok hc (fun a ha => ?_) (hF.subset (List.mem_of_getElem? hx)) (sort_srt ok hc hF i)
      have ha := (sortP_perm _ _).mem_iff.mp ha
      refine ⟨hF.subset (List.mem_of_mem_take ha), ?_⟩
      obtain ⟨q, hq⟩ := List.getElem?_of_mem ha
      rw [List.getElem?_take] at hq
      by_cases hqi : q < i
      rotate_left
      · rw [if_neg hqi] at hq; cases hq
      rw [if_pos hqi] at hq
      obtain ⟨l1, e1⟩ := List.getElem?_eq_some_iff.mp hq
      obtain ⟨l2, e2⟩ := List.getElem?_eq_some_iff.mp hx
      have := List.pairwise_iff_getElem.mp (ok.srt.sublist hF) q i l1 l2 hqi
      rw [e1, e2] at this
      exact this
/-- The rows within, sorted by the column, are those that the scan shows. -/
theorem sort_scn (ok : TbOk t) (hc : c < t.cols.length) : sortP (cmpR c) (t.rows.filter (fun r => inB lo hi (kyR c r))) = scnL t c lo hi := by
  have hs := sort_srt ok hc (List.filter_sublist (p := fun r => inB lo hi (kyR c r)) (l := t.rows)) (t.rows.filter (fun r => inB lo hi (kyR c r))).length
  rw [List.take_of_length_le (Nat.le_refl _)] at hs
  refine srt_perm_eq ((sortP_perm _ _).trans ?_) hs ?_
  · exact ((scnB_perm ok c).symm.filter _)
  · show ((scnB t c).filter _).Pairwise _
    refine List.Pairwise.filter _ ?_
    unfold scnB
    split
    · rename_i e
      subst e
      refine ok.srt.imp (fun {a b} hab => ?_)
      rw [idxK_lt]
      unfold pkK at hab
      simp [hab]
    · exact idxR_srt _ _ _
end
end Go.Proofs.Qxb6500412aGreat
