/-
  OWN WORK. THE INDEX: one turn of Status, in plain terms.
-/
import Derived.Test.Qxb6500418aICode
namespace Go.Proofs.Qxb6500418a
open Go.RowKit Go.PlainAid
set_option linter.unusedSimpArgs false
set_option linter.unusedVariables false

/-- The lesser of what stands and the list's first path. -/
def lesser (o : Option ByteArray) (L : List Fl) : Option ByteArray := match L with
  | [] => o
  | f :: _ => match o with
    | none => some f.path
    | some q => if ltS f.path q = true then some f.path else some q
theorem low_le {p q : ByteArray} {L : List Fl} (h : Low p L) (hq : q = p ∨ bl (ls q) (ls p) = true) : Low q L := by
  rcases hq with rfl | hq
  · exact h
  · intro f hf
    rcases h f hf with e | e
    · right; unfold pth; rw [e]; exact hq
    · right; exact bl_trans _ _ _ hq e
theorem low_head {f : Fl} {r : List Fl} (hs : Srt (f :: r)) : Low f.path (f :: r) := by
  intro g hg
  simp at hg
  rcases hg with rfl | hg
  · exact .inl rfl
  · exact .inr ((List.pairwise_cons.1 hs).1 g hg)
theorem lesser_none {o : Option ByteArray} {L : List Fl} : lesser o L = none ↔ o = none ∧ L = [] := by
  cases L with
  | nil => simp [lesser]
  | cons f r =>
    cases o with
    | none => simp [lesser]
    | some q => simp only [lesser]; split <;> simp
theorem lesser_low {o : Option ByteArray} {L : List Fl} (hs : Srt L) {q : ByteArray} (h : lesser o L = some q) :
    Low q L ∧ (∀ p, o = some p → q = p ∨ bl (ls q) (ls p) = true) ∧ ((∃ f ∈ L, f.path = q) ∨ o = some q) := by
  cases L with
  | nil => exact ⟨fun f hf => by simp at hf, fun p hp => by rw [lesser, hp] at h; cases h; exact .inl rfl, .inr h⟩
  | cons f r =>
    cases o with
    | none =>
      simp only [lesser] at h
      cases h
      exact ⟨low_head hs, fun p hp => (by cases hp), .inl ⟨f, by simp, rfl⟩⟩
    | some p =>
      simp only [lesser] at h
      by_cases e : ltS f.path p = true
      · rw [if_pos e] at h
        cases h
        rw [ltS_eq] at e
        exact ⟨low_head hs, fun p' hp => by cases hp; exact .inr e, .inl ⟨f, by simp, rfl⟩⟩
      · rw [if_neg e] at h
        cases h
        rw [ltS_eq] at e
        refine ⟨low_le (low_head hs) ?_, fun p' hp => by cases hp; exact .inl rfl, .inr rfl⟩
        rcases bl_total (ls f.path) (ls q) with h1 | h1 | h1
        · exact absurd h1 e
        · exact .inl (ls_inj h1).symm
        · exact .inr h1
/-- The path of a turn. -/
def turnP (H X W : List Fl) : Option ByteArray := lesser (lesser (lesser none H) X) W
theorem turn_facts {H X W : List Fl} (hH : Srt H) (hX : Srt X) (hW : Srt W) {q : ByteArray} (h : turnP H X W = some q) : Low q H ∧ Low q X ∧ Low q W ∧ ∃ f, (f ∈ H ∨ f ∈ X ∨ f ∈ W) ∧ f.path = q := by
  obtain ⟨w1, w2, w3⟩ := lesser_low hW h
  cases h2 : lesser (lesser none H) X with
  | none =>
    obtain ⟨e1, rfl⟩ := lesser_none.1 h2
    obtain ⟨_, rfl⟩ := lesser_none.1 e1
    refine ⟨fun f hf => by simp at hf, fun f hf => by simp at hf, w1, ?_⟩
    rcases w3 with ⟨f, hf, e⟩ | e
    · exact ⟨f, .inr (.inr hf), e⟩
    · rw [h2] at e; cases e
  | some q2 =>
    obtain ⟨x1, x2, x3⟩ := lesser_low hX h2
    have hq := w2 q2 h2
    cases h3 : lesser none H with
    | none =>
      obtain ⟨_, rfl⟩ := lesser_none.1 h3
      refine ⟨fun f hf => by simp at hf, low_le x1 hq, w1, ?_⟩
      rcases w3 with ⟨f, hf, e⟩ | e
      · exact ⟨f, .inr (.inr hf), e⟩
      · rw [h2] at e
        cases e
        rcases x3 with ⟨f, hf, e⟩ | e
        · exact ⟨f, .inr (.inl hf), e⟩
        · rw [h3] at e; cases e
    | some q3 =>
      obtain ⟨y1, _, y3⟩ := lesser_low hH h3
      have hq2 := x2 q3 h3
      refine ⟨low_le (low_le y1 hq2) hq, low_le x1 hq, w1, ?_⟩
      rcases w3 with ⟨f, hf, e⟩ | e
      · exact ⟨f, .inr (.inr hf), e⟩
      · rw [h2] at e
        cases e
        rcases x3 with ⟨f, hf, e⟩ | e
        · exact ⟨f, .inr (.inl hf), e⟩
        · rw [h3] at e
          cases e
          rcases y3 with ⟨f, hf, e⟩ | e
          · exact ⟨f, .inl hf, e⟩
          · cases e
theorem turn_none {H X W : List Fl} : turnP H X W = none ↔ H = [] ∧ X = [] ∧ W = [] := by
  unfold turnP
  rw [lesser_none, lesser_none, lesser_none]
  simp [and_assoc]
/-- Are the two first rows alike? -/
def likeB (A B : List Fl) (m : Bool) : Bool := match A, B with
  | a :: _, b :: _ => decide (a.data = b.data) && (!m || decide (a.mode = b.mode))
  | _, _ => false
theorem code_turn {A B : List Fl} {p : ByteArray} (hA : Srt A) (hB : Srt B) (lA : Low p A) (lB : Low p B) (m : Bool) (like : Bool) (hl : atP A p = true → atP B p = true → like = likeB A B m) :
    codeM (rowO A p) (rowO B p) m = codeB (atP A p) (atP B p) like := by
  obtain ⟨_, _, _, _, a5, _⟩ := cut_facts hA lA
  obtain ⟨_, _, _, _, b5, _⟩ := cut_facts hB lB
  rw [a5, b5]
  cases hA1 : atP A p with
  | false =>
    cases hB1 : atP B p with
    | false => simp [codeM, codeB]
    | true =>
      cases B with
      | nil => cases hB1
      | cons b r => simp [codeM, codeB]
  | true =>
    cases A with
    | nil => cases hA1
    | cons a r =>
      cases hB1 : atP B p with
      | false => simp [codeM, codeB]
      | true =>
        cases B with
        | nil => cases hB1
        | cons b s =>
          have := hl hA1 hB1
          subst this
          simp only [codeM, codeB, likeB, List.head?, if_true]
          by_cases e1 : a.data = b.data
          · by_cases e2 : m = true → a.mode = b.mode
            · rw [if_pos ⟨e1, e2⟩]
              cases m with
              | false => simp [e1]
              | true => simp [e1, e2 rfl]
            · rw [if_neg (fun h => e2 h.2)]
              cases m with
              | false => exact absurd (fun h => by cases h) e2
              | true =>
                have : ¬ a.mode = b.mode := fun e => e2 (fun _ => e)
                simp [this]
          · rw [if_neg (fun h => e1 h.1)]
            simp [e1]
def oS (o : Option ByteArray) : ByteArray := o.getD ⟨#[]⟩
def takes (o : Option ByteArray) (L : List Fl) : Bool := match L with
  | [] => false
  | f :: _ => match o with
    | none => true
    | some q => ltS f.path q
theorem lesser_takes (o : Option ByteArray) (L : List Fl) : lesser o L = if takes o L = true then L.head?.map Fl.path else o := by
  cases L with
  | nil => simp [lesser, takes]
  | cons f r =>
    cases o with
    | none => simp [lesser, takes]
    | some q =>
      have et : takes (some q) (f :: r) = ltS f.path q := rfl
      rw [et]
      simp only [lesser]
      by_cases e : ltS f.path q = true
      · rw [if_pos e, if_pos e]; rfl
      · rw [if_neg e, if_neg e]
theorem drop_cons' {L : List Fl} {i : Nat} (h : i < L.length) : L.drop i = L[i] :: L.drop (i + 1) := List.drop_eq_getElem_cons h
theorem drop_none' {L : List Fl} {i : Nat} (h : ¬ i < L.length) : L.drop i = [] := List.drop_eq_nil_of_le (by omega)
theorem cut_drop (L : List Fl) (i : Nat) (p : ByteArray) (hi : i ≤ L.length) : cut (L.drop i) p = L.drop (i + if atP (L.drop i) p = true then 1 else 0) ∧ i + (if atP (L.drop i) p = true then 1 else 0) ≤ L.length := by
  by_cases h : i < L.length
  · rw [drop_cons' h]
    by_cases e : L[i].path = p
    · simp [cut, atP, e]; omega
    · simp [cut, atP, e, hi]
  · rw [drop_none' h]
    simp [cut, atP, hi, drop_none' h]
end Go.Proofs.Qxb6500418a
