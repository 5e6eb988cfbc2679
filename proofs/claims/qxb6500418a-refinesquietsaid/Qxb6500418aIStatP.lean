/-
  OWN WORK. THE INDEX: the status of three lists, in plain terms.
-/
import Derived.Test.Qxb6500418aIHolds
namespace Go.Proofs.Qxb6500418a
open Go.RowKit Go.PlainAid
set_option linter.unusedSimpArgs false
set_option linter.unusedVariables false

abbrev Srt (L : List Fl) : Prop := L.Pairwise (fun a b => bl (pth a) (pth b) = true)
structure Chg where
  path : ByteArray
  staged : Nat
  work : Nat
/-- The row of a path. -/
def rowO (L : List Fl) (p : ByteArray) : Option Fl := L.find? (fun f => decide (f.path = p))
def codeM (a b : Option Fl) (m : Bool) : Nat := match a, b with
  | none, none => 0
  | none, some _ => 1
  | some _, none => 3
  | some f, some g => if f.data = g.data ∧ (m = true → f.mode = g.mode) then 0 else 2
def chgO (H X W : List Fl) (p : ByteArray) : Option Chg :=
  if codeM (rowO H p) (rowO X p) true = 0 ∧ codeM (rowO X p) (rowO W p) false = 0 then none
  else some ⟨p, codeM (rowO H p) (rowO X p) true, codeM (rowO X p) (rowO W p) false⟩
def po (f : Fl) : Fl := ⟨f.path, ⟨#[]⟩, 0⟩
theorem pth_po (f : Fl) : pth (po f) = pth f := rfl
def addP (A L : List Fl) : List Fl := L.foldl (fun A f => withL A (po f)) A
def pathsL (H X W : List Fl) : List Fl := addP (addP (addP [] H) X) W
def statusL (H X W : List Fl) : List Chg := (pathsL H X W).filterMap (fun f => chgO H X W f.path)

theorem path_of_pth {f g : Fl} (h : pth f = pth g) : f.path = g.path := ls_inj h
theorem addP_srt : ∀ {L A : List Fl}, Srt A → Srt (addP A L)
  | [], A, h => h
  | f :: L, A, h => addP_srt (L := L) (withL_sorted h)
/-- Only paths. -/
def Bar (A : List Fl) : Prop := ∀ f ∈ A, f = po f
theorem withL_bar {A : List Fl} {f : Fl} (hs : Srt A) (h : Bar A) : Bar (withL A (po f)) := by
  intro g hg
  rcases (withL_mem hs g).1 hg with rfl | ⟨h1, _⟩
  · rfl
  · exact h g h1
theorem addP_bar : ∀ {L A : List Fl}, Srt A → Bar A → Bar (addP A L)
  | [], A, _, h => h
  | f :: L, A, hs, h => addP_bar (L := L) (withL_sorted hs) (withL_bar hs h)
theorem addP_mem : ∀ {L A : List Fl}, Srt A → Bar A → ∀ g, g ∈ addP A L ↔ g ∈ A ∨ ∃ f ∈ L, g = po f
  | [], A, _, _, g => by simp [addP]
  | f :: L, A, hs, hb, g => by
    show g ∈ addP (withL A (po f)) L ↔ _
    rw [addP_mem (L := L) (withL_sorted hs) (withL_bar hs hb), withL_mem hs]
    constructor
    · rintro ((rfl | ⟨h1, _⟩) | ⟨k, hk, rfl⟩)
      · exact .inr ⟨f, by simp, rfl⟩
      · exact .inl h1
      · exact .inr ⟨k, by simp [hk], rfl⟩
    · rintro (h1 | ⟨k, hk, rfl⟩)
      · by_cases e : pth g = pth (po f)
        · have : g = po f := by
            rw [hb g h1]
            have := path_of_pth e
            unfold po at this ⊢
            rw [this]
          exact .inl (.inl this)
        · exact .inl (.inr ⟨h1, e⟩)
      · simp at hk
        rcases hk with rfl | hk
        · exact .inl (.inl rfl)
        · exact .inr ⟨k, hk, rfl⟩
theorem pathsL_facts (H X W : List Fl) : Srt (pathsL H X W) ∧ ∀ g, g ∈ pathsL H X W ↔ ∃ f, (f ∈ H ∨ f ∈ X ∨ f ∈ W) ∧ g = po f := by
  have s0 : Srt ([] : List Fl) := List.Pairwise.nil
  have b0 : Bar [] := fun f hf => by simp at hf
  have s1 := addP_srt (L := H) s0
  have b1 := addP_bar (L := H) s0 b0
  have s2 := addP_srt (L := X) s1
  have b2 := addP_bar (L := X) s1 b1
  refine ⟨addP_srt s2, fun g => ?_⟩
  unfold pathsL
  rw [addP_mem s2 b2, addP_mem s1 b1, addP_mem s0 b0]
  constructor
  · rintro ((( h | ⟨f, hf, rfl⟩) | ⟨f, hf, rfl⟩) | ⟨f, hf, rfl⟩)
    · simp at h
    · exact ⟨f, .inl hf, rfl⟩
    · exact ⟨f, .inr (.inl hf), rfl⟩
    · exact ⟨f, .inr (.inr hf), rfl⟩
  · rintro ⟨f, hf | hf | hf, rfl⟩
    · exact .inl (.inl (.inr ⟨f, hf, rfl⟩))
    · exact .inl (.inr ⟨f, hf, rfl⟩)
    · exact .inr ⟨f, hf, rfl⟩

/-- The list behind its row of path p, if that is the first. -/
def cut (L : List Fl) (p : ByteArray) : List Fl := match L with
  | [] => []
  | f :: r => if f.path = p then r else f :: r
def atP (L : List Fl) (p : ByteArray) : Bool := match L with
  | [] => false
  | f :: _ => decide (f.path = p)
/-- p is at most every path of the list. -/
def Low (p : ByteArray) (L : List Fl) : Prop := ∀ f ∈ L, f.path = p ∨ bl (ls p) (pth f) = true
theorem cut_facts {L : List Fl} {p : ByteArray} (hs : Srt L) (hl : Low p L) :
    Srt (cut L p) ∧ (∀ f ∈ cut L p, bl (ls p) (pth f) = true) ∧ (∀ f ∈ cut L p, f ∈ L) ∧ (∀ f ∈ L, f.path = p ∨ f ∈ cut L p) ∧
    rowO L p = (if atP L p = true then L.head? else none) ∧ (∀ q, q ≠ p → rowO L q = rowO (cut L p) q) := by
  cases L with
  | nil =>
    refine ⟨List.Pairwise.nil, fun f hf => by simp [cut] at hf, fun f hf => hf, fun f hf => by simp at hf, by simp [rowO, atP], fun q _ => rfl⟩
  | cons a r =>
    have hs' := List.pairwise_cons.1 hs
    by_cases e : a.path = p
    · have hc : cut (a :: r) p = r := by simp [cut, e]
      rw [hc]
      refine ⟨hs'.2, fun f hf => ?_, fun f hf => by simp [hf], fun f hf => ?_, ?_, fun q hq => ?_⟩
      · have := hs'.1 f hf
        unfold pth at this
        rw [e] at this
        exact this
      · simp at hf
        rcases hf with rfl | hf
        · exact .inl e
        · exact .inr hf
      · simp [rowO, atP, e]
      · unfold rowO
        rw [List.find?_cons]
        have : decide (a.path = q) = false := decide_eq_false (fun e2 => hq (e2.symm.trans e))
        rw [this]
    · have hc : cut (a :: r) p = a :: r := by simp [cut, e]
      rw [hc]
      have hall : ∀ f ∈ a :: r, bl (ls p) (pth f) = true := by
        intro f hf
        have ha : bl (ls p) (pth a) = true := (hl a (by simp)).resolve_left e
        simp at hf
        rcases hf with rfl | hf
        · exact ha
        · exact bl_trans _ _ _ ha (hs'.1 f hf)
      refine ⟨hs, hall, fun f hf => hf, fun f hf => .inr hf, ?_, fun q _ => rfl⟩
      have h2 : atP (a :: r) p = false := by simp [atP, e]
      rw [h2]
      simp only [Bool.false_eq_true, if_false]
      unfold rowO
      rw [List.find?_eq_none]
      intro f hf
      simp
      intro e2
      have := hall f hf
      unfold pth at this
      rw [e2, bl_irr] at this
      cases this
/-- The least path first. -/
theorem status_step {H X W : List Fl} {p : ByteArray} (hH : Srt H) (hX : Srt X) (hW : Srt W) (lH : Low p H) (lX : Low p X) (lW : Low p W) (hex : ∃ f, (f ∈ H ∨ f ∈ X ∨ f ∈ W) ∧ f.path = p) :
    statusL H X W = (chgO H X W p).toList ++ statusL (cut H p) (cut X p) (cut W p) := by
  obtain ⟨a1, a2, a3, a4, a5, a6⟩ := cut_facts hH lH
  obtain ⟨b1, b2, b3, b4, b5, b6⟩ := cut_facts hX lX
  obtain ⟨c1, c2, c3, c4, c5, c6⟩ := cut_facts hW lW
  obtain ⟨s1, m1⟩ := pathsL_facts H X W
  obtain ⟨s2, m2⟩ := pathsL_facts (cut H p) (cut X p) (cut W p)
  have hgt : ∀ g ∈ pathsL (cut H p) (cut X p) (cut W p), bl (ls p) (pth g) = true := by
    intro g hg
    obtain ⟨f, hf, rfl⟩ := (m2 g).1 hg
    rw [pth_po]
    rcases hf with h | h | h
    · exact a2 f h
    · exact b2 f h
    · exact c2 f h
  have hcons : pathsL H X W = ⟨p, ⟨#[]⟩, 0⟩ :: pathsL (cut H p) (cut X p) (cut W p) := by
    refine sorted_ext s1 (List.pairwise_cons.2 ⟨fun g hg => hgt g hg, s2⟩) (fun g => ?_)
    rw [m1, List.mem_cons, m2]
    constructor
    · rintro ⟨f, hf, rfl⟩
      by_cases e : f.path = p
      · left; unfold po; rw [e]
      · right
        refine ⟨f, ?_, rfl⟩
        rcases hf with h | h | h
        · exact .inl ((a4 f h).resolve_left e)
        · exact .inr (.inl ((b4 f h).resolve_left e))
        · exact .inr (.inr ((c4 f h).resolve_left e))
    · rintro (rfl | ⟨f, hf, rfl⟩)
      · obtain ⟨f, hf, e⟩ := hex
        exact ⟨f, hf, by unfold po; rw [e]⟩
      · refine ⟨f, ?_, rfl⟩
        rcases hf with h | h | h
        · exact .inl (a3 f h)
        · exact .inr (.inl (b3 f h))
        · exact .inr (.inr (c3 f h))
  have hrest : (pathsL (cut H p) (cut X p) (cut W p)).filterMap (fun f => chgO H X W f.path) = statusL (cut H p) (cut X p) (cut W p) := by
    unfold statusL
    have : ∀ {l : List Fl} {F G : Fl → Option Chg}, (∀ f ∈ l, F f = G f) → l.filterMap F = l.filterMap G := by
      intro l F G h
      induction l with
      | nil => rfl
      | cons a l ih =>
        rw [List.filterMap_cons, List.filterMap_cons, h a (by simp), ih (fun f hf => h f (by simp [hf]))]
    apply this
    intro g hg
    have hne : g.path ≠ p := by
      intro e
      have := hgt g hg
      unfold pth at this
      rw [e, bl_irr] at this
      cases this
    unfold chgO
    rw [a6 _ hne, b6 _ hne, c6 _ hne]
  unfold statusL at hrest ⊢
  rw [hcons, List.filterMap_cons, hrest]
  cases hc : chgO H X W p with
  | none => simp [hc]
  | some v => simp [hc]
theorem status_nil : statusL [] [] [] = [] := rfl
end Go.Proofs.Qxb6500418a
