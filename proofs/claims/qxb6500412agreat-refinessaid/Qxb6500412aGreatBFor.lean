/-
  OWN WORK. THE B-TREE: the forest: eight trees, the directory. No program in sight.
-/
import Derived.Test.Qxb6500412aGreatBGd
import Derived.Test.Qxb6500412aGreatBRaz
namespace Go.Proofs.Qxb6500412aGreat
open Go.RowKit Go.PlainAid
set_option linter.unusedSimpArgs false
set_option linter.unusedVariables false

theorem fm_congr {α β : Type} {l : List α} {f g : α → List β} (h : ∀ a ∈ l, f a = g a) : l.flatMap f = l.flatMap g := by
  induction l with
  | nil => rfl
  | cons a r ih => rw [List.flatMap_cons, List.flatMap_cons, h a (by simp), ih (fun x hx => h x (by simp [hx]))]
structure Root where
  h : Nat
  t : Tr (h + 1)
abbrev Fo := Nat → Option Root
def pgR : Option Root → Nat
  | none => 0
  | some r => pgT r.t
def pgsR : Option Root → List Nat
  | none => []
  | some r => pgs (r.h + 1) r.t
def entsR : Option Root → List KV
  | none => []
  | some r => entsL r.h (itT r.t)
def all8 {α : Type} (f : Option Root → List α) (F : Fo) : List α := (List.range 8).flatMap (fun i => f (F i))
def upd (F : Fo) (i : Nat) (r : Option Root) : Fo := fun j => if j = i then r else F j
theorem upd_same (F : Fo) (i : Nat) (r : Option Root) : upd F i r i = r := by simp [upd]
theorem upd_other (F : Fo) {i j : Nat} (r : Option Root) (h : j ≠ i) : upd F i r j = F j := by simp [upd, h]
theorem all8_upd {α : Type} (f : Option Root → List α) (F : Fo) {i : Nat} (hi : i < 8) : ∃ A B, all8 f F = A ++ (f (F i) ++ B) ∧ ∀ r, all8 f (upd F i r) = A ++ (f r ++ B) := by
  have e : List.range 8 = List.range i ++ i :: (List.range (7 - i)).map (fun j => i + 1 + j) := by
    rw [show (8 : Nat) = i + (7 - i + 1) by omega, List.range_add, List.range_succ_eq_map]
    simp [Function.comp_def]
    intro a ha
    omega
  refine ⟨(List.range i).flatMap (fun j => f (F j)), ((List.range (7 - i)).map (fun j => i + 1 + j)).flatMap (fun j => f (F j)), ?_, fun r => ?_⟩
  · unfold all8
    rw [e, List.flatMap_append, List.flatMap_cons]
  · unfold all8
    rw [e, List.flatMap_append, List.flatMap_cons, upd_same]
    congr 1
    · apply fm_congr
      intro j hj
      rw [upd_other _ _ (by have := List.mem_range.mp hj; omega)]
    · congr 1
      apply fm_congr
      intro j hj
      obtain ⟨a, ha, rfl⟩ := List.mem_map.mp hj
      rw [upd_other _ _ (by omega)]
theorem all8_in {α : Type} {f : Option Root → List α} {F : Fo} {a : α} : a ∈ all8 f F ↔ ∃ i, i < 8 ∧ a ∈ f (F i) := by
  unfold all8
  simp [List.mem_flatMap]
def lo0 (h : Nat) : Nat := if h = 0 then 0 else 2
theorem lo0_l2 (h : Nat) : h = 0 ∨ lo0 h = 2 := by
  unfold lo0
  by_cases e : h = 0
  · exact .inl e
  · rw [if_neg e]; exact .inr rfl
/-- The directory's bytes. -/
structure Dir (d : ByteArray) (F : Fo) : Prop where
  sz : d.size = 128
  rt : ∀ i, i < 8 → byteAt d i = pgR (F i)
  ct : byteAt d 8 = (all8 entsR F).length
structure FI (N : Nat → Option ByteArray) (F : Fo) : Prop where
  dir : ∃ d, N 1 = some d ∧ Dir d F
  gd : ∀ i r, i < 8 → F i = some r → Gd N r.h bE none (lo0 r.h) r.t
  us : ∀ n b, N n = some b → n = 1 ∨ n ∈ all8 pgsR F
  nd : (1 :: all8 pgsR F).Nodup
  ct : (all8 entsR F).length ≤ 64
theorem pow_ents : ∀ {h : Nat} {t : Tr h} (s : ByteArray), Sz h 2 t → 2 ^ h ≤ (ents h s t).length
  | 0, _, s, _ => by simp [ents]
  | h + 1, t, s, hs => by
    obtain ⟨h1, h2, h3⟩ := hs
    rw [ents_succ]
    have key : ∀ l : List (ByteArray × Tr h), (∀ e ∈ l, Sz h 2 e.2) → l.length * 2 ^ h ≤ (entsL h l).length := by
      intro l
      induction l with
      | nil => simp
      | cons e r ih =>
        intro hl
        have i1 := pow_ents e.1 (hl e (by simp))
        have i2 := ih (fun x hx => hl x (by simp [hx]))
        simp [Nat.add_mul]
        omega
    have k1 := key (itT t) (fun e he => (h3 e he).2)
    have k2 : 2 * 2 ^ h ≤ (itT t).length * 2 ^ h := Nat.mul_le_mul_right _ h1
    rw [Nat.pow_succ]
    omega
section
variable {N : Nat → Option ByteArray} {F : Fo}
theorem FI.len (I : FI N F) {i : Nat} (hi : i < 8) : (entsR (F i)).length ≤ 64 := by
  obtain ⟨A, B, h1, _⟩ := all8_upd entsR F hi
  have := I.ct
  rw [h1] at this
  simp at this
  omega
theorem FI.ht (I : FI N F) {i : Nat} (hi : i < 8) {r : Root} (hr : F i = some r) : r.h < 8 := by
  have h1 := I.len hi
  rw [hr] at h1
  have g := I.gd i r hi hr
  by_cases h0 : r.h = 0
  · omega
  · have hs : Sz (r.h + 1) 2 r.t := by
      have := g.sz
      unfold lo0 at this
      rw [if_neg h0] at this
      exact this
    have h2 := pow_ents bE hs
    rw [ents_succ] at h2
    have h3 : 2 ^ (r.h + 1) ≤ 64 := Nat.le_trans h2 h1
    have h4 : 2 ^ (r.h + 1) ≤ 2 ^ 6 := h3
    have := (Nat.pow_le_pow_iff_right (a := 2) (by omega)).mp h4
    omega
theorem FI.pos (I : FI N F) (hN : ∀ n b, N n = some b → 1 ≤ n) {i : Nat} (hi : i < 8) {r : Root} (hr : F i = some r) : 1 ≤ pgT r.t := hN _ _ (I.gd i r hi hr).st.1
theorem FI.one (I : FI N F) {i : Nat} (hi : i < 8) {r : Root} (hr : F i = some r) : 1 ∉ pgs (r.h + 1) r.t := fun hm => by
  have := (List.nodup_cons.mp I.nd).1
  exact this (all8_in.mpr ⟨i, hi, by rw [hr]; exact hm⟩)
end
end Go.Proofs.Qxb6500412aGreat
