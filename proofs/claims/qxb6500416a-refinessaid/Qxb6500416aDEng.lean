/-
  OWN WORK. THE ENGINE: its memory.
-/
import Derived.Test.Qxb6500416aDPool
namespace Go.Proofs.Qxb6500416a
open Go.RowKit Go.PlainAid
set_option linter.unusedSimpArgs false
set_option linter.unusedVariables false

def tabV (n : Nat) (f : Nat → Value) : Array Value := ((List.range n).map f).toArray
theorem tabV_size (n : Nat) (f : Nat → Value) : (tabV n f).size = n := by simp [tabV]
theorem tabV_get (n : Nat) (f : Nat → Value) (i : Nat) (h : i < n) : (tabV n f)[i]? = some (f i) := by simp [tabV, h]
theorem tabV_congr (n : Nat) {f g : Nat → Value} (h : ∀ i, i < n → f i = g i) : tabV n f = tabV n g := by
  unfold tabV
  congr 1
  apply List.map_congr_left
  intro i hi
  exact h i (List.mem_range.1 hi)
theorem tabV_set (n : Nat) (f : Nat → Value) (i : Nat) (v : Value) : (tabV n f).setIfInBounds i v = tabV n (fun j => if j = i then v else f j) := by
  apply Array.ext'
  rw [Array.toList_setIfInBounds]
  unfold tabV
  apply List.ext_getElem (by simp)
  intro j h1 h2
  simp at h1 h2
  simp only [List.getElem_set, List.getElem_map, List.getElem_range]
  by_cases e : i = j
  · subst e; simp
  · have e' : ¬ j = i := fun h => e h.symm
    simp [e, e']
def updT {α : Type} (f : Nat → α) (i : Nat) (x : α) : Nat → α := fun j => if j = i then x else f j
theorem updT_same {α : Type} (f : Nat → α) (i : Nat) (x : α) : updT f i x i = x := by simp [updT]
theorem updT_other {α : Type} (f : Nat → α) (i j : Nat) (x : α) (h : j ≠ i) : updT f i x j = f j := by simp [updT, h]

def ecell (hd : Nat → Nat) (lv sv nv : Value) (off : Nat) : Value := if off < 8 then .int .i64 (hd off : Int) else if off = 8 then lv else if off = 9 then sv else nv
/-- The engine's block: eight heads, the lines, their hashes, the chains. -/
def EAt (w : World) (e : Nat) (hd : Nat → Nat) (lv sv nv : Value) : Prop := Has w e (tabV 11 (ecell hd lv sv nv)) 52
section
variable {w : World} {e : Nat} {hd : Nat → Nat} {lv sv nv : Value}
theorem EAt.lt (h : EAt w e hd lv sv nv) : e < w.heap.size := Has.lt h
theorem EAt.keep {S : Nat → Prop} {w' : World} (h : EAt w e hd lv sv nv) (ho : Only S w w') (hS : ¬ S e) : EAt w' e hd lv sv nv := Has.keep h ho hS
theorem EAt.head (h : EAt w e hd lv sv nv) (b : Nat) (hb : b < 8) : w.cell? ⟨e, b, none⟩ = some (.int .i64 (hd b : Int)) ∧ w.frozen? ⟨e, b, none⟩ = false := by
  refine ⟨?_, Has.free h _⟩
  rw [Has.cell h, tabV_get _ _ _ (by omega)]
  unfold ecell
  rw [if_pos hb]
theorem EAt.line_ (h : EAt w e hd lv sv nv) : w.cell? ⟨e, 8, none⟩ = some lv ∧ w.frozen? ⟨e, 8, none⟩ = false := by
  refine ⟨?_, Has.free h _⟩
  rw [Has.cell h, tabV_get _ _ _ (by omega)]; rfl
theorem EAt.sum_ (h : EAt w e hd lv sv nv) : w.cell? ⟨e, 9, none⟩ = some sv ∧ w.frozen? ⟨e, 9, none⟩ = false := by
  refine ⟨?_, Has.free h _⟩
  rw [Has.cell h, tabV_get _ _ _ (by omega)]; rfl
theorem EAt.next_ (h : EAt w e hd lv sv nv) : w.cell? ⟨e, 10, none⟩ = some nv ∧ w.frozen? ⟨e, 10, none⟩ = false := by
  refine ⟨?_, Has.free h _⟩
  rw [Has.cell h, tabV_get _ _ _ (by omega)]; rfl
theorem EAt.setHead (h : EAt w e hd lv sv nv) (b : Nat) (hb : b < 8) (k : Nat) : EAt (w.setCell ⟨e, b, none⟩ (.int .i64 (k : Int))) e (updT hd b k) lv sv nv := by
  have := Has.setCell h b (.int .i64 (k : Int))
  rw [tabV_set] at this
  unfold EAt
  rw [tabV_congr 11 (g := ecell (updT hd b k) lv sv nv)] at this
  · exact this
  · intro j hj
    unfold ecell
    by_cases ej : j = b
    · subst ej; rw [if_pos rfl, if_pos hb, updT_same]
    · rw [if_neg ej, updT_other _ _ _ _ ej]
theorem EAt.setLine (h : EAt w e hd lv sv nv) (v : Value) : EAt (w.setCell ⟨e, 8, none⟩ v) e hd v sv nv := by
  have := Has.setCell h 8 v
  rw [tabV_set] at this
  unfold EAt
  rw [tabV_congr 11 (g := ecell hd v sv nv)] at this
  · exact this
  · intro j hj
    unfold ecell
    by_cases ej : j = 8
    · subst ej; rfl
    · rw [if_neg ej, if_neg ej, if_neg ej]
theorem EAt.setSum (h : EAt w e hd lv sv nv) (v : Value) : EAt (w.setCell ⟨e, 9, none⟩ v) e hd lv v nv := by
  have := Has.setCell h 9 v
  rw [tabV_set] at this
  unfold EAt
  rw [tabV_congr 11 (g := ecell hd lv v nv)] at this
  · exact this
  · intro j hj
    unfold ecell
    by_cases ej : j = 9
    · subst ej; rfl
    · rw [if_neg ej, if_neg ej, if_neg ej]
theorem EAt.setNext (h : EAt w e hd lv sv nv) (v : Value) : EAt (w.setCell ⟨e, 10, none⟩ v) e hd lv sv v := by
  have := Has.setCell h 10 v
  rw [tabV_set] at this
  unfold EAt
  rw [tabV_congr 11 (g := ecell hd lv sv v)] at this
  · exact this
  · intro j hj
    unfold ecell
    by_cases ej : j = 10
    · subst ej; rfl
    · rw [if_neg ej]
      have h10 : ¬ (¬ j < 8 ∧ ¬ j = 8 ∧ ¬ j = 9) := by omega
      by_cases h8 : j < 8
      · rw [if_pos h8, if_pos h8]
      · rw [if_neg h8, if_neg h8]
        by_cases h9 : j = 8
        · rw [if_pos h9, if_pos h9]
        · rw [if_neg h9, if_neg h9, if_pos (by omega), if_pos (by omega)]
end
/-- The empty head of a row. -/
def cut0 : Value → Value
  | .slice a _ c => .slice a 0 c
  | v => v
theorem own_cut0 {w : World} {t size : Nat} {v : Value} {n : Nat} {xs : List Value} (h : w.ownsRow 0 t size v n xs) : w.ownsRow 0 t size (cut0 v) 0 [] ∧ (cut0 v).ownBlock = v.ownBlock := by
  rcases h.2 with ⟨rfl, _⟩ | ⟨g, cap, cur, rfl, h1, h2, h3, h4, h5, h6⟩
  · exact ⟨World.ownsRow_nil _ _ _ _, rfl⟩
  · exact ⟨⟨by simp, .inr ⟨g, cap, cur, rfl, h1, h2, by omega, h4, h5, by simp⟩⟩, rfl⟩
/-- The pool holds the lines L. -/
structure EP (w : World) (e : Nat) (L : List Str) (F : Nat → Prop) : Prop where
  ex : ∃ hd lv sv nv, EAt w e hd lv sv nv ∧ OwnS w lv (L.map sb) ∧ w.ownsRow 0 3 1 sv L.length (L.map (fun l => Value.int .i64 (hashD l : Int))) ∧
    w.ownsRow 0 3 1 nv L.length ((List.range L.length).map (fun k => Value.int .i64 (lastB L (buck (L.getD k [])) k : Int))) ∧ (∀ b, b < 8 → hd b = lastB L b L.length) ∧
    (∀ y, lv.ownBlock = some y ∨ sv.ownBlock = some y ∨ nv.ownBlock = some y → F y ∧ y ≠ e) ∧ (∀ y, sv.ownBlock = some y → nv.ownBlock ≠ some y)
  own : F e
  inn : ∀ k, F k → k < w.heap.size
  nd : L.Nodup
theorem EP.keep {S : Nat → Prop} {w w' : World} {e : Nat} {L : List Str} {F : Nat → Prop} (h : EP w e L F) (ho : Only S w w') (hS : ∀ k, F k → ¬ S k) : EP w' e L F := by
  obtain ⟨⟨hd, lv, sv, nv, h1, h2, h3, h4, h5, h6, h7⟩, h8, h9, h10⟩ := h
  exact ⟨⟨hd, lv, sv, nv, h1.keep ho (hS e h8), ownsRow_keep h2 ho (fun k hk => hS k (h6 k (.inl hk)).1), ownsRow_keep h3 ho (fun k hk => hS k (h6 k (.inr (.inl hk))).1), ownsRow_keep h4 ho (fun k hk => hS k (h6 k (.inr (.inr hk))).1), h5, h6, h7⟩, h8, fun k hk => Nat.lt_of_lt_of_le (h9 k hk) ho.size, h10⟩
end Go.Proofs.Qxb6500416a
