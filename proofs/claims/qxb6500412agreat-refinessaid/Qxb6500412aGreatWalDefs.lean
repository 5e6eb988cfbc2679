/-
  OWN WORK. PLAIN WORDS OF THE LOG's LAWS; no law's own Go in sight.
-/
import Derived.Test.Qxb6500412aGreatLogC
namespace Go.Proofs.Qxb6500412aGreat
open Go.RowKit
set_option linter.unusedSimpArgs false
set_option linter.unusedVariables false

def gotB (blk : List ByteArray) (es : List (Nat × ByteArray)) (l : List ByteArray) : Bool := (List.range 80).all fun b => (shown blk es b).data.toList == (l.getD b emptyB).data.toList
theorem ba_ext {s t : ByteArray} (h : s.data.toList = t.data.toList) : s = t := by
  cases s; cases t
  simp only [ByteArray.mk.injEq]
  exact Array.toList_inj.1 h
theorem gotB_iff (blk : List ByteArray) (es : List (Nat × ByteArray)) (l : List ByteArray) : gotB blk es l = true ↔ ∀ b, b < 80 → shown blk es b = l.getD b emptyB := by
  unfold gotB
  simp only [List.all_eq_true, List.mem_range, beq_iff_eq]
  exact ⟨fun h b hb => ba_ext (h b hb), fun h b hb => by rw [h b hb]⟩

/-- What the ghost says of the write set is so. -/
structure Tells (dirty : List Bool) (es : List (Nat × ByteArray)) : Prop where
  inn : ∀ e ∈ es, e.1 < 80
  dirt : ∀ b, b < 80 → dirty.getD b false = (at? es b).isSome

theorem at?_out {es : List (Nat × ByteArray)} (h : ∀ e ∈ es, e.1 < 80) {b : Int} (hb : ¬ (0 ≤ b ∧ b < 80)) : at? es b = none := by
  unfold at?
  rw [List.findIdx?_eq_none_iff]
  intro e he
  have := h e he
  simp only [beq_eq_false_iff_ne, ne_eq]
  omega

theorem bne_self (b : Bool) : (b != b) = false := by cases b <;> rfl

theorem mix_set {α : Type} (ys xs : List α) (k : Nat) (hk : k < ys.length) (hx : xs.length = ys.length) : (ys.take k ++ xs.drop k).set k ys[k] = ys.take (k + 1) ++ xs.drop (k + 1) := by
  rw [List.set_append_right _ _ (by simp; omega), List.take_succ_eq_append_getElem hk, List.append_assoc]
  congr 1
  have e : k - (ys.take k).length = 0 := by simp; omega
  have hd := List.drop_eq_getElem_cons (l := xs) (i := k) (by omega)
  rw [e, hd, List.set_cons_zero]
  rfl

def nots (n : Nat) : List Bool := List.replicate n false
@[simp] theorem nots_length (n : Nat) : (nots n).length = n := by simp [nots]
theorem nots_get (n k : Nat) (h : k < (nots n).length) : (nots n)[k] = false := by simp [nots]

theorem Tryz.infoBool : (Tryz.prog.info? 4).map (fun i => (i.zero, i.size, i.bytes)) = some (some (.bool false), 1, 1) := by kernel_rfl
/-- What a Write must answer. -/
def due (op : Bool) (dirty : List Bool) (n : Nat) (a : Int) : Int :=
  if op = false then 2 else if ¬ (0 ≤ a ∧ a < 80) then 1 else if dirty.getD a.toNat false = false ∧ 72 ≤ n then 4 else 0

end Go.Proofs.Qxb6500412aGreat
