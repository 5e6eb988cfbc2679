/-
  OWN WORK. THE PLAIN FUNCTIONS OF THE LOG's LAYOUT. No program in sight.
-/
import Derived.Test.Qxb6500412aGreatHeap
namespace Go.Proofs.Qxb6500412aGreat

def zeroB : ByteArray := ⟨Array.replicate 128 0⟩
def blockOf (s : ByteArray) : ByteArray := if 128 ≤ s.size then s.extract 0 128 else s ++ zeroB.extract s.size 128

def zeros (n : Nat) : List ByteArray := List.replicate n zeroB
@[simp] theorem zeros_length (n : Nat) : (zeros n).length = n := by simp [zeros]
@[simp] theorem zeroB_size : zeroB.size = 128 := by simp [zeroB, ByteArray.size]
theorem blockOf_size (s : ByteArray) : (blockOf s).size = 128 := by
  unfold blockOf
  split
  · simp; omega
  · simp; omega
theorem extract_all (s : ByteArray) (n : Nat) (h : s.size = n) : s.extract 0 n = s := by
  subst h
  simp
theorem blockOf_id (s : ByteArray) (h : s.size = 128) : blockOf s = s := by
  unfold blockOf
  rw [if_pos (by omega)]
  exact extract_all s 128 h

theorem ba_ne {s t : ByteArray} (h : s ≠ t) : (s.toList == t.toList) = false := by
  rw [ByteArray.toList_eq, ByteArray.toList_eq]
  simp only [beq_eq_false_iff_ne, ne_eq]
  intro e
  apply h
  cases s; cases t
  simp only [ByteArray.mk.injEq]
  exact Array.toList_inj.1 e

/-- Byte i of a block, as a number (0 beyond its end). -/
def byteAt (h : ByteArray) (i : Nat) : Nat := (h.data.toList.getD i 0).toNat
theorem byteAt_lt (h : ByteArray) (i : Nat) : byteAt h i < 256 := UInt8.toNat_lt _
theorem byteAt_get (h : ByteArray) (i : Nat) (hi : i < h.size) : byteAt h i = (h[i]).toNat := by
  unfold byteAt
  rw [List.getD_eq_getElem?_getD, List.getElem?_eq_getElem (by simpa using hi)]
  rfl

/-- How many slots a header names. -/
def logged (h : ByteArray) : Nat :=
  if h.size = 128 ∧ byteAt h 0 ≤ 72 ∧ ∀ i, i < byteAt h 0 → byteAt h (1 + i) < 80 then byteAt h 0 else 0

theorem logged_le (h : ByteArray) : logged h ≤ 72 := by
  unfold logged; split
  · rename_i h; exact h.2.1
  · omega
theorem logged_in (h : ByteArray) (i : Nat) (hi : i < logged h) : h.size = 128 ∧ byteAt h (1 + i) < 80 := by
  unfold logged at hi; split at hi
  · rename_i h; exact ⟨h.1, h.2.2 i hi⟩
  · omega

end Go.Proofs.Qxb6500412aGreat
