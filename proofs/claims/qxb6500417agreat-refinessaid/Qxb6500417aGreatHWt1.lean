/-
  OWN WORK. THE GRAPH's MODEL: api's Weight: the key of a directory.
-/
import Derived.Test.Qxb6500417aGreatHItoa
namespace Go.Proofs.Qxb6500417aGreat
open Go.RowKit Go.PlainAid
set_option linter.unusedSimpArgs false
set_option linter.unusedVariables false

theorem str_add (p q : ByteArray) (h : p.size + q.size ≤ 1000000) : binOp .add 9 (.string p) (.string q) = pure (.string (p ++ q)) := by
  simp [binOp, Op.stringOp]
  intro h'
  exfalso
  omega
theorem digL_len : ∀ f n, (digL f n).length ≤ f
  | 0, n => by simp [digL]
  | f + 1, n => by
    unfold digL
    split
    · simp
    · have := digL_len f (n / 10)
      simp; omega
theorem itoa_len (n : Nat) : (itoaS n).length ≤ 20 := by
  unfold itoaS
  split
  · simp
  · exact digL_len 20 n
/-- A file that the store can hold. -/
structure FlS (f : Fl) : Prop where
  p : f.path.size ≤ 500
  d : f.data.size ≤ 500
  m0 : 0 ≤ f.mode
  m : f.mode ≤ 500
theorem relF_snoc (l : List Fl) (f : Fl) (d : Str) : relF (l ++ [f]) d = relF l d ++ (if preB d (ls f.path) = true then [⟨sb ((ls f.path).drop d.length), f.data, f.mode⟩] else []) := by
  unfold relF
  rw [List.filterMap_append]
  congr 1
  by_cases h : preB d (ls f.path) = true
  · rw [if_pos h]; simp [h]
  · rw [if_neg h]; simp [h]
theorem keyL_snoc (l : List Fl) (f : Fl) : keyL (l ++ [f]) = keyL l ++ encF f := by simp [keyL]
/-- The key so far. -/
def keyT' (l : List Fl) (d : ByteArray) (i : Nat) : Str := keyL (relF (l.take i) (ls d))
theorem keyT_no {l : List Fl} {d : ByteArray} {i : Nat} (hi : i < l.length) (h : preB (ls d) (ls (l[i]).path) = false) : keyT' l d (i + 1) = keyT' l d i := by
  unfold keyT'
  rw [← take_snoc hi, relF_snoc, if_neg (by rw [h]; simp), List.append_nil]
theorem keyT_yes {l : List Fl} {d : ByteArray} {i : Nat} (hi : i < l.length) (h : preB (ls d) (ls (l[i]).path) = true) : keyT' l d (i + 1) = keyT' l d i ++ encF ⟨sb ((ls (l[i]).path).drop (ls d).length), (l[i]).data, (l[i]).mode⟩ := by
  unfold keyT'
  rw [← take_snoc hi, relF_snoc, if_pos h, keyL_snoc]
theorem ba_append (a b : ByteArray) : a ++ b = sb (ls a ++ ls b) := by apply ls_inj; rw [ls_cat, ls_sb]
end Go.Proofs.Qxb6500417aGreat
