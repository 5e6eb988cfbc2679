/-
  OWN WORK. THE B-TREE: strings in order; a node and its page. No program in sight.
-/
import Derived.Test.Qxb6500412aGreatPlain
import Derived.PlainAid
import Derived.Laws.Cover1
namespace Go.Proofs.Qxb6500412aGreat
open Go.RowKit Go.PlainAid
set_option linter.unusedSimpArgs false
set_option linter.unusedVariables false

abbrev Str := List UInt8
def ls (s : ByteArray) : Str := s.data.toList
theorem ls_toList (s : ByteArray) : s.toList = ls s := ByteArray.toList_eq s
theorem ls_len (s : ByteArray) : (ls s).length = s.size := by simp [ls]
theorem ls_inj {a b : ByteArray} (h : ls a = ls b) : a = b := by
  cases a; cases b
  simp [ls] at h
  rw [h]
theorem ls_cut (s : ByteArray) (a b : Nat) : ls (s.extract a b) = ((ls s).drop a).take (b - a) := by
  simp [ls, List.extract_eq_take_drop]
/- The order of strings. -/
abbrev bl (a b : Str) : Bool := Op.bytesLess a b
theorem bl_nil (a : Str) : bl a [] = false := by cases a <;> rfl
theorem bl_cons (a b : UInt8) (x y : Str) : bl (a :: x) (b :: y) = (decide (a < b) || (a == b && bl x y)) := rfl
theorem bl_irr : ∀ a : Str, bl a a = false
  | [] => rfl
  | a :: x => by rw [bl_cons, bl_irr x]; simp
theorem bl_trans : ∀ a b c : Str, bl a b = true → bl b c = true → bl a c = true
  | a, [], c, h, _ => by rw [bl_nil] at h; cases h
  | a, b, [], _, h => by rw [bl_nil] at h; cases h
  | [], b :: y, c :: z, _, _ => rfl
  | a :: x, b :: y, c :: z, h1, h2 => by
    rw [bl_cons] at h1 h2 ⊢
    simp only [Bool.or_eq_true, Bool.and_eq_true, decide_eq_true_eq, beq_iff_eq] at h1 h2 ⊢
    rcases h1 with h1 | ⟨rfl, h1⟩
    · rcases h2 with h2 | ⟨rfl, h2⟩
      · exact .inl (UInt8.lt_trans h1 h2)
      · exact .inl h1
    · rcases h2 with h2 | ⟨rfl, h2⟩
      · exact .inl h2
      · exact .inr ⟨rfl, bl_trans x y z h1 h2⟩
theorem bl_total : ∀ a b : Str, bl a b = true ∨ a = b ∨ bl b a = true
  | [], [] => .inr (.inl rfl)
  | [], _ :: _ => .inl rfl
  | _ :: _, [] => .inr (.inr rfl)
  | a :: x, b :: y => by
    rw [bl_cons, bl_cons]
    by_cases h : a = b
    · subst h
      rcases bl_total x y with h | h | h
      · left; simp [h]
      · right; left; rw [h]
      · right; right; simp [h]
    · have : a < b ∨ b < a := by
        rcases UInt8.lt_or_lt_of_ne h with h | h
        · exact .inl h
        · exact .inr h
      rcases this with h | h
      · left; simp [h]
      · right; right; simp [h]
/-- a < b. -/
def lt (a b : ByteArray) : Bool := Op.bytesLess a.toList b.toList
theorem lt_ls (a b : ByteArray) : lt a b = bl (ls a) (ls b) := by unfold lt; rw [ls_toList, ls_toList]
theorem lt_irr (a : ByteArray) : lt a a = false := by rw [lt_ls]; exact bl_irr _
theorem lt_trans {a b c : ByteArray} (h1 : lt a b = true) (h2 : lt b c = true) : lt a c = true := by
  rw [lt_ls] at *
  exact bl_trans _ _ _ h1 h2
theorem lt_asymm {a b : ByteArray} (h : lt a b = true) : lt b a = false := by
  cases h2 : lt b a with
  | false => rfl
  | true => have := lt_trans h h2; rw [lt_irr] at this; cases this
theorem lt_total (a b : ByteArray) : lt a b = true ∨ a = b ∨ lt b a = true := by
  rw [lt_ls, lt_ls]
  rcases bl_total (ls a) (ls b) with h | h | h
  · exact .inl h
  · exact .inr (.inl (ls_inj h))
  · exact .inr (.inr h)
theorem lt_ne {a b : ByteArray} (h : lt a b = true) : a ≠ b := fun e => by rw [e, lt_irr] at h; cases h
/-- b ≤ a and b < c give ... -/
theorem le_lt_trans {a b c : ByteArray} (h1 : lt b a = false) (h2 : lt b c = true) : lt a c = true ∨ a = b ∨ True := .inr (.inr trivial)
theorem not_lt {a b : ByteArray} (h : lt a b = false) : a = b ∨ lt b a = true := by
  rcases lt_total a b with e | e | e
  · rw [h] at e; cases e
  · exact .inl e
  · exact .inr e
theorem ge_trans {a b c : ByteArray} (h1 : lt a b = false) (h2 : lt b c = false) : lt a c = false := by
  rcases not_lt h1 with e | e
  · rw [e]; exact h2
  · rcases not_lt h2 with e2 | e2
    · rw [← e2]; exact h1
    · exact lt_asymm (lt_trans e2 e)
theorem lt_ge {a b c : ByteArray} (h1 : lt a b = true) (h2 : lt c b = false) : lt a c = true := by
  rcases not_lt h2 with e | e
  · rw [e]; exact h1
  · exact lt_trans h1 e

abbrev KV := ByteArray × ByteArray
/-- A node: a leaf's entries; an inner node's children (pages) and separators. -/
inductive Nd where
  | lf (es : List KV)
  | inn (kids : List Nat) (seps : List ByteArray)
def kvD : KV := (⟨#[]⟩, ⟨#[]⟩)
/-- The bytes of a string in a field of 16. -/
def fld (s : ByteArray) (o : Nat) : Nat := if o = 0 then s.size else byteAt s (o - 1)
/-- A leaf's page, byte for byte; m: how many entries are laid, n: the number in byte 1. -/
def lfF (n m : Nat) (es : Nat → KV) (j : Nat) : Nat :=
  if j = 0 then 1 else if j = 1 then n else if j < 4 then 0
  else if (j - 4) / 34 < m then (if (j - 4) % 34 < 17 then fld (es ((j - 4) / 34)).1 ((j - 4) % 34) else fld (es ((j - 4) / 34)).2 ((j - 4) % 34 - 17)) else 0
/-- An inner node's page: c children and m separators are laid. -/
def inF (n c m : Nat) (kids : Nat → Nat) (seps : Nat → ByteArray) (j : Nat) : Nat :=
  if j = 0 then 2 else if j = 1 then n else if j < 4 then 0 else if j < 8 then (if j - 4 < c then kids (j - 4) else 0)
  else if (j - 8) / 17 < m then fld (seps ((j - 8) / 17)) ((j - 8) % 17) else 0
def pageF : Nd → Nat → Nat
  | .lf es => lfF es.length es.length (fun i => es.getD i kvD)
  | .inn kids seps => inF kids.length kids.length seps.length (fun i => kids.getD i 0) (fun i => seps.getD i ⟨#[]⟩)
def strF (f : Nat → Nat) : ByteArray := ⟨((List.range 128).map (fun j => UInt8.ofNat (f j))).toArray⟩
def page (nd : Nd) : ByteArray := strF (pageF nd)
theorem strF_size (f : Nat → Nat) : (strF f).size = 128 := by simp [strF, ByteArray.size]
theorem strF_at (f : Nat → Nat) (j : Nat) (hj : j < 128) (h8 : f j < 256) : byteAt (strF f) j = f j := by
  unfold byteAt strF
  rw [List.getD_eq_getElem?_getD]
  simp [hj]
  omega
/-- A node that a page can hold. -/
def WfN : Nd → Prop
  | .lf es => es.length ≤ 3 ∧ ∀ e ∈ es, e.1.size ≤ 16 ∧ e.2.size ≤ 16
  | .inn kids seps => 1 ≤ kids.length ∧ kids.length ≤ 4 ∧ seps.length + 1 = kids.length ∧ (∀ k ∈ kids, k < 256) ∧ ∀ s ∈ seps, s.size ≤ 16
theorem fld_lt {s : ByteArray} (h : s.size ≤ 16) (o : Nat) : fld s o < 256 := by
  unfold fld
  split
  · omega
  · exact byteAt_lt _ _
theorem lfF_lt {n m : Nat} {es : Nat → KV} (hn : n < 256) (h : ∀ i, i < m → (es i).1.size ≤ 16 ∧ (es i).2.size ≤ 16) (j : Nat) : lfF n m es j < 256 := by
  unfold lfF
  split
  · omega
  · split
    · omega
    · split
      · omega
      · split
        · rename_i hi
          split
          · exact fld_lt (h _ hi).1 _
          · exact fld_lt (h _ hi).2 _
        · omega
theorem inF_lt {n c m : Nat} {kids : Nat → Nat} {seps : Nat → ByteArray} (hn : n < 256) (hk : ∀ i, i < c → kids i < 256) (hs : ∀ i, i < m → (seps i).size ≤ 16) (j : Nat) : inF n c m kids seps j < 256 := by
  unfold inF
  split
  · omega
  · split
    · omega
    · split
      · omega
      · split
        · split
          · rename_i hi; exact hk _ hi
          · omega
        · split
          · rename_i hi; exact fld_lt (hs _ hi) _
          · omega
/-- A field read back. -/
theorem fld_cut {f : Nat → Nat} {s : ByteArray} {at_ : Nat} (h16 : s.size ≤ 16) (hat : at_ + 17 ≤ 128) (hf : ∀ o, 1 ≤ o → o ≤ s.size → f (at_ + o) = fld s o) : (strF f).extract (at_ + 1) (at_ + 1 + s.size) = s := by
  apply ls_inj
  rw [ls_cut]
  have e : at_ + 1 + s.size - (at_ + 1) = s.size := by omega
  rw [e]
  apply List.ext_getElem
  · simp [ls, strF]
    omega
  · intro i h1 h2
    have hi : i < s.size := by rw [← ls_len]; exact h2
    have := hf (i + 1) (by omega) (by omega)
    simp [ls, strF]
    have e2 : at_ + 1 + i = at_ + (i + 1) := by omega
    rw [e2, this]
    unfold fld
    rw [if_neg (by omega)]
    have e3 : i + 1 - 1 = i := by omega
    rw [e3]
    unfold byteAt
    rw [List.getD_eq_getElem?_getD, List.getElem?_eq_getElem (by simpa using hi)]
    simp
end Go.Proofs.Qxb6500412aGreat
