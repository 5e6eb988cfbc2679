/-
  OWN WORK. TABLE: the order-keeping codes. No program in sight.
-/
import Derived.Test.Qxb6500412aGreatBNd
namespace Go.Proofs.Qxb6500412aGreat
open Go.RowKit Go.PlainAid
set_option linter.unusedSimpArgs false
set_option linter.unusedVariables false

/-- A string of n bytes. -/
def mkB (n : Nat) (f : Nat → Nat) : ByteArray := ⟨((List.range n).map (fun j => UInt8.ofNat (f j))).toArray⟩
theorem mkB_ls (n : Nat) (f : Nat → Nat) : ls (mkB n f) = (List.range n).map (fun j => UInt8.ofNat (f j)) := by simp [ls, mkB]
theorem mkB_size (n : Nat) (f : Nat → Nat) : (mkB n f).size = n := by rw [← ls_len, mkB_ls]; simp
theorem mkB_congr {n : Nat} {f g : Nat → Nat} (h : ∀ j, j < n → f j = g j) : mkB n f = mkB n g := by
  apply ls_inj
  rw [mkB_ls, mkB_ls]
  apply List.map_congr_left
  intro j hj
  rw [h j (List.mem_range.mp hj)]
/-- Big end first. -/
def beV (l : Str) : Nat := l.foldl (fun a b => a * 256 + b.toNat) 0
theorem beV_from (l : Str) : ∀ a, l.foldl (fun a b => a * 256 + b.toNat) a = a * 256 ^ l.length + beV l := by
  induction l with
  | nil => intro a; simp [beV]
  | cons x r ih =>
    intro a
    have h1 := ih (a * 256 + x.toNat)
    have h2 := ih x.toNat
    unfold beV
    simp only [List.foldl_cons, List.length_cons]
    rw [h1, Nat.zero_mul, Nat.zero_add, h2, Nat.pow_succ]
    rw [Nat.add_mul, Nat.mul_assoc, Nat.mul_comm 256, Nat.add_assoc]
theorem beV_cons (x : UInt8) (r : Str) : beV (x :: r) = x.toNat * 256 ^ r.length + beV r := by
  have := beV_from r x.toNat
  unfold beV
  simp only [List.foldl_cons, Nat.zero_mul, Nat.zero_add]
  exact this
theorem beV_lt (l : Str) : beV l < 256 ^ l.length := by
  induction l with
  | nil => simp [beV]
  | cons x r ih =>
    rw [beV_cons, List.length_cons, Nat.pow_succ]
    have hx : x.toNat < 256 := x.toNat_lt
    calc x.toNat * 256 ^ r.length + beV r < x.toNat * 256 ^ r.length + 256 ^ r.length := by omega
      _ = (x.toNat + 1) * 256 ^ r.length := by rw [Nat.add_mul, Nat.one_mul]
      _ ≤ 256 * 256 ^ r.length := Nat.mul_le_mul_right _ hx
      _ = 256 ^ r.length * 256 := Nat.mul_comm _ _
/-- Strings of one length are ordered as their numbers. -/
theorem bl_be : ∀ a b : Str, a.length = b.length → bl a b = decide (beV a < beV b)
  | [], [], _ => by simp [beV, bl_nil]
  | [], _ :: _, h => by simp at h
  | _ :: _, [], h => by simp at h
  | x :: a, y :: b, h => by
    have hl : a.length = b.length := by simpa using h
    rw [bl_cons, bl_be a b hl, beV_cons, beV_cons, hl]
    have ha := beV_lt a
    have hb := beV_lt b
    rw [hl] at ha
    have hxy : decide (x < y) = decide (x.toNat < y.toNat) := decide_eq_decide.mpr UInt8.lt_iff_toNat_lt
    rw [hxy]
    by_cases c : x = y
    · subst c
      simp
    · have hne : x.toNat ≠ y.toNat := fun e => c (UInt8.toNat_inj.mp e)
      have hb0 : (x == y) = false := by simpa using c
      rw [hb0]
      simp only [Bool.false_and, Bool.or_false]
      by_cases d : x.toNat < y.toNat
      · have : (x.toNat + 1) * 256 ^ b.length ≤ y.toNat * 256 ^ b.length := Nat.mul_le_mul_right _ d
        rw [Nat.add_mul, Nat.one_mul] at this
        rw [decide_eq_true d, decide_eq_true (by omega)]
      · have d2 : y.toNat < x.toNat := by omega
        have : (y.toNat + 1) * 256 ^ b.length ≤ x.toNat * 256 ^ b.length := Nat.mul_le_mul_right _ d2
        rw [Nat.add_mul, Nat.one_mul] at this
        rw [decide_eq_false d, decide_eq_false (by omega)]
theorem beV_inj {a b : Str} (h : a.length = b.length) (e : beV a = beV b) : a = b := by
  rcases bl_total a b with c | c | c
  · rw [bl_be a b h, e] at c; simp at c
  · exact c
  · rw [bl_be b a h.symm, e] at c; simp at c
/-- The code of an int: its eight bytes with the top bit flipped. -/
def cI (i : Int) : ByteArray := mkB 8 (fun j => ((i + 9223372036854775808).toNat / 256 ^ (7 - j)) % 256)
theorem beV_digits : ∀ (k n : Nat), beV ((List.range k).map (fun j => UInt8.ofNat (n / 256 ^ (k - 1 - j) % 256))) = n % 256 ^ k
  | 0, n => by simp [beV, Nat.mod_one]
  | k + 1, n => by
    have e : (List.range (k + 1)).map (fun j => UInt8.ofNat (n / 256 ^ (k + 1 - 1 - j) % 256)) = UInt8.ofNat (n / 256 ^ k % 256) :: (List.range k).map (fun j => UInt8.ofNat (n / 256 ^ (k - 1 - j) % 256)) := by
      rw [List.range_succ_eq_map, List.map_cons, List.map_map]
      congr 1
      apply List.map_congr_left
      intro j hj
      have := List.mem_range.mp hj
      simp only [Function.comp_def]
      rw [show k + 1 - 1 - (j + 1) = k - 1 - j by omega]
    rw [e, beV_cons, beV_digits k n]
    have h1 : (UInt8.ofNat (n / 256 ^ k % 256)).toNat = n / 256 ^ k % 256 := by
      rw [UInt8.toNat_ofNat']
      exact Nat.mod_eq_of_lt (Nat.mod_lt _ (by omega))
    rw [h1]
    simp only [List.length_map, List.length_range]
    rw [Nat.pow_succ, Nat.mod_mul, Nat.mul_comm, Nat.add_comm]
theorem cI_size (i : Int) : (cI i).size = 8 := mkB_size _ _
def In64 (i : Int) : Prop := -9223372036854775808 ≤ i ∧ i < 9223372036854775808
theorem cI_be {i : Int} (h : In64 i) : beV (ls (cI i)) = (i + 9223372036854775808).toNat := by
  unfold cI
  rw [mkB_ls]
  have := beV_digits 8 (i + 9223372036854775808).toNat
  rw [show (fun j => UInt8.ofNat ((i + 9223372036854775808).toNat / 256 ^ (7 - j) % 256)) = (fun j => UInt8.ofNat ((i + 9223372036854775808).toNat / 256 ^ (8 - 1 - j) % 256)) from rfl, this]
  apply Nat.mod_eq_of_lt
  have := h.1
  have := h.2
  omega
theorem cI_lt {a b : Int} (ha : In64 a) (hb : In64 b) : lt (cI a) (cI b) = decide (a < b) := by
  rw [lt_ls, bl_be _ _ (by rw [ls_len, ls_len, cI_size, cI_size]), cI_be ha, cI_be hb]
  have := ha.1
  have := hb.1
  by_cases c : a < b
  · rw [decide_eq_true c, decide_eq_true (by omega)]
  · rw [decide_eq_false c, decide_eq_false (by omega)]
theorem cI_inj {a b : Int} (ha : In64 a) (hb : In64 b) (e : cI a = cI b) : a = b := by
  have h1 := cI_lt ha hb
  have h2 := cI_lt hb ha
  rw [e, lt_irr] at h1 h2
  have := of_decide_eq_false h1.symm
  have := of_decide_eq_false h2.symm
  omega
/-- The code of a string: its bytes, zeros, its length. -/
def padL (s : Str) (m k : Nat) : Str := s ++ List.replicate (m - s.length) 0 ++ [UInt8.ofNat (k + s.length)]
theorem padL_len {s : Str} {m : Nat} (k : Nat) (h : s.length ≤ m) : (padL s m k).length = m + 1 := by simp [padL]; omega
theorem u8_lt {a b : Nat} (ha : a < 256) (hb : b < 256) : (UInt8.ofNat a < UInt8.ofNat b) ↔ a < b := by
  rw [UInt8.lt_iff_toNat_lt, UInt8.toNat_ofNat', UInt8.toNat_ofNat', Nat.mod_eq_of_lt ha, Nat.mod_eq_of_lt hb]
theorem u8_ne {a b : Nat} (ha : a < 256) (hb : b < 256) (h : a ≠ b) : UInt8.ofNat a ≠ UInt8.ofNat b := fun e => by
  have := congrArg UInt8.toNat e
  rw [UInt8.toNat_ofNat', UInt8.toNat_ofNat', Nat.mod_eq_of_lt ha, Nat.mod_eq_of_lt hb] at this
  exact h this
/-- Zeros lie below whatever is longer. -/
theorem pad_low : ∀ (m : Nat) (t : Str) (k k' : Nat), t.length ≤ m → k < k' + t.length → k' + m < 256 → k < 256 → bl (List.replicate m 0 ++ [UInt8.ofNat k]) (padL t m k') = true ∧ bl (padL t m k') (List.replicate m 0 ++ [UInt8.ofNat k]) = false
  | 0, t, k, k', h, hk, h2, h3 => by
    have : t = [] := List.eq_nil_of_length_eq_zero (by omega)
    subst this
    simp only [padL, List.length_nil, Nat.sub_zero, List.replicate_zero, List.nil_append, Nat.add_zero] at *
    rw [bl_cons, bl_cons]
    have h1 : (UInt8.ofNat k < UInt8.ofNat k') := (u8_lt h3 (by omega)).mpr hk
    have h4 : ¬ (UInt8.ofNat k' < UInt8.ofNat k) := fun c => by have := (u8_lt (by omega) h3).mp c; omega
    have h5 : UInt8.ofNat k' ≠ UInt8.ofNat k := u8_ne (by omega) h3 (by omega)
    simp [h1, h4, h5]
  | m + 1, [], k, k', h, hk, h2, h3 => by
    have ih := pad_low m [] k k' (by simp) hk (by omega) h3
    have e : padL [] (m + 1) k' = 0 :: padL [] m k' := by simp [padL, List.replicate_succ]
    rw [e, List.replicate_succ, List.cons_append, bl_cons, bl_cons, ih.1, ih.2]
    simp
  | m + 1, b :: t, k, k', h, hk, h2, h3 => by
    have ih := pad_low m t k (k' + 1) (by simpa using h) (by simp at hk; omega) (by omega) h3
    have e : padL (b :: t) (m + 1) k' = b :: padL t m (k' + 1) := by
      simp only [padL, List.length_cons, List.cons_append, Nat.succ_sub_succ]
      rw [show k' + (t.length + 1) = k' + 1 + t.length by omega]
    rw [e, List.replicate_succ, List.cons_append, bl_cons, bl_cons, ih.1, ih.2]
    by_cases c : b = 0
    · subst c; simp
    · have : (0 : UInt8) < b := by
        rw [UInt8.lt_iff_toNat_lt]
        have : b.toNat ≠ 0 := fun e => c (UInt8.toNat_inj.mp (by simpa using e))
        simp
        omega
      have c2 : ¬ b < 0 := fun d => by rw [UInt8.lt_iff_toNat_lt] at d; simp at d
      simp [this, c, c2]
theorem pad_bl : ∀ (m : Nat) (s t : Str) (k : Nat), s.length ≤ m → t.length ≤ m → k + m < 256 → bl (padL s m k) (padL t m k) = bl s t
  | m, [], [], k, _, _, _ => by rw [bl_irr, bl_irr]
  | m, [], b :: t, k, hs, ht, hk => by
    have h := (pad_low m (b :: t) k k ht (by simp) hk (by omega)).1
    have e : padL [] m k = List.replicate m 0 ++ [UInt8.ofNat k] := by simp [padL]
    rw [e, h]
    rfl
  | m, a :: s, [], k, hs, ht, hk => by
    have h := (pad_low m (a :: s) k k hs (by simp) hk (by omega)).2
    have e : padL [] m k = List.replicate m 0 ++ [UInt8.ofNat k] := by simp [padL]
    rw [e, h, bl_nil]
  | 0, a :: s, b :: t, k, hs, _, _ => by simp at hs
  | m + 1, a :: s, b :: t, k, hs, ht, hk => by
    have ih := pad_bl m s t (k + 1) (by simpa using hs) (by simpa using ht) (by omega)
    have e : ∀ (c : UInt8) (r : Str), padL (c :: r) (m + 1) k = c :: padL r m (k + 1) := fun c r => by
      simp only [padL, List.length_cons, List.cons_append, Nat.succ_sub_succ]
      rw [show k + (r.length + 1) = k + 1 + r.length by omega]
    rw [e, e, bl_cons, bl_cons, ih]
def cP (s : ByteArray) (m : Nat) : ByteArray := mkB (m + 1) (fun j => if j = m then s.size else byteAt s j)
theorem cP_size (s : ByteArray) (m : Nat) : (cP s m).size = m + 1 := mkB_size _ _
theorem ofNat_byteAt {s : ByteArray} {j : Nat} (h : j < s.size) : UInt8.ofNat (byteAt s j) = (ls s)[j]'(by rw [ls_len]; exact h) := by
  rw [byteAt_get s j h]
  apply UInt8.toNat_inj.mp
  rw [UInt8.toNat_ofNat', Nat.mod_eq_of_lt (UInt8.toNat_lt _)]
  rfl
theorem byteAt_out' {s : ByteArray} {j : Nat} (h : s.size ≤ j) : byteAt s j = 0 := by
  unfold byteAt
  rw [List.getD_eq_getElem?_getD, List.getElem?_eq_none (by simpa using h)]
  rfl
theorem cP_ls {s : ByteArray} {m : Nat} (h : s.size ≤ m) : ls (cP s m) = padL (ls s) m 0 := by
  unfold cP padL
  rw [mkB_ls]
  apply List.ext_getElem
  · simp [ls_len]; omega
  · intro j h1 h2
    have hj : j < m + 1 := by simpa using h1
    simp only [List.getElem_map, List.getElem_range]
    by_cases c : j = m
    · subst c
      rw [if_pos rfl, List.getElem_append_right (by simp [ls_len]; omega)]
      simp [ls_len]
    · rw [if_neg c, List.getElem_append_left (by simp [ls_len]; omega)]
      by_cases d : j < s.size
      · rw [List.getElem_append_left (by rw [ls_len]; exact d), ofNat_byteAt d]
      · rw [List.getElem_append_right (by rw [ls_len]; omega), byteAt_out' (by omega)]
        simp
theorem cP_lt {s t : ByteArray} {m : Nat} (hm : m < 256) (hs : s.size ≤ m) (ht : t.size ≤ m) : lt (cP s m) (cP t m) = lt s t := by
  rw [lt_ls, lt_ls, cP_ls hs, cP_ls ht, pad_bl m _ _ 0 (by rw [ls_len]; exact hs) (by rw [ls_len]; exact ht) (by omega)]
theorem cP_inj {s t : ByteArray} {m : Nat} (hm : m < 256) (hs : s.size ≤ m) (ht : t.size ≤ m) (e : cP s m = cP t m) : s = t := by
  have h1 := cP_lt hm hs ht
  have h2 := cP_lt hm ht hs
  rw [e, lt_irr] at h1 h2
  rcases lt_total s t with c | c | c
  · rw [c] at h1; cases h1
  · exact c
  · rw [c] at h2; cases h2
/-- A value: an int or a string. -/
structure Vl where
  str : Bool
  i : Int
  s : ByteArray
deriving DecidableEq
def vI (i : Int) : Vl := ⟨false, i, ⟨#[]⟩⟩
def vS (s : ByteArray) : Vl := ⟨true, 0, s⟩
/-- Well made: an int within its bounds, or a string. -/
def Vl.wf (v : Vl) : Prop := (v.str = false ∧ v.s = ⟨#[]⟩ ∧ In64 v.i) ∨ (v.str = true ∧ v.i = 0)
/-- It may be stored. -/
def Vl.fit (v : Vl) : Prop := v.wf ∧ v.s.size ≤ 7
def cV (v : Vl) : ByteArray := if v.str then cP v.s 7 else cI v.i
theorem cV_size (v : Vl) : (cV v).size = 8 := by
  unfold cV
  split
  · exact cP_size _ _
  · exact cI_size _
/-- The order of values. -/
def vcmp (a b : Vl) : Int := if a.str ≠ b.str then (if b.str then -1 else 1) else if a.str then (if lt a.s b.s then -1 else if lt b.s a.s then 1 else 0) else (if a.i < b.i then -1 else if b.i < a.i then 1 else 0)
theorem Vl.fit_str {v : Vl} (h : v.fit) (hs : v.str = true) : v = vS v.s := by
  rcases h.1 with c | c
  · rw [c.1] at hs; cases hs
  · cases v
    simp at c hs
    unfold vS
    simp [c]
theorem Vl.fit_int {v : Vl} (h : v.fit) (hs : v.str = false) : v = vI v.i ∧ In64 v.i := by
  rcases h.1 with c | c
  · refine ⟨?_, c.2.2⟩
    cases v
    simp at c
    unfold vI
    simp [c]
  · rw [c.1] at hs; cases hs
/-- Values of one type are ordered as their codes. -/
theorem cV_lt {a b : Vl} (ha : a.fit) (hb : b.fit) (hs : a.str = b.str) : lt (cV a) (cV b) = decide (vcmp a b < 0) := by
  have hn : ¬ (a.str ≠ b.str) := fun c => c hs
  unfold cV vcmp
  rw [if_neg hn]
  cases h : a.str with
  | true =>
    have h2 : b.str = true := by rw [← hs]; exact h
    rw [h2]
    simp only [if_true]
    rw [cP_lt (by omega) ha.2 hb.2]
    cases c : lt a.s b.s with
    | true => simp
    | false =>
      simp only [Bool.false_eq_true, if_false]
      cases lt b.s a.s <;> simp
  | false =>
    have h2 : b.str = false := by rw [← hs]; exact h
    obtain ⟨_, i1⟩ := Vl.fit_int ha h
    obtain ⟨_, i2⟩ := Vl.fit_int hb h2
    rw [h2]
    simp only [Bool.false_eq_true, if_false]
    rw [cI_lt i1 i2]
    by_cases c : a.i < b.i
    · simp [c]
    · rw [if_neg c]
      by_cases d : b.i < a.i
      · simp [c, d]
      · simp [c, d]
theorem cV_inj {a b : Vl} (ha : a.fit) (hb : b.fit) (hs : a.str = b.str) (e : cV a = cV b) : a = b := by
  unfold cV at e
  cases h : a.str with
  | true =>
    have h2 : b.str = true := by rw [← hs]; exact h
    rw [h, h2] at e
    simp only [if_true] at e
    rw [Vl.fit_str ha h, Vl.fit_str hb h2, cP_inj (by omega) ha.2 hb.2 e]
  | false =>
    have h2 : b.str = false := by rw [← hs]; exact h
    rw [h, h2] at e
    simp only [Bool.false_eq_true, if_false] at e
    obtain ⟨e1, i1⟩ := Vl.fit_int ha h
    obtain ⟨e2, i2⟩ := Vl.fit_int hb h2
    rw [e1, e2, cI_inj i1 i2 e]
end Go.Proofs.Qxb6500412aGreat
