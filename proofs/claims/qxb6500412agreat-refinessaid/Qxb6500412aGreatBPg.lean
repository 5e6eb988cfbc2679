/-
  OWN WORK. THE B-TREE: a page laid field by field. No program in sight.
-/
import Derived.Test.Qxb6500412aGreatBStr
namespace Go.Proofs.Qxb6500412aGreat
open Go.RowKit Go.PlainAid
set_option linter.unusedSimpArgs false
set_option linter.unusedVariables false

theorem strF_congr {f g : Nat → Nat} (h : ∀ j, j < 128 → f j = g j) : strF f = strF g := by
  unfold strF
  congr 2
  apply List.map_congr_left
  intro j hj
  rw [h j (by simpa using hj)]
theorem byteAt_out (s : ByteArray) (i : Nat) (h : s.size ≤ i) : byteAt s i = 0 := by
  unfold byteAt
  rw [List.getD_eq_getElem?_getD, List.getElem?_eq_none (by simpa using h)]
  rfl
theorem fld_out {s : ByteArray} {o : Nat} (h : s.size < o) : fld s o = 0 := by
  unfold fld
  rw [if_neg (by omega), byteAt_out _ _ (by omega)]
theorem lfF_zero (n : Nat) (es : Nat → KV) : ∀ j, j < 128 → (if j = 1 then n else if j = 0 then 1 else 0) = lfF n 0 es j := by
  intro j hj
  unfold lfF
  by_cases h0 : j = 0
  · subst h0; simp
  · by_cases h1 : j = 1
    · rw [if_pos h1, if_neg h0, if_pos h1]
    · rw [if_neg h1, if_neg h0, if_neg h0, if_neg h1]
      split
      · rfl
      · rw [if_neg (by omega)]
theorem lfF_succ (n m : Nat) (es : Nat → KV) (h1 : (es m).1.size ≤ 16) (h2 : (es m).2.size ≤ 16) : ∀ j, j < 128 → putF (putF (lfF n m es) (4 + m * 34) (es m).1 (es m).1.size) (4 + m * 34 + 17) (es m).2 (es m).2.size j = lfF n (m + 1) es j := by
  intro j hj
  unfold putF
  by_cases a : 4 + m * 34 + 17 ≤ j ∧ j ≤ 4 + m * 34 + 17 + (es m).2.size
  · rw [if_pos a]
    unfold lfF
    have e1 : (j - 4) / 34 = m := by omega
    have e2 : (j - 4) % 34 - 17 = j - (4 + m * 34 + 17) := by omega
    rw [if_neg (by omega), if_neg (by omega), if_neg (by omega), if_pos (by omega), if_neg (by omega), e1, e2]
  · rw [if_neg a]
    by_cases b : 4 + m * 34 ≤ j ∧ j ≤ 4 + m * 34 + (es m).1.size
    · rw [if_pos b]
      unfold lfF
      have e1 : (j - 4) / 34 = m := by omega
      have e2 : (j - 4) % 34 = j - (4 + m * 34) := by omega
      rw [if_neg (by omega), if_neg (by omega), if_neg (by omega), if_pos (by omega), if_pos (by omega), e1, e2]
    · rw [if_neg b]
      unfold lfF
      by_cases c0 : j = 0
      · rw [if_pos c0, if_pos c0]
      · rw [if_neg c0, if_neg c0]
        by_cases c1 : j = 1
        · rw [if_pos c1, if_pos c1]
        · rw [if_neg c1, if_neg c1]
          by_cases c4 : j < 4
          · rw [if_pos c4, if_pos c4]
          · rw [if_neg c4, if_neg c4]
            by_cases d : (j - 4) / 34 < m
            · rw [if_pos d, if_pos (show (j - 4) / 34 < m + 1 by omega)]
            · rw [if_neg d]
              by_cases d2 : (j - 4) / 34 < m + 1
              · rw [if_pos d2]
                have e1 : (j - 4) / 34 = m := by omega
                rw [e1]
                by_cases d3 : (j - 4) % 34 < 17
                · rw [if_pos d3, fld_out (by omega)]
                · rw [if_neg d3, fld_out (by omega)]
              · rw [if_neg d2]
theorem inF_zero (n : Nat) (kids : Nat → Nat) (seps : Nat → ByteArray) : ∀ j, j < 128 → (if j = 1 then n else if j = 0 then 2 else 0) = inF n 0 0 kids seps j := by
  intro j hj
  unfold inF
  by_cases h0 : j = 0
  · subst h0; simp
  · by_cases h1 : j = 1
    · rw [if_pos h1, if_neg h0, if_pos h1]
    · rw [if_neg h1, if_neg h0, if_neg h0, if_neg h1]
      split
      · rfl
      · split
        · rw [if_neg (by omega)]
        · rw [if_neg (by omega)]
theorem inF_kid (n c : Nat) (kids : Nat → Nat) (seps : Nat → ByteArray) (hc : c < 4) : ∀ j, j < 128 → (if j = 4 + c then kids c else inF n c 0 kids seps j) = inF n (c + 1) 0 kids seps j := by
  intro j hj
  by_cases a : j = 4 + c
  · rw [if_pos a]
    unfold inF
    have e : j - 4 = c := by omega
    rw [if_neg (by omega), if_neg (by omega), if_neg (by omega), if_pos (by omega), if_pos (by omega), e]
  · rw [if_neg a]
    unfold inF
    split
    · rfl
    · split
      · rfl
      · split
        · rfl
        · split
          · by_cases d : j - 4 < c
            · rw [if_pos d, if_pos (by omega)]
            · rw [if_neg d, if_neg (by omega)]
          · rfl
theorem inF_sep (n c m : Nat) (kids : Nat → Nat) (seps : Nat → ByteArray) (h1 : (seps m).size ≤ 16) : ∀ j, j < 128 → putF (inF n c m kids seps) (8 + m * 17) (seps m) (seps m).size j = inF n c (m + 1) kids seps j := by
  intro j hj
  unfold putF
  by_cases b : 8 + m * 17 ≤ j ∧ j ≤ 8 + m * 17 + (seps m).size
  · rw [if_pos b]
    unfold inF
    have e1 : (j - 8) / 17 = m := by omega
    have e2 : (j - 8) % 17 = j - (8 + m * 17) := by omega
    rw [if_neg (by omega), if_neg (by omega), if_neg (by omega), if_neg (by omega), if_pos (by omega), e1, e2]
  · rw [if_neg b]
    unfold inF
    split
    · rfl
    · split
      · rfl
      · split
        · rfl
        · split
          · rfl
          · by_cases d : (j - 8) / 17 < m
            · rw [if_pos d, if_pos (show (j - 8) / 17 < m + 1 by omega)]
            · rw [if_neg d]
              by_cases d2 : (j - 8) / 17 < m + 1
              · rw [if_pos d2]
                have e1 : (j - 8) / 17 = m := by omega
                rw [e1, fld_out (by omega)]
              · rw [if_neg d2]
theorem run_conv_strF {w : World} {g : Nat} {f : Nat → Nat} (h : Has w g (tabV 128 (u8f f)) 5) (hf : ∀ j, j < 128 → f j < 256) : (convert 282 137 (.slice (some ⟨g, 0, none⟩) 128 128)).run Tryz.prog w = .ok (.string (strF f)) w := by
  have := run_convert_bytes_back (P := Tryz.prog) w 282 137 5 ⟨g, 0, none⟩ 128 ((List.range 128).map (fun j => UInt8.ofNat (f j))) Tryz.underlying282 Tryz.underlying5 Tryz.underlying137 (fun j hj => by
    have hj2 : j < 128 := by simpa using hj
    rw [addr_add, h.cell, u8_get _ _ _ (by simpa using hj2)]
    simp
    have := hf j hj2
    omega)
  simp only [List.length_map, List.length_range] at this
  exact this
end Go.Proofs.Qxb6500412aGreat
