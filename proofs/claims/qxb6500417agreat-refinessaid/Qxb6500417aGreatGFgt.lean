/-
  OWN WORK. THE GRAPH: forget.
-/
import Derived.Test.Qxb6500417aGreatGSwp
namespace Go.Proofs.Qxb6500417aGreat
open Go.RowKit Go.PlainAid
set_option linter.unusedSimpArgs false
set_option linter.unusedVariables false

def fks (T : Gt) (x i : Nat) : List Nat := (T.os.take i).filter (fun j => x.testBit j)
def fcs (T : Gt) (x i : Nat) : Nat → Cr := fun j => if ((T.os.take i).contains j && !x.testBit j) = true then Cr.zero else T.c j
def fos (T : Gt) (x i : Nat) : Nat → Nat := fun k => (fks T x i).getD k (T.o k)
def fzs (T : Gt) (x i : Nat) : Nat → Nat := fun k => if (fks T x T.n).length ≤ k ∧ k < i then 0 else fos T x T.n k
/-- The tables behind forget. -/
def fgT (T : Gt) (x : Nat) : Gt := { T with c := fcs T x T.n, o := fun k => (fks T x T.n).getD k 0, n := (fks T x T.n).length }
section
variable {T : Gt} {x i : Nat}
theorem os_take (hi : i < T.n) : T.os.take (i + 1) = T.os.take i ++ [T.o i] := by
  rw [List.take_add_one, getD_os hi]; rfl
theorem fks_yes (hi : i < T.n) (hb : x.testBit (T.o i) = true) : fks T x (i + 1) = fks T x i ++ [T.o i] := by
  unfold fks
  rw [os_take hi, List.filter_append]
  simp [hb]
theorem fks_no (hi : i < T.n) (hb : x.testBit (T.o i) = false) : fks T x (i + 1) = fks T x i := by
  unfold fks
  rw [os_take hi, List.filter_append]
  simp [hb]
theorem fks_len (T : Gt) (x i : Nat) : (fks T x i).length ≤ i := by
  have h1 := List.length_filter_le (fun j => x.testBit j) (T.os.take i)
  have h2 := List.length_take_le i T.os
  unfold fks
  omega
theorem fks_lenN (T : Gt) (x i : Nat) : (fks T x i).length ≤ T.n := by
  have h1 := List.length_filter_le (fun j => x.testBit j) (T.os.take i)
  have h2 := List.length_take_le' i T.os
  rw [os_len] at h2
  unfold fks
  omega
theorem fcs_yes (hi : i < T.n) (hb : x.testBit (T.o i) = true) : fcs T x (i + 1) = fcs T x i := by
  funext j
  unfold fcs
  rw [os_take hi]
  by_cases e : j = T.o i
  · rw [e, hb]; simp
  · have : ((T.os.take i ++ [T.o i]).contains j) = (T.os.take i).contains j := by
      rw [Bool.eq_iff_iff]
      simp only [List.contains_iff_mem, List.mem_append, List.mem_singleton]
      exact ⟨fun h => h.resolve_right e, .inl⟩
    rw [this]
theorem fcs_no (hi : i < T.n) (hb : x.testBit (T.o i) = false) : fcs T x (i + 1) = updT (fcs T x i) (T.o i) Cr.zero := by
  funext j
  by_cases e : j = T.o i
  · rw [e, updT_same]
    unfold fcs
    rw [os_take hi, hb]; simp
  · rw [updT_other _ _ _ _ e]
    unfold fcs
    rw [os_take hi]
    have : ((T.os.take i ++ [T.o i]).contains j) = (T.os.take i).contains j := by
      rw [Bool.eq_iff_iff]
      simp only [List.contains_iff_mem, List.mem_append, List.mem_singleton]
      exact ⟨fun h => h.resolve_right e, .inl⟩
    rw [this]
theorem fos_yes (hi : i < T.n) (hb : x.testBit (T.o i) = true) : fos T x (i + 1) = updT (fos T x i) (fks T x i).length (T.o i) := by
  funext k
  unfold fos
  rw [fks_yes hi hb]
  by_cases e : k = (fks T x i).length
  · subst e
    rw [updT_same]
    simp [List.getD_eq_getElem?_getD]
  · rw [updT_other _ _ _ _ e]
    simp only [List.getD_eq_getElem?_getD]
    by_cases hlt : k < (fks T x i).length
    · rw [List.getElem?_append_left hlt]
    · rw [List.getElem?_eq_none (by simp; omega), List.getElem?_eq_none (by omega)]
theorem fos_no (hi : i < T.n) (hb : x.testBit (T.o i) = false) : fos T x (i + 1) = fos T x i := by
  unfold fos
  rw [fks_no hi hb]
theorem fos_at {k : Nat} (hk : (fks T x i).length ≤ k) : fos T x i k = T.o k := by
  unfold fos
  rw [List.getD_eq_getElem?_getD, List.getElem?_eq_none hk]; rfl
theorem fcs_zero (T : Gt) (x : Nat) : fcs T x 0 = T.c := by funext j; simp [fcs]
theorem fos_zero (T : Gt) (x : Nat) : fos T x 0 = T.o := by funext j; simp [fos, fks]
theorem fzs_start (T : Gt) (x : Nat) : fzs T x (fks T x T.n).length = fos T x T.n := by
  funext k
  unfold fzs
  rw [if_neg (by omega)]
theorem fzs_step (T : Gt) {x i : Nat} (h : (fks T x T.n).length ≤ i) : fzs T x (i + 1) = updT (fzs T x i) i 0 := by
  funext k
  by_cases e : k = i
  · subst e
    rw [updT_same]
    unfold fzs
    rw [if_pos ⟨h, by omega⟩]
  · rw [updT_other _ _ _ _ e]
    unfold fzs
    by_cases h1 : (fks T x T.n).length ≤ k ∧ k < i
    · rw [if_pos h1, if_pos ⟨h1.1, by omega⟩]
    · rw [if_neg h1, if_neg (by omega)]
theorem fzs_end (hz : ∀ k, T.n ≤ k → T.o k = 0) : fzs T x T.n = fun k => (fks T x T.n).getD k 0 := by
  funext k
  unfold fzs
  by_cases h1 : (fks T x T.n).length ≤ k
  · rw [List.getD_eq_getElem?_getD, List.getElem?_eq_none h1]
    by_cases h2 : k < T.n
    · rw [if_pos ⟨h1, h2⟩]; rfl
    · rw [if_neg (by omega), fos_at h1, hz k (by omega)]; rfl
  · rw [if_neg (by omega)]
    unfold fos
    simp only [List.getD_eq_getElem?_getD]
    rw [List.getElem?_eq_getElem (by omega)]; rfl
end
section
variable {w : World} {g t : Nat} {T : Gt}
set_option maxRecDepth 100000 in
set_option maxHeartbeats 4000000 in
theorem gforget_any (h : GH w g t T) (hO : OrdI T.c T.o T.n) (x : Nat) (hx : x < 18446744073709551616) :
    Calls Tryz.prog 159 #[.pointer (some ⟨g, 0, none⟩), .int .u64 x] w fun e w' => e = .returned (.tuple #[]) ∧ GH w' g t (fgT T x) ∧ Only (fun y => y = g) w w' := by
  have hn := hO.n40
  have HO := hide hO
  have H0 := hide h
  clear h hO
  go_enter Tryz.func159, Tryz.ntmps159
  go_wp2_with fail
  go_loopw [4, 5] (fun nv iv wr => ∃ n i : Nat, iv = .int .i64 i ∧ i ≤ T.n ∧ nv = .int .i64 n ∧ n = (fks T x i).length ∧ GH wr g t { T with c := fcs T x i, o := fos T x i } ∧ Only (fun y => y = g) w wr) (fun _ iv _ => T.n - (intOf iv).toNat)
  case atStart => exact ⟨0, 0, rfl, by omega, rfl, by simp [fks], by rw [fcs_zero, fos_zero]; exact unhide H0, Only.refl _ _⟩
  case round =>
    clear H0
    obtain ⟨n, i, rfl, hi, rfl, hnl, hG, hOn⟩ := hrel
    have hni := fks_len T x i
    rw [← hnl] at hni
    by_cases hil : i < T.n
    · have a1 : decide ((i : Int) < (T.n : Int)) = true := decide_eq_true (by omega)
      have a1n : decide (i < T.n) = true := decide_eq_true hil
      have a2 : (i : Int) < 48 := by omega
      have a3 : (n : Int) < 48 := by omega
      have cn := hG.n_.1
      have co : wr.cell? ⟨g, 295 + i, none⟩ = some (.int .i64 (T.o i : Int)) := by
        have := (hG.ord i (by omega)).1
        rw [← fos_at (T := T) (x := x) (i := i) (k := i) (by omega)]
        exact this
      have hC := (unhide HO).oin i hil
      have hcl : T.o i < 49 := by have := hC.1.2; omega
      obtain ⟨b, hb⟩ : ∃ b, (2 : Nat) ^ T.o i = b := ⟨_, rfl⟩
      have C7 := hide (gbit_any (T.o i) (by omega) b hb.symm wr)
      have hbl : b < 18446744073709551616 := by rw [← hb]; exact pow64 _ (by omega)
      obtain ⟨z, hz⟩ : ∃ z, x &&& b = z := ⟨_, rfl⟩
      have e3 := bits_and_u64_nat x b hx hbl
      rw [hz] at e3
      have hap := and_pow x (T.o i)
      rw [hb, hz] at hap
      have a4 : (T.o i : Int) < 49 := by omega
      clear hz hb hC
      cases hmk : x.testBit (T.o i) with
      | true =>
        rw [hmk] at hap
        have hz0' : ((z : Int) == 0) = false := by
          have : ((z : Int) != 0) = true := hap
          simpa using this
        have w1 := hG.ord n (by omega)
        obtain ⟨w1a, w1b⟩ := w1
        have hP := hG.putO n (by omega) (T.o i)
        have hP' : GH (wr.setCell ⟨g, 295 + n, none⟩ (.int .i64 (T.o i : Int))) g t { T with c := fcs T x (i + 1), o := fos T x (i + 1) } := by
          rw [fcs_yes hil hmk, fos_yes hil hmk, ← hnl]; exact hP
        have HP := hide hP'
        have HOn := hide (hOn.setCell (p := ⟨g, 295 + n, none⟩) (fun _ => rfl) (.int .i64 (T.o i : Int)))
        have Hnl := hide (show n + 1 = (fks T x (i + 1)).length by rw [fks_yes hil hmk]; simp [hnl])
        clear hP hP' hG hOn hnl hmk
        generalize T.o i = oi at *
        go_wp2_with fail
        refine (unhide C7).mono ?_
        rintro e w3 ⟨rfl, rfl⟩
        clear C7
        go_wp2_with fail
        go_roundw
        case rel => exact ⟨n + 1, i + 1, by go_num, by omega, by go_num, unhide Hnl, unhide HP, unhide HOn⟩
        case measure => simp [intOf]; omega
      | false =>
        rw [hmk] at hap
        have hz0 : z = 0 := by
          have : ((z : Int) != 0) = false := hap
          simp at this
          omega
        subst hz0
        have e3' : bits BinOp.and IntKind.u64 (x : Int) (b : Int) = 0 := e3
        have z0 := hG.com0 (T.o i) hcl
        have z1 := hG.com (T.o i) 1 hcl (by omega)
        have z2 := hG.com (T.o i) 2 hcl (by omega)
        have z3 := hG.com (T.o i) 3 hcl (by omega)
        have z4 := hG.com (T.o i) 4 hcl (by omega)
        have z5 := hG.com (T.o i) 5 hcl (by omega)
        have hP := hG.putC (T.o i) hcl Cr.zero
        have hP' : GH (put6 wr g (T.o i) Cr.zero) g t { T with c := fcs T x (i + 1), o := fos T x (i + 1) } := by
          rw [fcs_no hil hmk, fos_no hil hmk]; exact hP
        have HP := hide hP'
        have HOn := hide (only6g hOn (fun _ => rfl) Cr.zero (i := T.o i))
        have Hnl := hide (show n = (fks T x (i + 1)).length by rw [fks_no hil hmk]; exact hnl)
        clear hP hP' hG hOn hnl hmk e3 hap
        generalize T.o i = oi at *
        go_wp2_with fail
        refine (unhide C7).mono ?_
        rintro e w3 ⟨rfl, rfl⟩
        clear C7
        go_wp2_with fail
        go_roundw
        case rel => exact ⟨n, i + 1, by go_num, by omega, rfl, unhide Hnl, unhide HP, unhide HOn⟩
        case measure => simp [intOf]; omega
    · have a1 : decide ((i : Int) < (T.n : Int)) = false := decide_eq_false (by omega)
      have a1n : decide (i < T.n) = false := decide_eq_false hil
      have e1 : i = T.n := by omega
      subst e1
      have cn := hG.n_.1
      have hG' : GH wr g t { T with c := fcs T x T.n, o := fzs T x n } := by rw [hnl, fzs_start]; exact hG
      have HG := hide hG'
      have HOn := hide hOn
      have Hnl := hide hnl
      clear hG hG' hOn hnl
      go_wp2_with fail
      go_loopw [7] (fun iv wr => ∃ i : Nat, iv = .int .i64 i ∧ n ≤ i ∧ i ≤ T.n ∧ GH wr g t { T with c := fcs T x T.n, o := fzs T x i } ∧ Only (fun y => y = g) w wr) (fun iv _ => T.n - (intOf iv).toNat)
      case atStart => exact ⟨n, rfl, by omega, by omega, unhide HG, unhide HOn⟩
      case round =>
        clear HG HOn cn
        obtain ⟨i, rfl, hni2, hi2, hG, hOn⟩ := hrel
        have cn := hG.n_
        by_cases hil2 : i < T.n
        · have a5 : decide ((i : Int) < (T.n : Int)) = true := decide_eq_true (by omega)
          have a5n : decide (i < T.n) = true := decide_eq_true hil2
          have a2 : (i : Int) < 48 := by omega
          have w1 := hG.ord i (by omega)
          obtain ⟨w1a, w1b⟩ := w1
          obtain ⟨cn, _⟩ := cn
          have hP := hG.putO i (by omega) 0
          have hP' : GH (wr.setCell ⟨g, 295 + i, none⟩ (.int .i64 0)) g t { T with c := fcs T x T.n, o := fzs T x (i + 1) } := by
            rw [fzs_step T (by rw [← unhide Hnl]; exact hni2)]; exact hP
          have HP := hide hP'
          have HOn := hide (hOn.setCell (p := ⟨g, 295 + i, none⟩) (fun _ => rfl) (.int .i64 0))
          clear hP hP' hG hOn
          go_wp2_with fail
          go_roundw
          case rel => exact ⟨i + 1, by go_num, by omega, by omega, unhide HP, unhide HOn⟩
          case measure => simp [intOf]; omega
        · have a5 : decide ((i : Int) < (T.n : Int)) = false := decide_eq_false (by omega)
          have a5n : decide (i < T.n) = false := decide_eq_false hil2
          have e1 : i = T.n := by omega
          subst e1
          obtain ⟨cn, cnf⟩ := cn
          have hP := hG.putN n
          have hP' : GH (wr.setCell ⟨g, 343, none⟩ (.int .i64 (n : Int))) g t (fgT T x) := by
            unfold fgT
            rw [← fzs_end (unhide HO).z, ← unhide Hnl]; exact hP
          have HP := hide hP'
          have HOn := hide (hOn.setCell (p := ⟨g, 343, none⟩) (fun _ => rfl) (.int .i64 (n : Int)))
          clear hP hP' hG hOn
          go_wp2_with fail
          go_end0
          exact ⟨rfl, unhide HP, unhide HOn⟩
end
end Go.Proofs.Qxb6500417aGreat
