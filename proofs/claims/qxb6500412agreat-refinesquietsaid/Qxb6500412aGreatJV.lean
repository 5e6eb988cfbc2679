/-
  OWN WORK. THE TABLE LAW: values, rows, bounds compared.
-/
import Derived.Test.Qxb6500412aGreatECk
namespace Go.Proofs.Qxb6500412aGreat
open Go.RowKit Go.PlainAid
set_option linter.unusedSimpArgs false
set_option linter.unusedVariables false

set_option maxRecDepth 100000 in
theorem jsameValue_any (a b : Vl) (w : World) : Calls Tryz.prog 95 #[vlA a, vlA b] w fun e w' => e = .returned (.bool (decide (a = b))) ∧ Only (fun _ => False) w w' := by
  obtain ⟨sa, ai, ax⟩ := a
  obtain ⟨bs, bi, bx⟩ := b
  have o0 : Only (fun _ => False) w ((w.alloc (.cells #[.bool sa, .int .i64 ai, .string ax] 152)).alloc (.cells #[.bool bs, .int .i64 bi, .string bx] 152)) := ((Only.refl _ w).alloc _).alloc _
  have A : Has ((w.alloc (.cells #[.bool sa, .int .i64 ai, .string ax] 152)).alloc (.cells #[.bool bs, .int .i64 bi, .string bx] 152)) w.heap.size #[.bool sa, .int .i64 ai, .string ax] 152 := (Has.new w _ _).alloc _
  have B : Has ((w.alloc (.cells #[.bool sa, .int .i64 ai, .string ax] 152)).alloc (.cells #[.bool bs, .int .i64 bi, .string bx] 152)) (w.heap.size + 1) #[.bool bs, .int .i64 bi, .string bx] 152 := Has.new' _ _ _ _ (by simp)
  have HE := hide (show decide ((⟨sa, ai, ax⟩ : Vl) = ⟨bs, bi, bx⟩) = decide (sa = bs ∧ ai = bi ∧ ax = bx) from decide_eq_decide.mpr (by simp))
  unfold vlA
  simp only
  rw [unhide HE]
  go_enter Tryz.func95, Tryz.ntmps95
  go_upto_region 1 with fail
  generalize (w.alloc (.cells #[.bool sa, .int .i64 ai, .string ax] 152)).alloc (.cells #[.bool bs, .int .i64 bi, .string bx] 152) = w1 at *
  have a0 := A.cell 0
  have a1 := A.cell 1
  have a2 := A.cell 2
  have b0 := B.cell 0
  have b1 := B.cell 1
  have b2 := B.cell 2
  simp at a0 a1 a2 b0 b1 b2
  have HO := hide o0
  clear A B o0 HE
  by_cases h1 : sa = bs
  · have c1 : (sa == bs) = true := by simpa using h1
    by_cases h2 : ai = bi
    · have c2 : (ai == bi) = true := by simpa using h2
      by_cases h3 : ax = bx
      · have c3 := seq_t h3
        have HD := hide (decide_eq_true (⟨h1, h2, h3⟩ : sa = bs ∧ ai = bi ∧ ax = bx))
        clear h1 h2 h3
        go_wp2_with fail
        go_ret
        exact ⟨by rw [unhide HD]; rfl, unhide HO⟩
      · have c3 := seq_f h3
        have HD := hide (decide_eq_false (fun h : sa = bs ∧ ai = bi ∧ ax = bx => h3 h.2.2))
        clear h1 h2 h3
        go_wp2_with fail
        go_ret
        exact ⟨by rw [unhide HD]; rfl, unhide HO⟩
    · have c2 : (ai == bi) = false := by simpa using h2
      have HD := hide (decide_eq_false (fun h : sa = bs ∧ ai = bi ∧ ax = bx => h2 h.2.1))
      clear h1 h2
      go_wp2_with fail
      go_ret
      exact ⟨by rw [unhide HD]; rfl, unhide HO⟩
  · have c1 : (sa == bs) = false := by simpa using h1
    have HD := hide (decide_eq_false (fun h : sa = bs ∧ ai = bi ∧ ax = bx => h1 h.1))
    clear h1
    go_wp2_with fail
    go_ret
    exact ⟨by rw [unhide HD]; rfl, unhide HO⟩
theorem take_eq_succ {α : Type} {a b : List α} {i : Nat} {x y : α} (hx : a[i]? = some x) (hy : b[i]? = some y) : a.take (i + 1) = b.take (i + 1) ↔ a.take i = b.take i ∧ x = y := by
  rw [take_succ' hx, take_succ' hy]
  have l1 : (a.take i).length = i := by rw [List.length_take]; have := (List.getElem?_eq_some_iff.mp hx).1; omega
  have l2 : (b.take i).length = i := by rw [List.length_take]; have := (List.getElem?_eq_some_iff.mp hy).1; omega
  constructor
  · intro h
    have := List.append_inj h (by omega)
    exact ⟨this.1, by simpa using this.2⟩
  · rintro ⟨h1, h2⟩
    rw [h1, h2]
set_option maxRecDepth 100000 in
set_option maxHeartbeats 4000000 in
theorem jsameRow_any {w : World} {va vb : Value} {A B : List Vl} (ha : OwnV w va A) (hb : OwnV w vb B) (la : A.length ≤ 1000) : Calls Tryz.prog 117 #[va, vb] w fun e w' => e = .returned (.bool (decide (A = B))) ∧ Only (fun _ => False) w w' := by
  obtain ⟨aa, ac, rfl⟩ := ha.shape
  obtain ⟨ba, bc, rfl⟩ := hb.shape
  have HA := hide (And.intro ha hb)
  clear ha hb
  by_cases hl : A.length = B.length
  · have c1 : ((A.length : Int) != (B.length : Int)) = false := by rw [hl]; simp
    have c1n : (A.length != B.length) = false := by rw [hl]; simp
    have HL := hide hl
    obtain ⟨n, hn⟩ : ∃ n, A.length = n := ⟨_, rfl⟩
    obtain ⟨m, hm⟩ : ∃ m, B.length = m := ⟨_, rfl⟩
    have HN := hide (And.intro hn hm)
    rw [hn] at c1 c1n la
    rw [hm] at c1 c1n
    rw [hn, hm]
    have HNM := hide (show n = m by omega)
    clear hl hn hm
    obtain ⟨R, hR⟩ : ∃ R, decide (A = B) = R := ⟨_, rfl⟩
    rw [hR]
    have HR := hide hR
    clear hR
    go_enter Tryz.func117, Tryz.ntmps117
    go_upto_region 4 with fail
    clear c1 c1n
    go_loopw [5] (fun iv wr => ∃ i : Nat, iv = .int .i64 i ∧ i ≤ n ∧ A.take i = B.take i ∧ Only (fun _ => False) w wr) (fun iv _ => n - (intOf iv).toNat)
    case atStart => exact ⟨0, rfl, Nat.zero_le _, rfl, Only.refl _ _⟩
    case round =>
      obtain ⟨i, rfl, hi, hT, oW⟩ := hrel
      by_cases hi2 : i < n
      · have a1 : decide ((i : Int) < (n : Int)) = true := decide_eq_true (by omega)
        have a1p : (i : Int) < (n : Int) := by omega
        have a1m : (i : Int) < (m : Int) := by have := unhide HNM; omega
        obtain ⟨x, hx⟩ := getE (l := A) (i := i) (by rw [(unhide HN).1]; exact hi2)
        obtain ⟨y, hy⟩ := getE (l := B) (i := i) (by rw [(unhide HN).2, ← unhide HNM]; exact hi2)
        obtain ⟨g1, k1, he1, e0, e1, e2⟩ := getv_at ((unhide HA).1.keep oW (fun _ _ e => e)) hx
        obtain ⟨g2, k2, he2, f0, f1, f2⟩ := getv_at ((unhide HA).2.keep oW (fun _ _ e => e)) hy
        simp only [Value.slice.injEq] at he1 he2
        obtain ⟨rfl, _, rfl⟩ := he1
        obtain ⟨rfl, _, rfl⟩ := he2
        have CS := jsameValue_any x y wr.drew
        obtain ⟨b, hb⟩ : ∃ b, decide (x = y) = b := ⟨_, rfl⟩
        rw [hb] at CS
        unfold vlA at CS
        have CS := hide CS
        have HX := hide (And.intro hx (And.intro hy (And.intro hT hb)))
        have HO := hide oW
        clear hx hy hT hb oW
        go_upto_region 6 with fail
        go_cut [26] (fun zv wx => zv = .bool (!b) ∧ Only (fun _ => False) wr wx)
        case first =>
          go_region_with (go_at_call 95; refine (unhide CS).mono ?_; rintro e w2 ⟨rfl, o2⟩; have HF := hide ((Only.refl (fun _ => False) wr).drew.trans o2 (fun _ _ e => e)); clear o2)
          all_goals
            go_wp2_with fail
            go_meet
            exact ⟨rfl, unhide HF⟩
        case rest =>
        obtain ⟨rfl, o2⟩ := hcut
        have HO2 := hide ((unhide HO).trans o2 (fun _ _ e => e))
        clear o2 CS e0 e1 e2 f0 f1 f2
        cases b with
        | true =>
          have hxy : x = y := of_decide_eq_true (unhide HX).2.2.2
          have HT := hide ((take_eq_succ (unhide HX).1 (unhide HX).2.1).mpr ⟨(unhide HX).2.2.1, hxy⟩)
          clear hxy
          go_wp2_with fail
          go_roundw
          case rel => exact ⟨i + 1, by go_num, by omega, unhide HT, unhide HO2⟩
          case measure => simp [intOf]; omega
        | false =>
          have hxy : x ≠ y := of_decide_eq_false (unhide HX).2.2.2
          have HD := hide (show false = R from by
            rw [← unhide HR]
            refine (decide_eq_false (fun e => hxy ?_)).symm
            have h1 := (unhide HX).1
            rw [e, (unhide HX).2.1] at h1
            exact (Option.some.inj h1).symm)
          clear hxy
          go_wp2_with fail
          go_ret
          exact ⟨by rw [← unhide HD]; rfl, unhide HO2⟩
      · obtain rfl : i = n := by omega
        have a1 : decide ((i : Int) < (i : Int)) = false := by simp
        have HD := hide (show true = R from by
          rw [← unhide HR]
          refine (decide_eq_true ?_).symm
          rw [List.take_of_length_le (by rw [(unhide HN).1]; omega), List.take_of_length_le (by rw [(unhide HN).2, ← unhide HNM]; omega)] at hT
          exact hT)
        have HO := hide oW
        clear oW hT
        go_wp2_with fail
        go_ret
        exact ⟨by rw [← unhide HD]; rfl, unhide HO⟩
  · have c1 : ((A.length : Int) != (B.length : Int)) = true := by simp; omega
    have c1n : (A.length != B.length) = true := by simpa using hl
    rw [decide_eq_false (fun e : A = B => hl (by rw [e]))]
    clear hl
    go_enter Tryz.func117, Tryz.ntmps117
    go_wp2_with fail
    go_ret
    exact ⟨rfl, Only.refl _ _⟩
end Go.Proofs.Qxb6500412aGreat
