/-
  OWN WORK. THE TABLE LAW: schemas compared; within bounds.
-/
import Derived.Test.Qxb6500412aGreatJV
namespace Go.Proofs.Qxb6500412aGreat
open Go.RowKit Go.PlainAid
set_option linter.unusedSimpArgs false
set_option linter.unusedVariables false

theorem sne_t {a b : ByteArray} (h : ¬ a = b) : (!(a.toList == b.toList)) = true := by rw [seq_f h]; rfl
theorem sne_f {a b : ByteArray} (h : a = b) : (!(a.toList == b.toList)) = false := by rw [seq_t h]; rfl
set_option maxRecDepth 100000 in
set_option maxHeartbeats 8000000 in
theorem jsameSchema_any {w : World} {n1 n2 : ByteArray} {v1 v2 : Value} {p1 p2 i1 i2 : Int} {C1 C2 : List Cl} (h1 : OwnC w v1 C1) (h2 : OwnC w v2 C2) (l1 : C1.length ≤ 1000) (R : Bool) (hR : decide (n1 = n2 ∧ p1 = p2 ∧ i1 = i2 ∧ C1 = C2) = R) : Calls Tryz.prog 47 #[schA n1 v1 p1 i1, schA n2 v2 p2 i2] w fun e w' => e = .returned (.bool R) ∧ Only (fun _ => False) w w' := by
  obtain ⟨aa, ac, rfl⟩ := h1.shape
  obtain ⟨ba, bc, rfl⟩ := h2.shape
  have o0 : Only (fun _ => False) w ((w.alloc (.cells #[.string n1, .slice aa C1.length ac, .int .i64 p1, .int .i64 i1] 79)).alloc (.cells #[.string n2, .slice ba C2.length bc, .int .i64 p2, .int .i64 i2] 79)) := ((Only.refl _ w).alloc _).alloc _
  have A : Has ((w.alloc (.cells #[.string n1, .slice aa C1.length ac, .int .i64 p1, .int .i64 i1] 79)).alloc (.cells #[.string n2, .slice ba C2.length bc, .int .i64 p2, .int .i64 i2] 79)) w.heap.size #[.string n1, .slice aa C1.length ac, .int .i64 p1, .int .i64 i1] 79 := (Has.new w _ _).alloc _
  have B : Has ((w.alloc (.cells #[.string n1, .slice aa C1.length ac, .int .i64 p1, .int .i64 i1] 79)).alloc (.cells #[.string n2, .slice ba C2.length bc, .int .i64 p2, .int .i64 i2] 79)) (w.heap.size + 1) #[.string n2, .slice ba C2.length bc, .int .i64 p2, .int .i64 i2] 79 := Has.new' _ _ _ _ (by simp)
  have HA := hide (And.intro (h1.keep o0 (fun _ _ e => e)) (h2.keep o0 (fun _ _ e => e)))
  have HR := hide hR
  clear h1 h2 hR
  unfold schA
  go_enter Tryz.func47, Tryz.ntmps47
  go_upto_region 1 with fail
  generalize (w.alloc (.cells #[.string n1, .slice aa C1.length ac, .int .i64 p1, .int .i64 i1] 79)).alloc (.cells #[.string n2, .slice ba C2.length bc, .int .i64 p2, .int .i64 i2] 79) = w1 at *
  have a0 := A.cell 0
  have a1 := A.cell 1
  have a2 := A.cell 2
  have a3 := A.cell 3
  have b0 := B.cell 0
  have b1 := B.cell 1
  have b2 := B.cell 2
  have b3 := B.cell 3
  simp at a0 a1 a2 a3 b0 b1 b2 b3
  have HO := hide o0
  have HAB := hide (And.intro A B)
  clear A B o0
  by_cases c1 : n1 = n2
  · have d1 := sne_f c1
    have d1' := seq_t c1
    by_cases c2 : p1 = p2
    · have d2 : (p1 != p2) = false := by rw [c2]; simp
      by_cases c3 : i1 = i2
      · have d3 : (i1 != i2) = false := by rw [c3]; simp
        by_cases c4 : C1.length = C2.length
        · have d4 : ((C1.length : Int) != (C2.length : Int)) = false := by rw [c4]; simp
          have d4n : (C1.length != C2.length) = false := by rw [c4]; simp
          have HQ := hide (And.intro c1 (And.intro c2 (And.intro c3 c4)))
          clear c1 c2 c3
          obtain ⟨n, hn⟩ : ∃ n, C1.length = n := ⟨_, rfl⟩
          obtain ⟨m, hm⟩ : ∃ m, C2.length = m := ⟨_, rfl⟩
          have HN := hide (And.intro hn hm)
          have HNM := hide (show n = m by omega)
          rw [hn] at a1 d4 d4n l1 HAB
          rw [hm] at b1 d4 d4n HAB
          rw [hn, hm]
          clear hn hm c4
          go_upto_region 4 with fail
          clear d1 d1' d2 d3 d4 d4n a0 a2 a3 b0 b2 b3 a1 b1
          go_loopw [5] (fun iv wr => ∃ i : Nat, iv = .int .i64 i ∧ i ≤ n ∧ C1.take i = C2.take i ∧ Only (fun _ => False) w1 wr) (fun iv _ => n - (intOf iv).toNat)
          case atStart => exact ⟨0, rfl, Nat.zero_le _, rfl, Only.refl _ _⟩
          case round =>
            obtain ⟨i, rfl, hi, hT, oW⟩ := hrel
            have a1 := ((unhide HAB).1.keep oW (fun e => e)).cell 1
            have b1 := ((unhide HAB).2.keep oW (fun e => e)).cell 1
            simp at a1 b1
            by_cases hi2 : i < n
            · have q1 : decide ((i : Int) < (n : Int)) = true := decide_eq_true (by omega)
              have q1p : (i : Int) < (n : Int) := by omega
              have q1m : (i : Int) < (m : Int) := by have := unhide HNM; omega
              obtain ⟨x, hx⟩ := getE (l := C1) (i := i) (by rw [(unhide HN).1]; exact hi2)
              obtain ⟨y, hy⟩ := getE (l := C2) (i := i) (by rw [(unhide HN).2, ← unhide HNM]; exact hi2)
              obtain ⟨g1, k1, he1, e0, e1⟩ := getc_at ((unhide HA).1.keep oW (fun _ _ e => e)) hx
              obtain ⟨g2, k2, he2, f0, f1⟩ := getc_at ((unhide HA).2.keep oW (fun _ _ e => e)) hy
              simp only [Value.slice.injEq] at he1 he2
              obtain ⟨rfl, _, rfl⟩ := he1
              obtain ⟨rfl, _, rfl⟩ := he2
              have HX := hide (And.intro hx (And.intro hy hT))
              have HO2 := hide oW
              clear hx hy hT oW
              by_cases t1 : x.1 = y.1
              · have r1 := sne_f t1
                have r1' := seq_t t1
                by_cases t2 : x.2 = y.2
                · have r2 : (x.2 != y.2) = false := by rw [t2]; simp
                  have r2' : (!(x.2 == y.2)) = false := by rw [t2]; simp
                  have HT := hide ((take_eq_succ (unhide HX).1 (unhide HX).2.1).mpr ⟨(unhide HX).2.2, by cases x; cases y; simp at t1 t2; rw [t1, t2]⟩)
                  clear t1 t2
                  go_upto_region 6 with fail
                  go_quiet (fail)
                  go_wp2_with fail
                  go_roundw
                  case rel => exact ⟨i + 1, by go_num, by omega, unhide HT, (unhide HO2).trans (onlyQ _ _) (fun _ _ e => e)⟩
                  case measure => simp [intOf]; omega
                · have r2 : (x.2 != y.2) = true := by simpa using t2
                  have r2' : (!(x.2 == y.2)) = true := by simpa using t2
                  have HD := hide (show false = R from by
                    rw [← unhide HR]
                    refine (decide_eq_false (fun e => t2 ?_)).symm
                    have h := (unhide HX).1
                    rw [e.2.2.2, (unhide HX).2.1] at h
                    rw [Option.some.inj h])
                  clear t1 t2
                  go_upto_region 6 with fail
                  go_quiet (fail)
                  go_wp2_with fail
                  go_ret
                  exact ⟨by rw [← unhide HD]; rfl, ((unhide HO).trans (unhide HO2) (fun _ _ e => e)).trans (onlyQ _ _) (fun _ _ e => e)⟩
              · have r1 := sne_t t1
                have r1' := seq_f t1
                have HD := hide (show false = R from by
                  rw [← unhide HR]
                  refine (decide_eq_false (fun e => t1 ?_)).symm
                  have h := (unhide HX).1
                  rw [e.2.2.2, (unhide HX).2.1] at h
                  rw [Option.some.inj h])
                clear t1
                go_upto_region 6 with fail
                go_quiet (fail)
                go_wp2_with fail
                go_ret
                exact ⟨by rw [← unhide HD]; rfl, ((unhide HO).trans (unhide HO2) (fun _ _ e => e)).trans (onlyQ _ _) (fun _ _ e => e)⟩
            · obtain rfl : i = n := by omega
              have q1 : decide ((i : Int) < (i : Int)) = false := by simp
              have HD := hide (show true = R from by
                rw [← unhide HR]
                refine (decide_eq_true ⟨(unhide HQ).1, (unhide HQ).2.1, (unhide HQ).2.2.1, ?_⟩).symm
                rw [List.take_of_length_le (by rw [(unhide HN).1]; omega), List.take_of_length_le (by rw [(unhide HN).2, ← unhide HNM]; omega)] at hT
                exact hT)
              have HO2 := hide ((unhide HO).trans oW (fun _ _ e => e))
              clear oW hT
              go_wp2_with fail
              go_ret
              exact ⟨by rw [← unhide HD]; rfl, unhide HO2⟩
        · have d4 : ((C1.length : Int) != (C2.length : Int)) = true := by simp; omega
          have d4n : (C1.length != C2.length) = true := by simpa using c4
          have HD := hide (show false = R from by rw [← unhide HR]; exact (decide_eq_false (fun e => c4 (by rw [e.2.2.2]))).symm)
          clear c1 c2 c3 c4
          go_wp2_with fail
          go_ret
          exact ⟨by rw [← unhide HD]; rfl, unhide HO⟩
      · have d3 : (i1 != i2) = true := by simpa using c3
        have HD := hide (show false = R from by rw [← unhide HR]; exact (decide_eq_false (fun e => c3 e.2.2.1)).symm)
        clear c1 c2 c3
        go_wp2_with fail
        go_ret
        exact ⟨by rw [← unhide HD]; rfl, unhide HO⟩
    · have d2 : (p1 != p2) = true := by simpa using c2
      have HD := hide (show false = R from by rw [← unhide HR]; exact (decide_eq_false (fun e => c2 e.2.1)).symm)
      clear c1 c2
      go_wp2_with fail
      go_ret
      exact ⟨by rw [← unhide HD]; rfl, unhide HO⟩
  · have d1 := sne_t c1
    have d1' := seq_f c1
    have HD := hide (show false = R from by rw [← unhide HR]; exact (decide_eq_false (fun e => c1 e.1)).symm)
    clear c1
    go_wp2_with fail
    go_ret
    exact ⟨by rw [← unhide HD]; rfl, unhide HO⟩
end Go.Proofs.Qxb6500412aGreat
