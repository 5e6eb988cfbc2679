/-
  OWN WORK. THE DEFINITIONS: Match.
-/
import Derived.Test.Qxb6500416aDLcM
namespace Go.Proofs.Qxb6500416a
open Go.RowKit Go.PlainAid
set_option linter.unusedSimpArgs false
set_option linter.unusedVariables false

theorem LcAt.keep2 {w : World} {gt n k gm : Nat} {b : Nat → Nat} {T : Nat → Nat → Nat} {wr w' : World} (h : LcAt w gt n k b T wr) (ho : Only (fun y => y = gm) wr w') (h1 : gt ≠ gm) (h2 : ∀ a, a ≤ n → b a ≠ gm) (h3 : w.heap.size ≤ gm) : LcAt w gt n k b T w' :=
  ⟨h.rows.keep ho h1, fun a ha => (h.cs a ha).keep ho (h2 a ha), h.lo, h.inj, h.gl, h.ho.trans ho (fun y hy e => by omega)⟩
/-- The walk in memory. -/
structure MsI (w : World) (gm : Nat) (X Y : List Str) (M : List Int) (i j : Nat) (wr : World) : Prop where
  mt : MtAt X Y M i j
  row : IntsR wr gm M
  gl : w.heap.size ≤ gm
theorem MsI.put {w : World} {gm : Nat} {X Y : List Str} {M : List Int} {i j i' j' : Nat} {wr : World} (h : MsI w gm X Y M i j wr) (v : Int) (hm : MtAt X Y (M.set i v) i' j') : MsI w gm X Y (M.set i v) i' j' (wr.setCell ⟨gm, i, none⟩ (.int .i64 v)) :=
  ⟨hm, h.row.set i v, h.gl⟩
set_option maxRecDepth 100000 in
set_option maxHeartbeats 8000000 in
theorem amatch_any {w : World} (v u : Value) (A B : List Str) (hA : LnIn w v A) (hB : LnIn w u B) (ha : A.length ≤ 2000) (hb : B.length ≤ 2000) :
    Calls Try.prog 58 #[v, u] w fun e w' => ∃ g, e = .returned (.slice (some ⟨g, 0, none⟩) A.length A.length) ∧ IntsR w' g (mtc A B 0) ∧ w.heap.size ≤ g ∧ Only (fun _ => False) w w' := by
  have C1 := hide (lcs_any v u A B hA hB ha hb)
  obtain ⟨aa, ca, rfl, hca⟩ := hA.parts
  obtain ⟨ba, cb, rfl, hcb⟩ := hB.parts
  have HA := hide hca
  have HB := hide hcb
  clear hca hcb hA hB
  go_enter Try.func58, Try.ntmps58
  go_wp2_with fail
  refine (unhide C1).mono ?_
  rintro e w1 ⟨gt, b, T, rfl, hL, hD⟩
  have hm := drun_make_ints w1 A.length (by omega)
  have hs1 := hL.ho.size
  have gtl := hL.rows.lt
  have hbl : ∀ a, a ≤ A.length → b a ≠ w1.heap.size := fun a h e => by have := (hL.cs a h).lt; omega
  have hq1 := hL.quiet ((Only.refl (fun _ => False) w1).alloc (.cells (ints (dzeros A.length)) 3))
  have hi0 : MsI w w1.heap.size A B (dzeros A.length) 0 0 (w1.alloc (.cells (ints (dzeros A.length)) 3)) := ⟨MtAt.start (dzeros_len _), Has.new _ _ _, hs1⟩
  have hgt : gt ≠ w1.heap.size := by omega
  have H0 := hide (And.intro hi0 hq1)
  have Hbl := hide hbl
  have HD := hide hD
  clear hL hbl hq1 hi0 hD C1
  go_wp2_with fail
  obtain ⟨gm, hgm⟩ : ∃ gm, gm = w1.heap.size := ⟨_, rfl⟩
  rw [← hgm] at H0 Hbl hgt
  rw [← hgm]
  have hgml : w.heap.size ≤ gm := by omega
  generalize w1.alloc (.cells (ints (dzeros A.length)) 3) = W2 at *
  clear hm hgm gtl
  go_loopw [7, 8] (fun iv jv wr => ∃ (i j : Nat) (M : List Int), iv = .int .i64 i ∧ jv = .int .i64 j ∧ MsI w gm A B M i j wr ∧ LcAt w gt A.length B.length b T wr) (fun iv jv _ => (A.length - (intOf iv).toNat) + (B.length - (intOf jv).toNat))
  case atStart => exact ⟨0, 0, _, rfl, rfl, unhide H0⟩
  case round =>
    clear H0
    obtain ⟨i, j, M, rfl, rfl, hI, hL⟩ := hrel
    have hil' := hI.mt.il
    have hjl' := hI.mt.jl
    have hml' := hI.mt.ml
    have hgw := Has.lt hI.row
    by_cases hi : i < A.length
    · have t1 : decide ((i : Int) < (A.length : Int)) = true := decide_eq_true (by omega)
      have t1' : (i : Int) < (A.length : Int) := by omega
      have a3 : (i : Int) + 1 < (A.length : Int) + 1 := by omega
      have a4 : (i : Int) < (A.length : Int) + 1 := by omega
      obtain ⟨ga, rfl, hga, x0⟩ := LnIn.get (unhide HA) hL.ho i hi
      have r0 := hI.row.cell i (by omega)
      have r1 := Has.free hI.row i
      have HQ := hide (fun (W : World) (hW : Only (fun _ => False) wr W) (v : Int) (i' j' : Nat) (hm : MtAt A B (M.set i v) i' j') => And.intro ((⟨hI.mt, hI.row.keep hW (fun h => h), hI.gl⟩ : MsI w gm A B M i j W).put v hm) ((hL.quiet hW).keep2 (donly1 (w := W) (p := gm) i (.int .i64 v)) hgt (unhide Hbl) hgml))
      have HS := hide (fun (W : World) (hW : Only (fun _ => False) wr W) (i' j' : Nat) (hm : MtAt A B M i' j') => And.intro (⟨hm, hI.row.keep hW (fun h => h), hI.gl⟩ : MsI w gm A B M i' j' W) (hL.quiet hW))
      have oD := fun q => (Only.refl (fun _ => False) wr).drewO q
      by_cases hj : j < B.length
      · have t2 : decide ((j : Int) < (B.length : Int)) = true := decide_eq_true (by omega)
        have t2' : (j : Int) < (B.length : Int) := by omega
        have t2g : decide ((B.length : Int) ≤ (j : Int)) = false := decide_eq_false (by omega)
        have t2n : decide (B.length ≤ j) = false := decide_eq_false (by omega)
        have b3 : (j : Int) + 1 < (B.length : Int) + 1 := by omega
        have b4 : (j : Int) < (B.length : Int) + 1 := by omega
        obtain ⟨gb, rfl, hgb, y0⟩ := LnIn.get (unhide HB) hL.ho j hj
        by_cases he : A[i] = B[j]
        · have e1 : ((sb A[i]).toList == (sb B[j]).toList) = true := by rw [he]; simp
          have HN := hide (hI.mt.keep hi hj he)
          generalize sb A[i] = x at *
          generalize sb B[j] = y at *
          clear hI hL he HS
          go_wp2_with fail
          go_quiet (fail)
          go_wp2_with fail
          go_roundw
          case rel => exact ⟨i + 1, j + 1, _, by go_num, by go_num, unhide HQ _ (oD _) _ _ _ (unhide HN)⟩
          case measure => simp [intOf]; omega
        · have e1 : ((sb A[i]).toList == (sb B[j]).toList) = false := by rw [beqB, ls_sb, ls_sb, decide_eq_false he]
          have p0 := hL.row i (by omega)
          have p1 := hL.row (i + 1) (by omega)
          have q2 := hL.get (i + 1) j (by omega) (by omega)
          have q3 := hL.get i (j + 1) (by omega) (by omega)
          have gl0 := hL.rows.lt
          have gl1 := (hL.cs i (by omega)).lt
          have gl2 := (hL.cs (i + 1) (by omega)).lt
          have v2 := (unhide HD).get (a := i + 1) (b := j) (by omega) (by omega) (by omega)
          have v3 := (unhide HD).get (a := i) (b := j + 1) (by omega) (by omega) (by omega)
          rw [v2] at q2
          rw [v3] at q3
          have l2 := lcs_le _ (A.drop (i + 1)) (B.drop j) (Nat.le_refl _)
          have l3 := lcs_le _ (A.drop i) (B.drop (j + 1)) (Nat.le_refl _)
          rw [List.length_drop] at l2 l3
          have HG := hide (hI.mt.goes hi hj he)
          have HC := hide (hI.mt.comes hi hj he)
          generalize sb A[i] = x at *
          generalize sb B[j] = y at *
          generalize lcs (A.drop (i + 1)) (B.drop j) = k2 at *
          generalize lcs (A.drop i) (B.drop (j + 1)) = k3 at *
          clear hI hL he v2 v3
          by_cases hge : k3 ≤ k2
          · have g1 : decide ((k3 : Int) ≤ (k2 : Int)) = true := decide_eq_true (by omega)
            have HN := hide (unhide HG hge)
            go_wp2_with fail
            go_quiet (fail)
            go_upto_region 10 with fail
            go_quiet (fail)
            go_wp2_with fail
            go_roundw
            case rel => exact ⟨i + 1, j, _, by go_num, rfl, unhide HQ _ (by first | exact oD _ | exact (oD _).drewO _) _ _ _ (unhide HN)⟩
            case measure => simp [intOf]; omega
          · have g1 : decide ((k3 : Int) ≤ (k2 : Int)) = false := decide_eq_false (by omega)
            have HN := hide (unhide HC hge)
            go_wp2_with fail
            go_quiet (fail)
            go_upto_region 10 with fail
            go_quiet (fail)
            go_wp2_with fail
            go_roundw
            case rel => exact ⟨i, j + 1, M, rfl, by go_num, unhide HS _ (by first | exact oD _ | exact (oD _).drewO _) _ _ (unhide HN)⟩
            case measure => simp [intOf]; omega
      · have t2 : decide ((j : Int) < (B.length : Int)) = false := decide_eq_false (by omega)
        have t2g : decide ((B.length : Int) ≤ (j : Int)) = true := decide_eq_true (by omega)
        have t2n : decide (B.length ≤ j) = true := decide_eq_true (by omega)
        have HN := hide (hI.mt.end_ hi hj)
        clear hI hL HS
        go_wp2_with fail
        go_quiet (fail)
        go_upto_region 10 with fail
        go_quiet (fail)
        go_wp2_with fail
        go_roundw
        case rel => exact ⟨i + 1, j, _, by go_num, rfl, unhide HQ _ (by first | exact oD _ | exact (oD _).drewO _) _ _ _ (unhide HN)⟩
        case measure => simp [intOf]; omega
    · have t1 : decide ((i : Int) < (A.length : Int)) = false := decide_eq_false (by omega)
      have hM := hI.mt.fin (by omega)
      subst hM
      have HN := hide (And.intro hI.row hL.ho)
      clear hI hL
      go_wp2_with fail
      go_ret
      exact ⟨gm, rfl, (unhide HN).1, hgml, (unhide HN).2⟩
end Go.Proofs.Qxb6500416a
