/-
  OWN WORK. THE TREE DIFF: both sides' walks.
-/
import Derived.Test.Qxb6500416aDTdP
namespace Go.Proofs.Qxb6500416a
open Go.RowKit Go.PlainAid
set_option linter.unusedSimpArgs false
set_option linter.unusedVariables false

theorem files_at {w W : World} {a : Option Addr} {l : List Fl} (hc : 0 < l.length → ∃ g, a = some ⟨g, 0, none⟩ ∧ ∀ i (h : i < l.length), w.cell? ⟨g, i * 3, none⟩ = some (.string l[i].path) ∧ w.cell? ⟨g, i * 3 + 1, none⟩ = some (.string l[i].data) ∧ w.cell? ⟨g, i * 3 + 2, none⟩ = some (.int .i64 l[i].mode)) (ho : Only (fun _ => False) w W) (j : Nat) (hj : j < l.length) :
    ∃ g, a = some ⟨g, 0, none⟩ ∧ g < W.heap.size ∧ W.cell? ⟨g, j * 3, none⟩ = some (.string l[j].path) ∧ W.cell? ⟨g, j * 3 + 1, none⟩ = some (.string l[j].data) ∧ W.cell? ⟨g, j * 3 + 2, none⟩ = some (.int .i64 l[j].mode) := by
  obtain ⟨g, rfl, h⟩ := hc (by omega)
  obtain ⟨c0, c1, c2⟩ := h j hj
  have hgl : g < w.heap.size := World.block_lt_of_cell? w _ c0
  have hbk := ho.block g hgl (fun h => h)
  rw [← World.cell?_of_block hbk] at c0 c1 c2
  exact ⟨g, rfl, Nat.lt_of_lt_of_le hgl ho.size, c0, c1, c2⟩
theorem drun_make_chg (w : World) (n : Nat) (hn : n ≤ 1000) : ∃ cur, (Instr.makeSlice 63 (.int .i64 0) (.int .i64 n)).run Try.prog w = .ok (.slice (some ⟨w.heap.size, 0, none⟩) 0 n) (w.alloc (.cells cur 65)) ∧ cur.size = n * 3 := by
  obtain ⟨i, hi, hz, hs, hb⟩ := info_parts Try.infoChg
  have := run_make (P := Try.prog) w 63 65 i _ Try.underlying63 hi hz .i64 .i64 (0 : Int) (n : Int) (by omega) (by omega) (by rw [hb]; omega) (by omega)
  refine ⟨_, this, ?_⟩
  simp [madeCells, hs, Value.cells]
set_option maxRecDepth 100000 in
set_option maxHeartbeats 8000000 in
theorem diffFiles_any {w : World} (v u : Value) (A B : List Fl) (hA : FilesIn w v A) (hB : FilesIn w u B) (hla : A.length ≤ 100) (hlb : B.length ≤ 100) :
    Calls Try.prog 53 #[v, u] w fun e w' => ∃ v', e = .returned v' ∧ CI w v' (tdF A B) w' := by
  obtain ⟨a, ca, rfl, hca⟩ := hA
  obtain ⟨b, cb, rfl, hcb⟩ := hB
  obtain ⟨i0, hi0, hz0, hz1, hz2⟩ := info_parts Try.infoChg
  have H0 := hide (CI.nil w)
  have HS := hide (TdAt.start A B)
  have HA := hide hca
  have HB := hide hcb
  generalize hR : tdF A B = R
  have HR := hide hR
  clear hca hcb hR
  go_enter Try.func53, Try.ntmps53
  go_wp2_with fail
  go_loopw [5, 6, 7] (fun ov iv jv wr => ∃ (i j : Nat) (out : List Chg), iv = .int .i64 i ∧ jv = .int .i64 j ∧ TdAt A B out i j ∧ CI w ov out wr) (fun _ iv jv _ => (A.length - (intOf iv).toNat) + (B.length - (intOf jv).toNat))
  case atStart => exact ⟨0, 0, [], rfl, rfl, unhide HS, unhide H0⟩
  case round =>
    clear HS H0
    obtain ⟨i, j, out, rfl, rfl, hT, hI⟩ := hrel
    have hil := hT.il
    have hjl := hT.jl
    have hol := hT.len
    by_cases hi : i < A.length
    · have t1 : decide ((i : Int) < (A.length : Int)) = true := decide_eq_true (by omega)
      have t1n : decide (i < A.length) = true := decide_eq_true (by omega)
      have t1' : (i : Int) < (A.length : Int) := by omega
      have t1g : decide ((A.length : Int) ≤ (i : Int)) = false := decide_eq_false (by omega)
      have t1gn : decide (A.length ≤ i) = false := decide_eq_false (by omega)
      obtain ⟨ga, rfl, hga, c0, c1, c2⟩ := files_at (unhide HA) hI.ho i hi
      by_cases hj : j < B.length
      · have t2 : decide ((j : Int) < (B.length : Int)) = true := decide_eq_true (by omega)
        have t2n : decide (j < B.length) = true := decide_eq_true (by omega)
        have t2' : (j : Int) < (B.length : Int) := by omega
        have t2g : decide ((B.length : Int) ≤ (j : Int)) = false := decide_eq_false (by omega)
        have t2gn : decide (B.length ≤ j) = false := decide_eq_false (by omega)
        obtain ⟨gb, rfl, hgb, d0, d1, d2⟩ := files_at (unhide HB) hI.ho j hj
        cases hlt : ltS A[i].path B[j].path with
        | true =>
          have HT := hide (hT.rem hi hj hlt)
          have e1 : Op.bytesLess A[i].path.toList B[j].path.toList = true := hlt
          have HI := hide hI
          generalize A[i] = x at *
          generalize B[j] = y at *
          clear hT hI hlt c1 c2 d1 d2
          go_wp2_with fail
          go_quiet (fail)
          have oq1 := (Only.refl (fun _ => False) wr).drewO nq
          have HQ1 := hide ((unhide HI).quiet oq1)
          have c0_1 := (World.cell?_of_block (a := ⟨ga, i * 3, none⟩) (oq1.block ga hga (fun h => h))).trans c0
          have gal_1 := Nat.lt_of_lt_of_le hga oq1.size
          have d0_1 := (World.cell?_of_block (a := ⟨gb, j * 3, none⟩) (oq1.block gb hgb (fun h => h))).trans d0
          have gbl_1 := Nat.lt_of_lt_of_le hgb oq1.size
          clear c0 d0 HI oq1
          generalize wr.drewN nq = W1 at *
          have own4 : W1.ownsRow 0 65 3 _ _ _ := (unhide HQ1).own
          go_wp2_with (at_builtin; refine wpList_append2 _ rfl _ _ 63 rfl 65 i0 _ 3 32 Try.underlying63 hi0 hz0 hz1 hz2 rfl (by decide) _ _ _ rfl (own4.alloc _) ⟨W1.heap.size, 0, none⟩ 1 1 [.string x.path, .int .i64 3, .int .i64 0] rfl rfl ?a1 ?a2 ?a3 ?a4 ?_)
          try (case a1 => exact news_ok _ _ _ _ rfl)
          case a2 => intro u hu; simp at hu; rcases hu with rfl | rfl | rfl <;> rfl
          case a3 => unfold maxLen; omega
          case a4 => omega
          intro v4 w4 hown' hgrow hwhere
          have h4 := (unhide HQ1).push ⟨x.path, 3, 0⟩ hown' (by first | rfl | omega) hgrow hwhere
          have H4 := hide h4
          clear hown' hgrow hwhere own4 HQ1 h4
          go_wp2_with fail
          go_roundw
          case rel => exact ⟨i + 1, j, _, by go_num, rfl, unhide HT, unhide H4⟩
          case measure => simp [intOf]; omega
        | false =>
          have e1 : Op.bytesLess A[i].path.toList B[j].path.toList = false := hlt
          cases hlt2 : ltS B[j].path A[i].path with
          | true =>
            have HT := hide (hT.add hi hj hlt hlt2)
            have e2 : Op.bytesLess B[j].path.toList A[i].path.toList = true := hlt2
            have HI := hide hI
            generalize A[i] = x at *
            generalize B[j] = y at *
            clear hT hI hlt hlt2 c1 c2 d1 d2
            go_wp2_with fail
            go_quiet (fail)
            have oq1 := (Only.refl (fun _ => False) wr).drewO nq
            have HQ1 := hide ((unhide HI).quiet oq1)
            have c0_1 := (World.cell?_of_block (a := ⟨ga, i * 3, none⟩) (oq1.block ga hga (fun h => h))).trans c0
            have gal_1 := Nat.lt_of_lt_of_le hga oq1.size
            have d0_1 := (World.cell?_of_block (a := ⟨gb, j * 3, none⟩) (oq1.block gb hgb (fun h => h))).trans d0
            have gbl_1 := Nat.lt_of_lt_of_le hgb oq1.size
            clear c0 d0 HI oq1
            generalize wr.drewN nq = W1 at *
            go_upto_region 8 with fail
            go_quiet (fail)
            have oq2 := (Only.refl (fun _ => False) W1).drewO nq
            have HQ2 := hide ((unhide HQ1).quiet oq2)
            have c0_1_2 := (World.cell?_of_block (a := ⟨ga, i * 3, none⟩) (oq2.block ga gal_1 (fun h => h))).trans c0_1
            have gal_2 := Nat.lt_of_lt_of_le gal_1 oq2.size
            have d0_1_2 := (World.cell?_of_block (a := ⟨gb, j * 3, none⟩) (oq2.block gb gbl_1 (fun h => h))).trans d0_1
            have gbl_2 := Nat.lt_of_lt_of_le gbl_1 oq2.size
            clear c0_1 d0_1 HQ1 oq2
            generalize W1.drewN nq = W2 at *
            have own4 : W2.ownsRow 0 65 3 _ _ _ := (unhide HQ2).own
            go_wp2_with (at_builtin; refine wpList_append2 _ rfl _ _ 63 rfl 65 i0 _ 3 32 Try.underlying63 hi0 hz0 hz1 hz2 rfl (by decide) _ _ _ rfl (own4.alloc _) ⟨W2.heap.size, 0, none⟩ 1 1 [.string y.path, .int .i64 1, .int .i64 0] rfl rfl ?b1 ?b2 ?b3 ?b4 ?_)
            try (case b1 => exact news_ok _ _ _ _ rfl)
            case b2 => intro u hu; simp at hu; rcases hu with rfl | rfl | rfl <;> rfl
            case b3 => unfold maxLen; omega
            case b4 => omega
            intro v4 w4 hown' hgrow hwhere
            have h4 := (unhide HQ2).push ⟨y.path, 1, 0⟩ hown' (by first | rfl | omega) hgrow hwhere
            have H4 := hide h4
            clear hown' hgrow hwhere own4 HQ2 h4
            go_wp2_with fail
            go_roundw
            case rel => exact ⟨i, j + 1, _, rfl, by go_num, unhide HT, unhide H4⟩
            case measure => simp [intOf]; omega
          | false =>
            have e2 : Op.bytesLess B[j].path.toList A[i].path.toList = false := hlt2
            have hpp := ltS_tri hlt hlt2
            by_cases he : A[i].data = B[j].data ∧ A[i].mode = B[j].mode
            · have HT := hide (hT.same hi hj hlt hlt2 he)
              have HI := hide hI
              have e3 : (A[i].path.toList == B[j].path.toList) = true := by rw [hpp]; simp
              have e4 : (A[i].data.toList == B[j].data.toList) = true := by rw [he.1]; simp
              have e5 : (A[i].mode == B[j].mode) = true := by rw [he.2]; simp
              generalize A[i] = x at *
              generalize B[j] = y at *
              clear hT hI hlt hlt2 hpp he
              go_wp2_with fail
              go_quiet (fail)
              have oq1 := (Only.refl (fun _ => False) wr).drewO nq
              have HQ1 := hide ((unhide HI).quiet oq1)
              have c0_1 := (World.cell?_of_block (a := ⟨ga, i * 3, none⟩) (oq1.block ga hga (fun h => h))).trans c0
              have gal_1 := Nat.lt_of_lt_of_le hga oq1.size
              have c1_1 := (World.cell?_of_block (a := ⟨ga, i * 3 + 1, none⟩) (oq1.block ga hga (fun h => h))).trans c1
              have c2_1 := (World.cell?_of_block (a := ⟨ga, i * 3 + 2, none⟩) (oq1.block ga hga (fun h => h))).trans c2
              have d0_1 := (World.cell?_of_block (a := ⟨gb, j * 3, none⟩) (oq1.block gb hgb (fun h => h))).trans d0
              have gbl_1 := Nat.lt_of_lt_of_le hgb oq1.size
              have d1_1 := (World.cell?_of_block (a := ⟨gb, j * 3 + 1, none⟩) (oq1.block gb hgb (fun h => h))).trans d1
              have d2_1 := (World.cell?_of_block (a := ⟨gb, j * 3 + 2, none⟩) (oq1.block gb hgb (fun h => h))).trans d2
              clear c0 c1 c2 d0 d1 d2 HI oq1
              generalize wr.drewN nq = W1 at *
              go_upto_region 8 with fail
              go_quiet (fail)
              have oq2 := (Only.refl (fun _ => False) W1).drewO nq
              have HQ2 := hide ((unhide HQ1).quiet oq2)
              have c0_1_2 := (World.cell?_of_block (a := ⟨ga, i * 3, none⟩) (oq2.block ga gal_1 (fun h => h))).trans c0_1
              have gal_2 := Nat.lt_of_lt_of_le gal_1 oq2.size
              have c1_1_2 := (World.cell?_of_block (a := ⟨ga, i * 3 + 1, none⟩) (oq2.block ga gal_1 (fun h => h))).trans c1_1
              have c2_1_2 := (World.cell?_of_block (a := ⟨ga, i * 3 + 2, none⟩) (oq2.block ga gal_1 (fun h => h))).trans c2_1
              have d0_1_2 := (World.cell?_of_block (a := ⟨gb, j * 3, none⟩) (oq2.block gb gbl_1 (fun h => h))).trans d0_1
              have gbl_2 := Nat.lt_of_lt_of_le gbl_1 oq2.size
              have d1_1_2 := (World.cell?_of_block (a := ⟨gb, j * 3 + 1, none⟩) (oq2.block gb gbl_1 (fun h => h))).trans d1_1
              have d2_1_2 := (World.cell?_of_block (a := ⟨gb, j * 3 + 2, none⟩) (oq2.block gb gbl_1 (fun h => h))).trans d2_1
              clear c0_1 c1_1 c2_1 d0_1 d1_1 d2_1 HQ1 oq2
              generalize W1.drewN nq = W2 at *
              go_upto_region 11 with fail
              go_quiet (fail)
              have oq3 := (Only.refl (fun _ => False) W2).drewO nq
              have HQ3 := hide ((unhide HQ2).quiet oq3)
              have c0_1_2_3 := (World.cell?_of_block (a := ⟨ga, i * 3, none⟩) (oq3.block ga gal_2 (fun h => h))).trans c0_1_2
              have gal_3 := Nat.lt_of_lt_of_le gal_2 oq3.size
              have c1_1_2_3 := (World.cell?_of_block (a := ⟨ga, i * 3 + 1, none⟩) (oq3.block ga gal_2 (fun h => h))).trans c1_1_2
              have c2_1_2_3 := (World.cell?_of_block (a := ⟨ga, i * 3 + 2, none⟩) (oq3.block ga gal_2 (fun h => h))).trans c2_1_2
              have d0_1_2_3 := (World.cell?_of_block (a := ⟨gb, j * 3, none⟩) (oq3.block gb gbl_2 (fun h => h))).trans d0_1_2
              have gbl_3 := Nat.lt_of_lt_of_le gbl_2 oq3.size
              have d1_1_2_3 := (World.cell?_of_block (a := ⟨gb, j * 3 + 1, none⟩) (oq3.block gb gbl_2 (fun h => h))).trans d1_1_2
              have d2_1_2_3 := (World.cell?_of_block (a := ⟨gb, j * 3 + 2, none⟩) (oq3.block gb gbl_2 (fun h => h))).trans d2_1_2
              clear c0_1_2 c1_1_2 c2_1_2 d0_1_2 d1_1_2 d2_1_2 HQ2 oq3
              generalize W2.drewN nq = W3 at *
              go_wp2_with fail
              go_roundw
              case rel => exact ⟨i + 1, j + 1, out, by go_num, by go_num, unhide HT, unhide HQ3⟩
              case measure => simp [intOf]; omega
            · have HT := hide (hT.chg hi hj hlt hlt2 he)
              have HI := hide hI
              have e3 : (A[i].path.toList == B[j].path.toList) = true := by rw [hpp]; simp
              by_cases hd : A[i].data = B[j].data
              · have e4 : (A[i].data.toList == B[j].data.toList) = true := by rw [hd]; simp
                have e5 : (A[i].mode == B[j].mode) = false := by
                  have h2 : A[i].mode ≠ B[j].mode := fun h => he ⟨hd, h⟩
                  simpa using h2
                generalize A[i] = x at *
                generalize B[j] = y at *
                clear hT hI hlt hlt2 hpp he hd
                go_wp2_with fail
                go_quiet (fail)
                have oq1 := (Only.refl (fun _ => False) wr).drewO nq
                have HQ1 := hide ((unhide HI).quiet oq1)
                have c0_1 := (World.cell?_of_block (a := ⟨ga, i * 3, none⟩) (oq1.block ga hga (fun h => h))).trans c0
                have gal_1 := Nat.lt_of_lt_of_le hga oq1.size
                have c1_1 := (World.cell?_of_block (a := ⟨ga, i * 3 + 1, none⟩) (oq1.block ga hga (fun h => h))).trans c1
                have c2_1 := (World.cell?_of_block (a := ⟨ga, i * 3 + 2, none⟩) (oq1.block ga hga (fun h => h))).trans c2
                have d0_1 := (World.cell?_of_block (a := ⟨gb, j * 3, none⟩) (oq1.block gb hgb (fun h => h))).trans d0
                have gbl_1 := Nat.lt_of_lt_of_le hgb oq1.size
                have d1_1 := (World.cell?_of_block (a := ⟨gb, j * 3 + 1, none⟩) (oq1.block gb hgb (fun h => h))).trans d1
                have d2_1 := (World.cell?_of_block (a := ⟨gb, j * 3 + 2, none⟩) (oq1.block gb hgb (fun h => h))).trans d2
                clear c0 c1 c2 d0 d1 d2 HI oq1
                generalize wr.drewN nq = W1 at *
                go_upto_region 8 with fail
                go_quiet (fail)
                have oq2 := (Only.refl (fun _ => False) W1).drewO nq
                have HQ2 := hide ((unhide HQ1).quiet oq2)
                have c0_1_2 := (World.cell?_of_block (a := ⟨ga, i * 3, none⟩) (oq2.block ga gal_1 (fun h => h))).trans c0_1
                have gal_2 := Nat.lt_of_lt_of_le gal_1 oq2.size
                have c1_1_2 := (World.cell?_of_block (a := ⟨ga, i * 3 + 1, none⟩) (oq2.block ga gal_1 (fun h => h))).trans c1_1
                have c2_1_2 := (World.cell?_of_block (a := ⟨ga, i * 3 + 2, none⟩) (oq2.block ga gal_1 (fun h => h))).trans c2_1
                have d0_1_2 := (World.cell?_of_block (a := ⟨gb, j * 3, none⟩) (oq2.block gb gbl_1 (fun h => h))).trans d0_1
                have gbl_2 := Nat.lt_of_lt_of_le gbl_1 oq2.size
                have d1_1_2 := (World.cell?_of_block (a := ⟨gb, j * 3 + 1, none⟩) (oq2.block gb gbl_1 (fun h => h))).trans d1_1
                have d2_1_2 := (World.cell?_of_block (a := ⟨gb, j * 3 + 2, none⟩) (oq2.block gb gbl_1 (fun h => h))).trans d2_1
                clear c0_1 c1_1 c2_1 d0_1 d1_1 d2_1 HQ1 oq2
                generalize W1.drewN nq = W2 at *
                go_upto_region 11 with fail
                go_quiet (fail)
                have oq3 := (Only.refl (fun _ => False) W2).drewO nq
                have HQ3 := hide ((unhide HQ2).quiet oq3)
                have c0_1_2_3 := (World.cell?_of_block (a := ⟨ga, i * 3, none⟩) (oq3.block ga gal_2 (fun h => h))).trans c0_1_2
                have gal_3 := Nat.lt_of_lt_of_le gal_2 oq3.size
                have c1_1_2_3 := (World.cell?_of_block (a := ⟨ga, i * 3 + 1, none⟩) (oq3.block ga gal_2 (fun h => h))).trans c1_1_2
                have c2_1_2_3 := (World.cell?_of_block (a := ⟨ga, i * 3 + 2, none⟩) (oq3.block ga gal_2 (fun h => h))).trans c2_1_2
                have d0_1_2_3 := (World.cell?_of_block (a := ⟨gb, j * 3, none⟩) (oq3.block gb gbl_2 (fun h => h))).trans d0_1_2
                have gbl_3 := Nat.lt_of_lt_of_le gbl_2 oq3.size
                have d1_1_2_3 := (World.cell?_of_block (a := ⟨gb, j * 3 + 1, none⟩) (oq3.block gb gbl_2 (fun h => h))).trans d1_1_2
                have d2_1_2_3 := (World.cell?_of_block (a := ⟨gb, j * 3 + 2, none⟩) (oq3.block gb gbl_2 (fun h => h))).trans d2_1_2
                clear c0_1_2 c1_1_2 c2_1_2 d0_1_2 d1_1_2 d2_1_2 HQ2 oq3
                generalize W2.drewN nq = W3 at *
                have own4 : W3.ownsRow 0 65 3 _ _ _ := (unhide HQ3).own
                go_wp2_with (at_builtin; refine wpList_append2 _ rfl _ _ 63 rfl 65 i0 _ 3 32 Try.underlying63 hi0 hz0 hz1 hz2 rfl (by decide) _ _ _ rfl (own4.alloc _) ⟨W3.heap.size, 0, none⟩ 1 1 [.string x.path, .int .i64 2, .int .i64 0] rfl rfl ?e1 ?e2 ?e3 ?e4 ?_)
                try (case e1 => exact news_ok _ _ _ _ rfl)
                case e2 => intro u hu; simp at hu; rcases hu with rfl | rfl | rfl <;> rfl
                case e3 => unfold maxLen; omega
                case e4 => omega
                intro v4 w4 hown' hgrow hwhere
                have h4 := (unhide HQ3).push ⟨x.path, 2, 0⟩ hown' (by first | rfl | omega) hgrow hwhere
                have H4 := hide h4
                clear hown' hgrow hwhere own4 HQ3 h4
                go_wp2_with fail
                go_roundw
                case rel => exact ⟨i + 1, j + 1, _, by go_num, by go_num, unhide HT, unhide H4⟩
                case measure => simp [intOf]; omega
              · have e4 : (A[i].data.toList == B[j].data.toList) = false := str_ne hd
                generalize A[i] = x at *
                generalize B[j] = y at *
                clear hT hI hlt hlt2 hpp he hd
                go_wp2_with fail
                go_quiet (fail)
                have oq1 := (Only.refl (fun _ => False) wr).drewO nq
                have HQ1 := hide ((unhide HI).quiet oq1)
                have c0_1 := (World.cell?_of_block (a := ⟨ga, i * 3, none⟩) (oq1.block ga hga (fun h => h))).trans c0
                have gal_1 := Nat.lt_of_lt_of_le hga oq1.size
                have c1_1 := (World.cell?_of_block (a := ⟨ga, i * 3 + 1, none⟩) (oq1.block ga hga (fun h => h))).trans c1
                have c2_1 := (World.cell?_of_block (a := ⟨ga, i * 3 + 2, none⟩) (oq1.block ga hga (fun h => h))).trans c2
                have d0_1 := (World.cell?_of_block (a := ⟨gb, j * 3, none⟩) (oq1.block gb hgb (fun h => h))).trans d0
                have gbl_1 := Nat.lt_of_lt_of_le hgb oq1.size
                have d1_1 := (World.cell?_of_block (a := ⟨gb, j * 3 + 1, none⟩) (oq1.block gb hgb (fun h => h))).trans d1
                have d2_1 := (World.cell?_of_block (a := ⟨gb, j * 3 + 2, none⟩) (oq1.block gb hgb (fun h => h))).trans d2
                clear c0 c1 c2 d0 d1 d2 HI oq1
                generalize wr.drewN nq = W1 at *
                go_upto_region 8 with fail
                go_quiet (fail)
                have oq2 := (Only.refl (fun _ => False) W1).drewO nq
                have HQ2 := hide ((unhide HQ1).quiet oq2)
                have c0_1_2 := (World.cell?_of_block (a := ⟨ga, i * 3, none⟩) (oq2.block ga gal_1 (fun h => h))).trans c0_1
                have gal_2 := Nat.lt_of_lt_of_le gal_1 oq2.size
                have c1_1_2 := (World.cell?_of_block (a := ⟨ga, i * 3 + 1, none⟩) (oq2.block ga gal_1 (fun h => h))).trans c1_1
                have c2_1_2 := (World.cell?_of_block (a := ⟨ga, i * 3 + 2, none⟩) (oq2.block ga gal_1 (fun h => h))).trans c2_1
                have d0_1_2 := (World.cell?_of_block (a := ⟨gb, j * 3, none⟩) (oq2.block gb gbl_1 (fun h => h))).trans d0_1
                have gbl_2 := Nat.lt_of_lt_of_le gbl_1 oq2.size
                have d1_1_2 := (World.cell?_of_block (a := ⟨gb, j * 3 + 1, none⟩) (oq2.block gb gbl_1 (fun h => h))).trans d1_1
                have d2_1_2 := (World.cell?_of_block (a := ⟨gb, j * 3 + 2, none⟩) (oq2.block gb gbl_1 (fun h => h))).trans d2_1
                clear c0_1 c1_1 c2_1 d0_1 d1_1 d2_1 HQ1 oq2
                generalize W1.drewN nq = W2 at *
                go_upto_region 11 with fail
                go_quiet (fail)
                have oq3 := (Only.refl (fun _ => False) W2).drewO nq
                have HQ3 := hide ((unhide HQ2).quiet oq3)
                have c0_1_2_3 := (World.cell?_of_block (a := ⟨ga, i * 3, none⟩) (oq3.block ga gal_2 (fun h => h))).trans c0_1_2
                have gal_3 := Nat.lt_of_lt_of_le gal_2 oq3.size
                have c1_1_2_3 := (World.cell?_of_block (a := ⟨ga, i * 3 + 1, none⟩) (oq3.block ga gal_2 (fun h => h))).trans c1_1_2
                have c2_1_2_3 := (World.cell?_of_block (a := ⟨ga, i * 3 + 2, none⟩) (oq3.block ga gal_2 (fun h => h))).trans c2_1_2
                have d0_1_2_3 := (World.cell?_of_block (a := ⟨gb, j * 3, none⟩) (oq3.block gb gbl_2 (fun h => h))).trans d0_1_2
                have gbl_3 := Nat.lt_of_lt_of_le gbl_2 oq3.size
                have d1_1_2_3 := (World.cell?_of_block (a := ⟨gb, j * 3 + 1, none⟩) (oq3.block gb gbl_2 (fun h => h))).trans d1_1_2
                have d2_1_2_3 := (World.cell?_of_block (a := ⟨gb, j * 3 + 2, none⟩) (oq3.block gb gbl_2 (fun h => h))).trans d2_1_2
                clear c0_1_2 c1_1_2 c2_1_2 d0_1_2 d1_1_2 d2_1_2 HQ2 oq3
                generalize W2.drewN nq = W3 at *
                have own4 : W3.ownsRow 0 65 3 _ _ _ := (unhide HQ3).own
                go_wp2_with (at_builtin; refine wpList_append2 _ rfl _ _ 63 rfl 65 i0 _ 3 32 Try.underlying63 hi0 hz0 hz1 hz2 rfl (by decide) _ _ _ rfl (own4.alloc _) ⟨W3.heap.size, 0, none⟩ 1 1 [.string x.path, .int .i64 2, .int .i64 0] rfl rfl ?f1 ?f2 ?f3 ?f4 ?_)
                try (case f1 => exact news_ok _ _ _ _ rfl)
                case f2 => intro u hu; simp at hu; rcases hu with rfl | rfl | rfl <;> rfl
                case f3 => unfold maxLen; omega
                case f4 => omega
                intro v4 w4 hown' hgrow hwhere
                have h4 := (unhide HQ3).push ⟨x.path, 2, 0⟩ hown' (by first | rfl | omega) hgrow hwhere
                have H4 := hide h4
                clear hown' hgrow hwhere own4 HQ3 h4
                go_wp2_with fail
                go_roundw
                case rel => exact ⟨i + 1, j + 1, _, by go_num, by go_num, unhide HT, unhide H4⟩
                case measure => simp [intOf]; omega
      · have t2 : decide ((j : Int) < (B.length : Int)) = false := decide_eq_false (by omega)
        have t2n : decide (j < B.length) = false := decide_eq_false (by omega)
        have t2g : decide ((B.length : Int) ≤ (j : Int)) = true := decide_eq_true (by omega)
        have t2gn : decide (B.length ≤ j) = true := decide_eq_true (by omega)
        have HT := hide (hT.rem0 hi (by omega))
        have HI := hide hI
        generalize A[i] = x at *
        clear hT hI c1 c2
        go_wp2_with fail
        go_quiet (fail)
        have oq1 := (Only.refl (fun _ => False) wr).drewO nq
        have HQ1 := hide ((unhide HI).quiet oq1)
        have c0_1 := (World.cell?_of_block (a := ⟨ga, i * 3, none⟩) (oq1.block ga hga (fun h => h))).trans c0
        have gal_1 := Nat.lt_of_lt_of_le hga oq1.size
        clear c0 HI oq1
        generalize wr.drewN nq = W1 at *
        have own4 : W1.ownsRow 0 65 3 _ _ _ := (unhide HQ1).own
        go_wp2_with (at_builtin; refine wpList_append2 _ rfl _ _ 63 rfl 65 i0 _ 3 32 Try.underlying63 hi0 hz0 hz1 hz2 rfl (by decide) _ _ _ rfl (own4.alloc _) ⟨W1.heap.size, 0, none⟩ 1 1 [.string x.path, .int .i64 3, .int .i64 0] rfl rfl ?g1 ?g2 ?g3 ?g4 ?_)
        try (case g1 => exact news_ok _ _ _ _ rfl)
        case g2 => intro u hu; simp at hu; rcases hu with rfl | rfl | rfl <;> rfl
        case g3 => unfold maxLen; omega
        case g4 => omega
        intro v4 w4 hown' hgrow hwhere
        have h4 := (unhide HQ1).push ⟨x.path, 3, 0⟩ hown' (by first | rfl | omega) hgrow hwhere
        have H4 := hide h4
        clear hown' hgrow hwhere own4 HQ1 h4
        go_wp2_with fail
        go_roundw
        case rel => exact ⟨i + 1, j, _, by go_num, rfl, unhide HT, unhide H4⟩
        case measure => simp [intOf]; omega
    · have t1 : decide ((i : Int) < (A.length : Int)) = false := decide_eq_false (by omega)
      have t1n : decide (i < A.length) = false := decide_eq_false (by omega)
      have t1g : decide ((A.length : Int) ≤ (i : Int)) = true := decide_eq_true (by omega)
      have t1gn : decide (A.length ≤ i) = true := decide_eq_true (by omega)
      by_cases hj : j < B.length
      · have t2 : decide ((j : Int) < (B.length : Int)) = true := decide_eq_true (by omega)
        have t2n : decide (j < B.length) = true := decide_eq_true (by omega)
        have t2' : (j : Int) < (B.length : Int) := by omega
        have t2g : decide ((B.length : Int) ≤ (j : Int)) = false := decide_eq_false (by omega)
        have t2gn : decide (B.length ≤ j) = false := decide_eq_false (by omega)
        obtain ⟨gb, rfl, hgb, d0, d1, d2⟩ := files_at (unhide HB) hI.ho j hj
        have HT := hide (hT.add0 (by omega) hj)
        have HI := hide hI
        generalize B[j] = y at *
        clear hT hI d1 d2
        go_wp2_with fail
        go_quiet (fail)
        have oq1 := (Only.refl (fun _ => False) wr).drewO nq
        have HQ1 := hide ((unhide HI).quiet oq1)
        have d0_1 := (World.cell?_of_block (a := ⟨gb, j * 3, none⟩) (oq1.block gb hgb (fun h => h))).trans d0
        have gbl_1 := Nat.lt_of_lt_of_le hgb oq1.size
        clear d0 HI oq1
        generalize wr.drewN nq = W1 at *
        go_upto_region 8 with fail
        go_quiet (fail)
        have oq2 := (Only.refl (fun _ => False) W1).drewO nq
        have HQ2 := hide ((unhide HQ1).quiet oq2)
        have d0_1_2 := (World.cell?_of_block (a := ⟨gb, j * 3, none⟩) (oq2.block gb gbl_1 (fun h => h))).trans d0_1
        have gbl_2 := Nat.lt_of_lt_of_le gbl_1 oq2.size
        clear d0_1 HQ1 oq2
        generalize W1.drewN nq = W2 at *
        have own4 : W2.ownsRow 0 65 3 _ _ _ := (unhide HQ2).own
        go_wp2_with (at_builtin; refine wpList_append2 _ rfl _ _ 63 rfl 65 i0 _ 3 32 Try.underlying63 hi0 hz0 hz1 hz2 rfl (by decide) _ _ _ rfl (own4.alloc _) ⟨W2.heap.size, 0, none⟩ 1 1 [.string y.path, .int .i64 1, .int .i64 0] rfl rfl ?h1 ?h2 ?h3 ?h4 ?_)
        try (case h1 => exact news_ok _ _ _ _ rfl)
        case h2 => intro u hu; simp at hu; rcases hu with rfl | rfl | rfl <;> rfl
        case h3 => unfold maxLen; omega
        case h4 => omega
        intro v4 w4 hown' hgrow hwhere
        have h4 := (unhide HQ2).push ⟨y.path, 1, 0⟩ hown' (by first | rfl | omega) hgrow hwhere
        have H4 := hide h4
        clear hown' hgrow hwhere own4 HQ2 h4
        go_wp2_with fail
        go_roundw
        case rel => exact ⟨i, j + 1, _, rfl, by go_num, unhide HT, unhide H4⟩
        case measure => simp [intOf]; omega
      · have t2 : decide ((j : Int) < (B.length : Int)) = false := decide_eq_false (by omega)
        have t2n : decide (j < B.length) = false := decide_eq_false (by omega)
        have hE := hT.fin (by omega) (by omega)
        rw [unhide HR] at hE
        subst hE
        have HI := hide hI
        clear hT hI
        go_wp2_with fail
        go_ret
        exact ⟨_, rfl, unhide HI⟩
end Go.Proofs.Qxb6500416a
