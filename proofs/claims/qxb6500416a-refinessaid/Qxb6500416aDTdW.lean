/-
  OWN WORK. THE TREE DIFF: the engine's TreeDiff, the model's; the model's Merge.
-/
import Derived.Test.Qxb6500416aDTd
namespace Go.Proofs.Qxb6500416a
open Go.RowKit Go.PlainAid
set_option linter.unusedSimpArgs false
set_option linter.unusedVariables false

def tdErr (A B : List Fl) : Nat := if checkF A = 0 then checkF B else checkF A
def tdRes (A B : List Fl) : List Chg := if tdErr A B = 0 then tdF A B else []
theorem checkF_len {A : List Fl} (h : checkF A = 0) : A.length ≤ 8 := by
  unfold checkF at h
  split at h
  · omega
  · omega
set_option maxRecDepth 100000 in
theorem dtree_bad1 {w : World} (ev v u : Value) (A : List Fl) (hA : FilesIn w v A) (hc : checkF A ≠ 0) (hu : ∃ a n c, u = .slice a n c) :
    Calls Try.prog 31 #[ev, v, u] w fun e w' => e = .returned (.tuple #[.slice none 0 0, .int .i64 (checkF A : Nat)]) ∧ Only (fun _ => False) w w' := by
  have C1 := hide (checkFiles_any v A hA)
  obtain ⟨a, ca, rfl, _⟩ := hA
  obtain ⟨ua, un, uc, rfl⟩ := hu
  generalize checkF A = k at *
  have e1 : ((k : Int) != 0) = true := by simp; omega
  go_enter Try.func31, Try.ntmps31
  go_wp2_with fail
  refine (unhide C1).mono ?_
  rintro e w1 ⟨rfl, o1⟩
  go_wp2_with fail
  go_ret2
  exact ⟨rfl, o1⟩
set_option maxRecDepth 100000 in
theorem dtree_bad2 {w : World} (ev v u : Value) (A B : List Fl) (hA : FilesIn w v A) (hB : FilesIn w u B) (hc : checkF A = 0) (hd : checkF B ≠ 0) :
    Calls Try.prog 31 #[ev, v, u] w fun e w' => e = .returned (.tuple #[.slice none 0 0, .int .i64 (checkF B : Nat)]) ∧ Only (fun _ => False) w w' := by
  have C1 := hide (checkFiles_any v A hA)
  have C2 := hide (fun W (hW : Only (fun _ => False) w W) => checkFiles_any u B (hB.keep hW (fun _ _ h => h)))
  obtain ⟨a, ca, rfl, _⟩ := hA
  obtain ⟨b, cb, rfl, _⟩ := hB
  rw [hc] at C1
  generalize checkF B = k at *
  have e1 : ((k : Int) != 0) = true := by simp; omega
  clear hc
  go_enter Try.func31, Try.ntmps31
  go_wp2_with fail
  refine (unhide C1).mono ?_
  rintro e w1 ⟨rfl, o1⟩
  go_wp2_with fail
  refine (unhide C2 w1 o1).mono ?_
  rintro e w2 ⟨rfl, o2⟩
  go_wp2_with fail
  go_ret2
  exact ⟨rfl, o1.trans o2 (fun _ _ h => h)⟩
set_option maxRecDepth 100000 in
set_option maxHeartbeats 16000000 in
theorem dtree_ok {w : World} (ev v u : Value) (A B : List Fl) (hA : FilesIn w v A) (hB : FilesIn w u B) (hc : checkF A = 0) (hd : checkF B = 0) :
    Calls Try.prog 31 #[ev, v, u] w fun e w' => ∃ v', e = .returned (.tuple #[v', .int .i64 0]) ∧ CI w v' (tdF A B) w' := by
  have hla := checkF_len hc
  have hlb := checkF_len hd
  have C1 := hide (checkFiles_any v A hA)
  have C2 := hide (fun W (hW : Only (fun _ => False) w W) => checkFiles_any u B (hB.keep hW (fun _ _ h => h)))
  rw [hc] at C1
  rw [hd] at C2
  obtain ⟨a, ca, rfl, hca⟩ := hA
  obtain ⟨b, cb, rfl, hcb⟩ := hB
  obtain ⟨i0, hi0, hz0, hz1, hz2⟩ := info_parts Try.infoChg
  have HS := hide (TdAt.start A B)
  have HA := hide hca
  have HB := hide hcb
  generalize hR : tdF A B = R
  have HR := hide hR
  clear hca hcb hR hc hd
  go_enter Try.func31, Try.ntmps31
  go_wp2_with fail
  refine (unhide C1).mono ?_
  rintro e w1 ⟨rfl, o1⟩
  go_wp2_with fail
  refine (unhide C2 w1 o1).mono ?_
  rintro e w2 ⟨rfl, o2⟩
  have o12 := o1.trans o2 (fun _ _ h => h)
  obtain ⟨cu, hm, hsz⟩ := drun_make_chg w2 (A.length + B.length) (by omega)
  push_cast at hm
  have s12 := o12.size
  have hI0 : CI w (.slice (some ⟨w2.heap.size, 0, none⟩) 0 (A.length + B.length)) [] (w2.alloc (.cells cu 65)) :=
    ⟨World.ownsRow_made (base := 0) (e := 65) (size := 3) w2 cu (A.length + B.length) (Nat.zero_le _) (by unfold maxLen; omega) hsz, fun y hy => by simp [Value.ownBlock] at hy; omega, o12.alloc _⟩
  have H0 := hide hI0
  clear hI0 o1 o2 o12 C1 C2 hsz s12
  go_wp2_with fail
  generalize w2.alloc (.cells cu 65) = W2 at *
  generalize Value.slice (some ⟨w2.heap.size, 0, none⟩) 0 (A.length + B.length) = v0 at *
  clear hm
  go_loopw [9, 10, 11] (fun ov iv jv wr => ∃ (i j : Nat) (out : List Chg), iv = .int .i64 i ∧ jv = .int .i64 j ∧ TdAt A B out i j ∧ CI w ov out wr) (fun _ iv jv _ => (A.length - (intOf iv).toNat) + (B.length - (intOf jv).toNat))
  case atStart => exact ⟨0, 0, [], rfl, rfl, unhide HS, unhide H0⟩
  case round =>
    clear HS H0
    obtain ⟨i, j, out, rfl, rfl, hT, hI⟩ := hrel
    have hil := hT.il
    have hjl := hT.jl
    have hol := hT.len
    by_cases hb2 : i < A.length ∧ j < B.length
    · obtain ⟨hi, hj⟩ := hb2
      have t1 : decide ((i : Int) < (A.length : Int)) = true := decide_eq_true (by omega)
      have t1n : decide (i < A.length) = true := decide_eq_true (by omega)
      have t1' : (i : Int) < (A.length : Int) := by omega
      obtain ⟨ga, rfl, hga, c0, c1, c2⟩ := files_at (unhide HA) hI.ho i hi
      have t2 : decide ((j : Int) < (B.length : Int)) = true := decide_eq_true (by omega)
      have t2n : decide (j < B.length) = true := decide_eq_true (by omega)
      have t2' : (j : Int) < (B.length : Int) := by omega
      obtain ⟨gb, rfl, hgb, d0, d1, d2⟩ := files_at (unhide HB) hI.ho j hj
      cases hlt : ltS A[i].path B[j].path with
      | true =>
        have HT := hide (hT.rem hi hj hlt)
        have e1 : Op.bytesLess A[i].path.toList B[j].path.toList = true := hlt
        have HI := hide hI
        generalize A[i] = x at *
        generalize B[j] = y at *
        clear hT hI hlt c1 c2 d1 d2
        go_wp2_with fail
        go_quiet (fail)
        have oq1 := (Only.refl (fun _ => False) wr).drewO nq
        have HQ1 := hide ((unhide HI).quiet oq1)
        have c0_1 := (World.cell?_of_block (a := ⟨ga, i * 3, none⟩) (oq1.block ga hga (fun h => h))).trans c0
        have gal_1 := Nat.lt_of_lt_of_le hga oq1.size
        have d0_1 := (World.cell?_of_block (a := ⟨gb, j * 3, none⟩) (oq1.block gb hgb (fun h => h))).trans d0
        have gbl_1 := Nat.lt_of_lt_of_le hgb oq1.size
        clear c0 d0 HI oq1
        generalize wr.drewN nq = W1 at *
        have own4 : W1.ownsRow 0 65 3 _ _ _ := (unhide HQ1).own
        go_wp2_with (at_builtin; refine wpList_append2 _ rfl _ _ 63 rfl 65 i0 _ 3 32 Try.underlying63 hi0 hz0 hz1 hz2 rfl (by decide) _ _ _ rfl (own4.alloc _) ⟨W1.heap.size, 0, none⟩ 1 1 [.string x.path, .int .i64 3, .int .i64 0] rfl rfl ?a1 ?a2 ?a3 ?a4 ?_)
        try (case a1 => exact news_ok _ _ _ _ rfl)
        case a2 => intro u hu; simp at hu; rcases hu with rfl | rfl | rfl <;> rfl
        case a3 => unfold maxLen; omega
        case a4 => omega
        intro v4 w4 hown' hgrow hwhere
        have h4 := (unhide HQ1).push ⟨x.path, 3, 0⟩ hown' (by first | rfl | omega) hgrow hwhere
        have H4 := hide h4
        clear hown' hgrow hwhere own4 HQ1 h4
        go_wp2_with fail
        go_roundw
        case rel => exact ⟨i + 1, j, _, by go_num, rfl, unhide HT, unhide H4⟩
        case measure => simp [intOf]; omega
      | false =>
        have e1 : Op.bytesLess A[i].path.toList B[j].path.toList = false := hlt
        cases hlt2 : ltS B[j].path A[i].path with
        | true =>
          have HT := hide (hT.add hi hj hlt hlt2)
          have e2 : Op.bytesLess B[j].path.toList A[i].path.toList = true := hlt2
          have HI := hide hI
          generalize A[i] = x at *
          generalize B[j] = y at *
          clear hT hI hlt hlt2 c1 c2 d1 d2
          go_wp2_with fail
          go_quiet (fail)
          have oq1 := (Only.refl (fun _ => False) wr).drewO nq
          have HQ1 := hide ((unhide HI).quiet oq1)
          have c0_1 := (World.cell?_of_block (a := ⟨ga, i * 3, none⟩) (oq1.block ga hga (fun h => h))).trans c0
          have gal_1 := Nat.lt_of_lt_of_le hga oq1.size
          have d0_1 := (World.cell?_of_block (a := ⟨gb, j * 3, none⟩) (oq1.block gb hgb (fun h => h))).trans d0
          have gbl_1 := Nat.lt_of_lt_of_le hgb oq1.size
          clear c0 d0 HI oq1
          generalize wr.drewN nq = W1 at *
          go_upto_region 14 with fail
          go_quiet (fail)
          have oq2 := (Only.refl (fun _ => False) W1).drewO nq
          have HQ2 := hide ((unhide HQ1).quiet oq2)
          have c0_1_2 := (World.cell?_of_block (a := ⟨ga, i * 3, none⟩) (oq2.block ga gal_1 (fun h => h))).trans c0_1
          have gal_2 := Nat.lt_of_lt_of_le gal_1 oq2.size
          have d0_1_2 := (World.cell?_of_block (a := ⟨gb, j * 3, none⟩) (oq2.block gb gbl_1 (fun h => h))).trans d0_1
          have gbl_2 := Nat.lt_of_lt_of_le gbl_1 oq2.size
          clear c0_1 d0_1 HQ1 oq2
          generalize W1.drewN nq = W2 at *
          have own4 : W2.ownsRow 0 65 3 _ _ _ := (unhide HQ2).own
          go_wp2_with (at_builtin; refine wpList_append2 _ rfl _ _ 63 rfl 65 i0 _ 3 32 Try.underlying63 hi0 hz0 hz1 hz2 rfl (by decide) _ _ _ rfl (own4.alloc _) ⟨W2.heap.size, 0, none⟩ 1 1 [.string y.path, .int .i64 1, .int .i64 0] rfl rfl ?b1 ?b2 ?b3 ?b4 ?_)
          try (case b1 => exact news_ok _ _ _ _ rfl)
          case b2 => intro u hu; simp at hu; rcases hu with rfl | rfl | rfl <;> rfl
          case b3 => unfold maxLen; omega
          case b4 => omega
          intro v4 w4 hown' hgrow hwhere
          have h4 := (unhide HQ2).push ⟨y.path, 1, 0⟩ hown' (by first | rfl | omega) hgrow hwhere
          have H4 := hide h4
          clear hown' hgrow hwhere own4 HQ2 h4
          go_wp2_with fail
          go_roundw
          case rel => exact ⟨i, j + 1, _, rfl, by go_num, unhide HT, unhide H4⟩
          case measure => simp [intOf]; omega
        | false =>
          have e2 : Op.bytesLess B[j].path.toList A[i].path.toList = false := hlt2
          by_cases hd : A[i].data = B[j].data
          · have e4 : (A[i].data.toList == B[j].data.toList) = true := by rw [hd]; simp
            by_cases hm : A[i].mode = B[j].mode
            · have e5 : (A[i].mode != B[j].mode) = false := by rw [hm]; simp
              have HT := hide (hT.same hi hj hlt hlt2 ⟨hd, hm⟩)
              have HI := hide hI
              generalize A[i] = x at *
              generalize B[j] = y at *
              clear hT hI hlt hlt2 hd hm
              go_wp2_with fail
              go_quiet (fail)
              have oq1 := (Only.refl (fun _ => False) wr).drewO nq
              have HQ1 := hide ((unhide HI).quiet oq1)
              have c0_1 := (World.cell?_of_block (a := ⟨ga, i * 3, none⟩) (oq1.block ga hga (fun h => h))).trans c0
              have gal_1 := Nat.lt_of_lt_of_le hga oq1.size
              have c1_1 := (World.cell?_of_block (a := ⟨ga, i * 3 + 1, none⟩) (oq1.block ga hga (fun h => h))).trans c1
              have c2_1 := (World.cell?_of_block (a := ⟨ga, i * 3 + 2, none⟩) (oq1.block ga hga (fun h => h))).trans c2
              have d0_1 := (World.cell?_of_block (a := ⟨gb, j * 3, none⟩) (oq1.block gb hgb (fun h => h))).trans d0
              have gbl_1 := Nat.lt_of_lt_of_le hgb oq1.size
              have d1_1 := (World.cell?_of_block (a := ⟨gb, j * 3 + 1, none⟩) (oq1.block gb hgb (fun h => h))).trans d1
              have d2_1 := (World.cell?_of_block (a := ⟨gb, j * 3 + 2, none⟩) (oq1.block gb hgb (fun h => h))).trans d2
              clear c0 c1 c2 d0 d1 d2 HI oq1
              generalize wr.drewN nq = W1 at *
              go_upto_region 14 with fail
              go_quiet (fail)
              have oq2 := (Only.refl (fun _ => False) W1).drewO nq
              have HQ2 := hide ((unhide HQ1).quiet oq2)
              have c0_1_2 := (World.cell?_of_block (a := ⟨ga, i * 3, none⟩) (oq2.block ga gal_1 (fun h => h))).trans c0_1
              have gal_2 := Nat.lt_of_lt_of_le gal_1 oq2.size
              have c1_1_2 := (World.cell?_of_block (a := ⟨ga, i * 3 + 1, none⟩) (oq2.block ga gal_1 (fun h => h))).trans c1_1
              have c2_1_2 := (World.cell?_of_block (a := ⟨ga, i * 3 + 2, none⟩) (oq2.block ga gal_1 (fun h => h))).trans c2_1
              have d0_1_2 := (World.cell?_of_block (a := ⟨gb, j * 3, none⟩) (oq2.block gb gbl_1 (fun h => h))).trans d0_1
              have gbl_2 := Nat.lt_of_lt_of_le gbl_1 oq2.size
              have d1_1_2 := (World.cell?_of_block (a := ⟨gb, j * 3 + 1, none⟩) (oq2.block gb gbl_1 (fun h => h))).trans d1_1
              have d2_1_2 := (World.cell?_of_block (a := ⟨gb, j * 3 + 2, none⟩) (oq2.block gb gbl_1 (fun h => h))).trans d2_1
              clear c0_1 c1_1 c2_1 d0_1 d1_1 d2_1 HQ1 oq2
              generalize W1.drewN nq = W2 at *
              go_upto_region 17 with fail
              go_quiet (fail)
              have oq3 := (Only.refl (fun _ => False) W2).drewO nq
              have HQ3 := hide ((unhide HQ2).quiet oq3)
              have c0_1_2_3 := (World.cell?_of_block (a := ⟨ga, i * 3, none⟩) (oq3.block ga gal_2 (fun h => h))).trans c0_1_2
              have gal_3 := Nat.lt_of_lt_of_le gal_2 oq3.size
              have c1_1_2_3 := (World.cell?_of_block (a := ⟨ga, i * 3 + 1, none⟩) (oq3.block ga gal_2 (fun h => h))).trans c1_1_2
              have c2_1_2_3 := (World.cell?_of_block (a := ⟨ga, i * 3 + 2, none⟩) (oq3.block ga gal_2 (fun h => h))).trans c2_1_2
              have d0_1_2_3 := (World.cell?_of_block (a := ⟨gb, j * 3, none⟩) (oq3.block gb gbl_2 (fun h => h))).trans d0_1_2
              have gbl_3 := Nat.lt_of_lt_of_le gbl_2 oq3.size
              have d1_1_2_3 := (World.cell?_of_block (a := ⟨gb, j * 3 + 1, none⟩) (oq3.block gb gbl_2 (fun h => h))).trans d1_1_2
              have d2_1_2_3 := (World.cell?_of_block (a := ⟨gb, j * 3 + 2, none⟩) (oq3.block gb gbl_2 (fun h => h))).trans d2_1_2
              clear c0_1_2 c1_1_2 c2_1_2 d0_1_2 d1_1_2 d2_1_2 HQ2 oq3
              generalize W2.drewN nq = W3 at *
              go_wp2_with fail
              go_roundw
              case rel => exact ⟨i + 1, j + 1, out, by go_num, by go_num, unhide HT, unhide HQ3⟩
              case measure => simp [intOf]; omega
            · have e5 : (A[i].mode != B[j].mode) = true := by simpa using hm
              have HT := hide (hT.chg hi hj hlt hlt2 (fun h => hm h.2))
              have HI := hide hI
              generalize A[i] = x at *
              generalize B[j] = y at *
              clear hT hI hlt hlt2 hd hm
              go_wp2_with fail
              go_quiet (fail)
              have oq1 := (Only.refl (fun _ => False) wr).drewO nq
              have HQ1 := hide ((unhide HI).quiet oq1)
              have c0_1 := (World.cell?_of_block (a := ⟨ga, i * 3, none⟩) (oq1.block ga hga (fun h => h))).trans c0
              have gal_1 := Nat.lt_of_lt_of_le hga oq1.size
              have c1_1 := (World.cell?_of_block (a := ⟨ga, i * 3 + 1, none⟩) (oq1.block ga hga (fun h => h))).trans c1
              have c2_1 := (World.cell?_of_block (a := ⟨ga, i * 3 + 2, none⟩) (oq1.block ga hga (fun h => h))).trans c2
              have d0_1 := (World.cell?_of_block (a := ⟨gb, j * 3, none⟩) (oq1.block gb hgb (fun h => h))).trans d0
              have gbl_1 := Nat.lt_of_lt_of_le hgb oq1.size
              have d1_1 := (World.cell?_of_block (a := ⟨gb, j * 3 + 1, none⟩) (oq1.block gb hgb (fun h => h))).trans d1
              have d2_1 := (World.cell?_of_block (a := ⟨gb, j * 3 + 2, none⟩) (oq1.block gb hgb (fun h => h))).trans d2
              clear c0 c1 c2 d0 d1 d2 HI oq1
              generalize wr.drewN nq = W1 at *
              go_upto_region 14 with fail
              go_quiet (fail)
              have oq2 := (Only.refl (fun _ => False) W1).drewO nq
              have HQ2 := hide ((unhide HQ1).quiet oq2)
              have c0_1_2 := (World.cell?_of_block (a := ⟨ga, i * 3, none⟩) (oq2.block ga gal_1 (fun h => h))).trans c0_1
              have gal_2 := Nat.lt_of_lt_of_le gal_1 oq2.size
              have c1_1_2 := (World.cell?_of_block (a := ⟨ga, i * 3 + 1, none⟩) (oq2.block ga gal_1 (fun h => h))).trans c1_1
              have c2_1_2 := (World.cell?_of_block (a := ⟨ga, i * 3 + 2, none⟩) (oq2.block ga gal_1 (fun h => h))).trans c2_1
              have d0_1_2 := (World.cell?_of_block (a := ⟨gb, j * 3, none⟩) (oq2.block gb gbl_1 (fun h => h))).trans d0_1
              have gbl_2 := Nat.lt_of_lt_of_le gbl_1 oq2.size
              have d1_1_2 := (World.cell?_of_block (a := ⟨gb, j * 3 + 1, none⟩) (oq2.block gb gbl_1 (fun h => h))).trans d1_1
              have d2_1_2 := (World.cell?_of_block (a := ⟨gb, j * 3 + 2, none⟩) (oq2.block gb gbl_1 (fun h => h))).trans d2_1
              clear c0_1 c1_1 c2_1 d0_1 d1_1 d2_1 HQ1 oq2
              generalize W1.drewN nq = W2 at *
              go_upto_region 17 with fail
              go_quiet (fail)
              have oq3 := (Only.refl (fun _ => False) W2).drewO nq
              have HQ3 := hide ((unhide HQ2).quiet oq3)
              have c0_1_2_3 := (World.cell?_of_block (a := ⟨ga, i * 3, none⟩) (oq3.block ga gal_2 (fun h => h))).trans c0_1_2
              have gal_3 := Nat.lt_of_lt_of_le gal_2 oq3.size
              have c1_1_2_3 := (World.cell?_of_block (a := ⟨ga, i * 3 + 1, none⟩) (oq3.block ga gal_2 (fun h => h))).trans c1_1_2
              have c2_1_2_3 := (World.cell?_of_block (a := ⟨ga, i * 3 + 2, none⟩) (oq3.block ga gal_2 (fun h => h))).trans c2_1_2
              have d0_1_2_3 := (World.cell?_of_block (a := ⟨gb, j * 3, none⟩) (oq3.block gb gbl_2 (fun h => h))).trans d0_1_2
              have gbl_3 := Nat.lt_of_lt_of_le gbl_2 oq3.size
              have d1_1_2_3 := (World.cell?_of_block (a := ⟨gb, j * 3 + 1, none⟩) (oq3.block gb gbl_2 (fun h => h))).trans d1_1_2
              have d2_1_2_3 := (World.cell?_of_block (a := ⟨gb, j * 3 + 2, none⟩) (oq3.block gb gbl_2 (fun h => h))).trans d2_1_2
              clear c0_1_2 c1_1_2 c2_1_2 d0_1_2 d1_1_2 d2_1_2 HQ2 oq3
              generalize W2.drewN nq = W3 at *
              have own4 : W3.ownsRow 0 65 3 _ _ _ := (unhide HQ3).own
              go_wp2_with (at_builtin; refine wpList_append2 _ rfl _ _ 63 rfl 65 i0 _ 3 32 Try.underlying63 hi0 hz0 hz1 hz2 rfl (by decide) _ _ _ rfl (own4.alloc _) ⟨W3.heap.size, 0, none⟩ 1 1 [.string x.path, .int .i64 2, .int .i64 0] rfl rfl ?e1 ?e2 ?e3 ?e4 ?_)
              try (case e1 => exact news_ok _ _ _ _ rfl)
              case e2 => intro u hu; simp at hu; rcases hu with rfl | rfl | rfl <;> rfl
              case e3 => unfold maxLen; omega
              case e4 => omega
              intro v4 w4 hown' hgrow hwhere
              have h4 := (unhide HQ3).push ⟨x.path, 2, 0⟩ hown' (by first | rfl | omega) hgrow hwhere
              have H4 := hide h4
              clear hown' hgrow hwhere own4 HQ3 h4
              go_wp2_with fail
              go_roundw
              case rel => exact ⟨i + 1, j + 1, _, by go_num, by go_num, unhide HT, unhide H4⟩
              case measure => simp [intOf]; omega
          · have e4 : (A[i].data.toList == B[j].data.toList) = false := str_ne hd
            have HT := hide (hT.chg hi hj hlt hlt2 (fun h => hd h.1))
            have HI := hide hI
            generalize A[i] = x at *
            generalize B[j] = y at *
            clear hT hI hlt hlt2 hd
            go_wp2_with fail
            go_quiet (fail)
            have oq1 := (Only.refl (fun _ => False) wr).drewO nq
            have HQ1 := hide ((unhide HI).quiet oq1)
            have c0_1 := (World.cell?_of_block (a := ⟨ga, i * 3, none⟩) (oq1.block ga hga (fun h => h))).trans c0
            have gal_1 := Nat.lt_of_lt_of_le hga oq1.size
            have c1_1 := (World.cell?_of_block (a := ⟨ga, i * 3 + 1, none⟩) (oq1.block ga hga (fun h => h))).trans c1
            have c2_1 := (World.cell?_of_block (a := ⟨ga, i * 3 + 2, none⟩) (oq1.block ga hga (fun h => h))).trans c2
            have d0_1 := (World.cell?_of_block (a := ⟨gb, j * 3, none⟩) (oq1.block gb hgb (fun h => h))).trans d0
            have gbl_1 := Nat.lt_of_lt_of_le hgb oq1.size
            have d1_1 := (World.cell?_of_block (a := ⟨gb, j * 3 + 1, none⟩) (oq1.block gb hgb (fun h => h))).trans d1
            have d2_1 := (World.cell?_of_block (a := ⟨gb, j * 3 + 2, none⟩) (oq1.block gb hgb (fun h => h))).trans d2
            clear c0 c1 c2 d0 d1 d2 HI oq1
            generalize wr.drewN nq = W1 at *
            go_upto_region 14 with fail
            go_quiet (fail)
            have oq2 := (Only.refl (fun _ => False) W1).drewO nq
            have HQ2 := hide ((unhide HQ1).quiet oq2)
            have c0_1_2 := (World.cell?_of_block (a := ⟨ga, i * 3, none⟩) (oq2.block ga gal_1 (fun h => h))).trans c0_1
            have gal_2 := Nat.lt_of_lt_of_le gal_1 oq2.size
            have c1_1_2 := (World.cell?_of_block (a := ⟨ga, i * 3 + 1, none⟩) (oq2.block ga gal_1 (fun h => h))).trans c1_1
            have c2_1_2 := (World.cell?_of_block (a := ⟨ga, i * 3 + 2, none⟩) (oq2.block ga gal_1 (fun h => h))).trans c2_1
            have d0_1_2 := (World.cell?_of_block (a := ⟨gb, j * 3, none⟩) (oq2.block gb gbl_1 (fun h => h))).trans d0_1
            have gbl_2 := Nat.lt_of_lt_of_le gbl_1 oq2.size
            have d1_1_2 := (World.cell?_of_block (a := ⟨gb, j * 3 + 1, none⟩) (oq2.block gb gbl_1 (fun h => h))).trans d1_1
            have d2_1_2 := (World.cell?_of_block (a := ⟨gb, j * 3 + 2, none⟩) (oq2.block gb gbl_1 (fun h => h))).trans d2_1
            clear c0_1 c1_1 c2_1 d0_1 d1_1 d2_1 HQ1 oq2
            generalize W1.drewN nq = W2 at *
            go_upto_region 17 with fail
            go_quiet (fail)
            have oq3 := (Only.refl (fun _ => False) W2).drewO nq
            have HQ3 := hide ((unhide HQ2).quiet oq3)
            have c0_1_2_3 := (World.cell?_of_block (a := ⟨ga, i * 3, none⟩) (oq3.block ga gal_2 (fun h => h))).trans c0_1_2
            have gal_3 := Nat.lt_of_lt_of_le gal_2 oq3.size
            have c1_1_2_3 := (World.cell?_of_block (a := ⟨ga, i * 3 + 1, none⟩) (oq3.block ga gal_2 (fun h => h))).trans c1_1_2
            have c2_1_2_3 := (World.cell?_of_block (a := ⟨ga, i * 3 + 2, none⟩) (oq3.block ga gal_2 (fun h => h))).trans c2_1_2
            have d0_1_2_3 := (World.cell?_of_block (a := ⟨gb, j * 3, none⟩) (oq3.block gb gbl_2 (fun h => h))).trans d0_1_2
            have gbl_3 := Nat.lt_of_lt_of_le gbl_2 oq3.size
            have d1_1_2_3 := (World.cell?_of_block (a := ⟨gb, j * 3 + 1, none⟩) (oq3.block gb gbl_2 (fun h => h))).trans d1_1_2
            have d2_1_2_3 := (World.cell?_of_block (a := ⟨gb, j * 3 + 2, none⟩) (oq3.block gb gbl_2 (fun h => h))).trans d2_1_2
            clear c0_1_2 c1_1_2 c2_1_2 d0_1_2 d1_1_2 d2_1_2 HQ2 oq3
            generalize W2.drewN nq = W3 at *
            have own4 : W3.ownsRow 0 65 3 _ _ _ := (unhide HQ3).own
            go_wp2_with (at_builtin; refine wpList_append2 _ rfl _ _ 63 rfl 65 i0 _ 3 32 Try.underlying63 hi0 hz0 hz1 hz2 rfl (by decide) _ _ _ rfl (own4.alloc _) ⟨W3.heap.size, 0, none⟩ 1 1 [.string x.path, .int .i64 2, .int .i64 0] rfl rfl ?f1 ?f2 ?f3 ?f4 ?_)
            try (case f1 => exact news_ok _ _ _ _ rfl)
            case f2 => intro u hu; simp at hu; rcases hu with rfl | rfl | rfl <;> rfl
            case f3 => unfold maxLen; omega
            case f4 => omega
            intro v4 w4 hown' hgrow hwhere
            have h4 := (unhide HQ3).push ⟨x.path, 2, 0⟩ hown' (by first | rfl | omega) hgrow hwhere
            have H4 := hide h4
            clear hown' hgrow hwhere own4 HQ3 h4
            go_wp2_with fail
            go_roundw
            case rel => exact ⟨i + 1, j + 1, _, by go_num, by go_num, unhide HT, unhide H4⟩
            case measure => simp [intOf]; omega
    · have HT := hide hT
      have HI := hide hI
      have Hb2 := hide hb2
      clear hT hI hb2
      go_upto_region 10 with fail
      go_cut [37] (fun v wx => v = .bool false ∧ wr = wx)
      case first =>
        by_cases hi : i < A.length
        · have t1 : decide ((i : Int) < (A.length : Int)) = true := decide_eq_true (by omega)
          have t1n : decide (i < A.length) = true := decide_eq_true (by omega)
          have t2 : decide ((j : Int) < (B.length : Int)) = false := decide_eq_false (by have := unhide Hb2; omega)
          have t2n : decide (j < B.length) = false := decide_eq_false (by have := unhide Hb2; omega)
          go_wp2_with fail
          go_meet
          exact ⟨by first | rfl | rw [t2n], rfl⟩
        · have t1 : decide ((i : Int) < (A.length : Int)) = false := decide_eq_false (by omega)
          have t1n : decide (i < A.length) = false := decide_eq_false (by omega)
          go_wp2_with fail
          go_meet
          exact ⟨rfl, rfl⟩
      case rest =>
      obtain ⟨rfl, rfl⟩ := hcut
      have hbb := unhide Hb2
      clear Hb2
      go_wp2_with fail
      go_loopw [9, 10] (fun ov iv wr => ∃ (i' : Nat) (out : List Chg), iv = .int .i64 i' ∧ i ≤ i' ∧ TdAt A B out i' j ∧ CI w ov out wr) (fun _ iv _ => A.length - (intOf iv).toNat)
      case atStart => exact ⟨i, out, rfl, by omega, unhide HT, unhide HI⟩
      case round =>
        clear HT HI
        obtain ⟨i', out', rfl, hii, hT, hI⟩ := hrel
        have hil' := hT.il
        have hol' := hT.len
        by_cases hi : i' < A.length
        · have t1 : decide ((i' : Int) < (A.length : Int)) = true := decide_eq_true (by omega)
          have t1' : (i' : Int) < (A.length : Int) := by omega
          obtain ⟨ga, rfl, hga, c0, c1, c2⟩ := files_at (unhide HA) hI.ho i' hi
          have HT := hide (hT.rem0 hi (by omega))
          have HI := hide hI
          generalize A[i'] = x at *
          clear hT hI c1 c2
          have own4 : wr.ownsRow 0 65 3 _ _ _ := (unhide HI).own
          go_wp2_with (at_builtin; refine wpList_append2 _ rfl _ _ 63 rfl 65 i0 _ 3 32 Try.underlying63 hi0 hz0 hz1 hz2 rfl (by decide) _ _ _ rfl (own4.alloc _) ⟨wr.heap.size, 0, none⟩ 1 1 [.string x.path, .int .i64 3, .int .i64 0] rfl rfl ?g1 ?g2 ?g3 ?g4 ?_)
          try (case g1 => exact news_ok _ _ _ _ rfl)
          case g2 => intro u hu; simp at hu; rcases hu with rfl | rfl | rfl <;> rfl
          case g3 => unfold maxLen; omega
          case g4 => omega
          intro v4 w4 hown' hgrow hwhere
          have h4 := (unhide HI).push ⟨x.path, 3, 0⟩ hown' (by first | rfl | omega) hgrow hwhere
          have H4 := hide h4
          clear hown' hgrow hwhere own4 HI h4
          go_wp2_with fail
          go_roundw
          case rel => exact ⟨i' + 1, _, by go_num, by omega, unhide HT, unhide H4⟩
          case measure => simp [intOf]; omega
        · have t1 : decide ((i' : Int) < (A.length : Int)) = false := decide_eq_false (by omega)
          have ei : i' = A.length := by omega
          subst ei
          have HT := hide hT
          have HI := hide hI
          clear hT hI hi
          go_wp2_with fail
          go_loopw [9, 11] (fun ov jv wr => ∃ (j' : Nat) (out : List Chg), jv = .int .i64 j' ∧ TdAt A B out A.length j' ∧ CI w ov out wr) (fun _ jv _ => B.length - (intOf jv).toNat)
          case atStart => exact ⟨j, out', rfl, unhide HT, unhide HI⟩
          case round =>
            clear HT HI
            obtain ⟨j', out2, rfl, hT, hI⟩ := hrel
            have hjl' := hT.jl
            have hol2 := hT.len
            by_cases hj : j' < B.length
            · have t2 : decide ((j' : Int) < (B.length : Int)) = true := decide_eq_true (by omega)
              have t2' : (j' : Int) < (B.length : Int) := by omega
              obtain ⟨gb, rfl, hgb, d0, d1, d2⟩ := files_at (unhide HB) hI.ho j' hj
              have HT := hide (hT.add0 rfl hj)
              have HI := hide hI
              generalize B[j'] = y at *
              clear hT hI d1 d2
              have own4 : wr.ownsRow 0 65 3 _ _ _ := (unhide HI).own
              go_wp2_with (at_builtin; refine wpList_append2 _ rfl _ _ 63 rfl 65 i0 _ 3 32 Try.underlying63 hi0 hz0 hz1 hz2 rfl (by decide) _ _ _ rfl (own4.alloc _) ⟨wr.heap.size, 0, none⟩ 1 1 [.string y.path, .int .i64 1, .int .i64 0] rfl rfl ?h1 ?h2 ?h3 ?h4 ?_)
              try (case h1 => exact news_ok _ _ _ _ rfl)
              case h2 => intro u hu; simp at hu; rcases hu with rfl | rfl | rfl <;> rfl
              case h3 => unfold maxLen; omega
              case h4 => omega
              intro v4 w4 hown' hgrow hwhere
              have h4 := (unhide HI).push ⟨y.path, 1, 0⟩ hown' (by first | rfl | omega) hgrow hwhere
              have H4 := hide h4
              clear hown' hgrow hwhere own4 HI h4
              go_wp2_with fail
              go_roundw
              case rel => exact ⟨j' + 1, _, by go_num, unhide HT, unhide H4⟩
              case measure => simp [intOf]; omega
            · have t2 : decide ((j' : Int) < (B.length : Int)) = false := decide_eq_false (by omega)
              have hE := hT.fin rfl (by omega)
              rw [unhide HR] at hE
              subst hE
              have HI := hide hI
              clear hT hI
              go_wp2_with fail
              go_ret2
              exact ⟨_, rfl, unhide HI⟩
theorem FilesIn.shape {w : World} {v : Value} {l : List Fl} (h : FilesIn w v l) : ∃ a n c, v = .slice a n c := by
  obtain ⟨a, c, e, _⟩ := h
  exact ⟨a, _, c, e⟩
theorem CI.nil' {w w' : World} (ho : Only (fun _ => False) w w') : CI w (.slice none 0 0) [] w' := ⟨OwnC.nil _, fun y hy => by simp [Value.ownBlock] at hy, ho⟩
theorem dtree_any {w : World} (ev v u : Value) (A B : List Fl) (hA : FilesIn w v A) (hB : FilesIn w u B) :
    Calls Try.prog 31 #[ev, v, u] w fun e w' => ∃ v', e = .returned (.tuple #[v', .int .i64 (tdErr A B : Nat)]) ∧ CI w v' (tdRes A B) w' := by
  unfold tdRes tdErr
  by_cases hc : checkF A = 0
  · rw [if_pos hc]
    by_cases hd : checkF B = 0
    · rw [if_pos hd, hd]
      exact dtree_ok ev v u A B hA hB hc hd
    · rw [if_neg hd]
      exact (dtree_bad2 ev v u A B hA hB hc hd).mono (fun e w' h => ⟨_, h.1, CI.nil' h.2⟩)
  · rw [if_neg hc, if_neg hc]
    exact (dtree_bad1 ev v u A hA hc hB.shape).mono (fun e w' h => ⟨_, h.1, CI.nil' h.2⟩)
set_option maxRecDepth 100000 in
theorem dmtree_any {w : World} (ev v u : Value) (A B : List Fl) (hA : FilesIn w v A) (hB : FilesIn w u B) :
    Calls Try.prog 32 #[ev, v, u] w fun e w' => ∃ v', e = .returned (.tuple #[v', .int .i64 (tdErr A B : Nat)]) ∧ CI w v' (tdRes A B) w' := by
  have C1 := hide (checkFiles_any v A hA)
  have C2 := hide (fun W (hW : Only (fun _ => False) w W) => checkFiles_any u B (hB.keep hW (fun _ _ h => h)))
  have C3 := hide (fun W (hW : Only (fun _ => False) w W) h1 h2 => diffFiles_any v u A B (hA.keep hW (fun _ _ h => h)) (hB.keep hW (fun _ _ h => h)) h1 h2)
  have hl1 := @checkF_len A
  have hl2 := @checkF_len B
  have Hl1 := hide hl1
  have Hl2 := hide hl2
  obtain ⟨a, ca, rfl, _⟩ := hA
  obtain ⟨b, cb, rfl, _⟩ := hB
  clear hl1 hl2
  by_cases hc : checkF A = 0
  · by_cases hd : checkF B = 0
    · have EE : Hid (tdErr A B = 0 ∧ tdRes A B = tdF A B) := hide (by
        have e : tdErr A B = 0 := by unfold tdErr; rw [if_pos hc, hd]
        refine ⟨e, ?_⟩
        unfold tdRes
        rw [if_pos e])
      have b1 := unhide Hl1 hc
      have b2 := unhide Hl2 hd
      rw [hc] at C1
      rw [hd] at C2
      clear hc hd
      go_enter Try.func32, Try.ntmps32
      go_wp2_with fail
      refine (unhide C1).mono ?_
      rintro e w1 ⟨rfl, o1⟩
      go_wp2_with fail
      refine (unhide C2 w1 o1).mono ?_
      rintro e w2 ⟨rfl, o2⟩
      have o12 := o1.trans o2 (fun _ _ h => h)
      go_wp2_with fail
      refine (unhide C3 w2 o12 (by omega) (by omega)).mono ?_
      rintro e w3 ⟨v', rfl, hI⟩
      have s := o12.size
      have HI := hide (⟨hI.own, fun y hy => by have := hI.hb y hy; omega, o12.trans hI.ho (fun _ _ h => h)⟩ : CI w v' (tdF A B) w3)
      clear hI
      go_wp2_with fail
      go_ret2
      rw [(unhide EE).1, (unhide EE).2]
      exact ⟨v', rfl, unhide HI⟩
    · have EE : Hid (tdErr A B = checkF B ∧ tdRes A B = []) := hide (by
        have e : tdErr A B = checkF B := by unfold tdErr; rw [if_pos hc]
        refine ⟨e, ?_⟩
        unfold tdRes
        rw [e, if_neg hd])
      rw [hc] at C1
      generalize checkF B = k at *
      have e1 : ((k : Int) != 0) = true := by simp; omega
      clear hc hd
      go_enter Try.func32, Try.ntmps32
      go_wp2_with fail
      refine (unhide C1).mono ?_
      rintro e w1 ⟨rfl, o1⟩
      go_wp2_with fail
      refine (unhide C2 w1 o1).mono ?_
      rintro e w2 ⟨rfl, o2⟩
      go_wp2_with fail
      go_ret2
      rw [(unhide EE).1, (unhide EE).2]
      exact ⟨_, rfl, CI.nil' (o1.trans o2 (fun _ _ h => h))⟩
  · have EE : Hid (tdErr A B = checkF A ∧ tdRes A B = []) := hide (by
      have e : tdErr A B = checkF A := by unfold tdErr; rw [if_neg hc]
      refine ⟨e, ?_⟩
      unfold tdRes
      rw [e, if_neg hc])
    generalize checkF A = k at *
    have e1 : ((k : Int) != 0) = true := by simp; omega
    clear hc
    go_enter Try.func32, Try.ntmps32
    go_wp2_with fail
    refine (unhide C1).mono ?_
    rintro e w1 ⟨rfl, o1⟩
    go_wp2_with fail
    go_ret2
    rw [(unhide EE).1, (unhide EE).2]
    exact ⟨_, rfl, CI.nil' o1⟩
end Go.Proofs.Qxb6500416a
