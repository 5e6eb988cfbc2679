/-
  OWN WORK. THE TREE: rows, walked.
-/
import Derived.Test.Qxb6500417aGreatTRows
namespace Go.Proofs.Qxb6500417aGreat
open Go.RowKit Go.PlainAid
set_option linter.unusedSimpArgs false
set_option linter.unusedVariables false

theorem usize_run (W : World) : (sizeOf 5).run Tryz.prog W = .ok 1 W := by
  obtain ⟨i, hi, hz, hs, hb⟩ := info_parts Tryz.tinfoU8
  simp [sizeOf, typeInfo, hi, hs]
theorem urun_slice (g n cap i j : Nat) (hij : i ≤ j) (hj : j ≤ cap) (hic : i ≠ cap) (W : World) :
    (Instr.slice 90 (.slice (some ⟨g, 0, none⟩) n cap) (some (.int .i64 (i : Int))) (some (.int .i64 (j : Int))) none).run Tryz.prog W = .ok (.slice (some ⟨g, i, none⟩) (j - i) (cap - i)) W := by
  have hu := Tryz.underlying90
  have h1 : (j : Int) ≤ (cap : Int) := by omega
  have h2 : (i : Int) ≤ (j : Int) := by omega
  have h3 : ¬ cap = i := fun e => hic e.symm
  simp [Instr.slice, run_underlying hu, Instr.sliceBounds, run_sliceBound, h1, h2, h3, usize_run, addr_add]
theorem ushr (m : Nat) (hm : m ≤ 3) : ((m * 2 : Nat) : Int) = 0 ∨ ((m * 2 : Nat) : Int) = 2 ∨ ((m * 2 : Nat) : Int) = 4 ∨ ((m * 2 : Nat) : Int) = 6 := by omega
set_option maxRecDepth 100000 in
set_option maxHeartbeats 4000000 in
theorem rows_any {w : World} {v : Value} {rs : List Rw} (h : BytesAt w v (encs rs).length (dF (encs rs))) (hw : ∀ r ∈ rs, WfR r) (hl : (encs rs).length ≤ 1000) (hcap : ∀ g n cap, v = .slice (some ⟨g, 0, none⟩) n cap → n ≤ cap ∧ cap ≤ 9223372036854775807) :
    Calls Tryz.prog 173 #[v] w fun e w' => ∃ v', e = .returned v' ∧ RI w v' rs w' := by
  obtain ⟨i0, hi0, hz0, hz1, hz2⟩ := info_parts Tryz.infoLine
  obtain ⟨a, cap, rfl, hc⟩ := h
  have H0 := hide (RI.nil w)
  have Hc := hide hc
  have Hw := hide hw
  have Hcap := hide hcap
  clear hc hw hcap
  generalize hN : (encs rs).length = n at *
  have HN := hide hN
  clear hN
  go_enter Tryz.func173, Tryz.ntmps173
  go_wp2_with fail
  go_loopw [3, 4] (fun ov pv wr => ∃ k q : Nat, k ≤ rs.length ∧ pv = .int .i64 q ∧ q = (encs (rs.take k)).length ∧ q ≤ n ∧ RI w ov (rs.take k) wr) (fun _ pv _ => n - (intOf pv).toNat)
  case atStart => exact ⟨0, 0, by omega, rfl, rfl, by omega, unhide H0⟩
  case round =>
    clear H0
    obtain ⟨k, q, hk, rfl, hq, hqn, hI⟩ := hrel
    by_cases hkl : k < rs.length
    · obtain ⟨d0, d1, d2, d3, d4, d5⟩ := enc_bytes hkl
      have hwf := unhide Hw rs[k] (List.getElem_mem hkl)
      rw [← hq, ] at d0 d1 d2 d3 d4 d5
      rw [unhide HN] at d4
      have b1 := hwf.i1
      have b2 := hwf.i48
      have b3 := hwf.n1
      have b4 := hwf.n12
      have b5 := hwf.m3
      have b6 := hwf.dm
      obtain ⟨g, rfl, hcell⟩ := unhide Hc (by omega)
      obtain ⟨hc1, hc2⟩ := unhide Hcap g n cap rfl
      have hgl : g < w.heap.size := World.block_lt_of_cell? w _ (hcell q (by omega))
      have hbk := hI.ho.block g hgl (fun h => h)
      have x0 := (World.cell?_of_block hbk).trans (hcell q (by omega))
      have x1 := (World.cell?_of_block hbk).trans (hcell (q + 1) (by omega))
      have x2 := (World.cell?_of_block hbk).trans (hcell (q + 2) (by omega))
      rw [d0] at x0
      rw [d1] at x1
      rw [d2] at x2
      have htake : rs.take (k + 1) = rs.take k ++ [rs[k]] := List.take_succ_eq_append_getElem hkl
      have hlen : (rs.take k).length ≤ 1000 := by
        have h1 : ∀ l : List Rw, l.length ≤ (encs l).length := fun l => by
          induction l with
          | nil => simp
          | cons a r ih => rw [encs_cons, List.length_append, enc_len, List.length_cons]; omega
        have := h1 (rs.take k)
        omega
      have hcv : ∀ W, Only (fun _ => False) w W → (convert 90 9 (.slice (some ⟨g, q + 3, none⟩) rs[k].name.length (cap - (q + 3)))).run Tryz.prog W = .ok (.string (sb rs[k].name)) W := fun W hW => by
        have hb := hW.block g hgl (fun h => h)
        refine run_convert_bytes_back (P := Tryz.prog) W 90 9 5 ⟨g, q + 3, none⟩ (cap - (q + 3)) rs[k].name Tryz.underlying90 Tryz.underlying5 Tryz.underlying9 (fun j hj => ?_)
        have e := (World.cell?_of_block hb).trans (hcell (q + (3 + j)) (by omega))
        rw [d3 j hj] at e
        rw [Addr.add_lit, Nat.add_assoc]
        exact e
      have hsl := urun_slice g n cap (q + 3) (q + 3 + rs[k].name.length) (by omega) (by omega) (by omega)
      have Htake := hide htake
      have HI := hide hI
      have Hcv := hide hcv
      have Hq := hide (d5 : _ = _)
      have hsl2 : ∀ W, (Instr.slice 90 (.slice (some ⟨g, 0, none⟩) n cap) (some (.int .i64 ((q : Int) + 3))) (some (.int .i64 ((q : Int) + 3 + (rs[k].name.length : Int)))) none).run Tryz.prog W = .ok (.slice (some ⟨g, q + 3, none⟩) rs[k].name.length (cap - (q + 3))) W := fun W => by
        have := hsl W
        rw [Nat.add_sub_cancel_left, Int.natCast_add, Int.natCast_add] at this
        exact this
      clear htake hI hcv hsl d0 d1 d2 d3 d5 hcell hwf hbk Hc Hcap hq
      have d4' : q + (rs[k].name.length + 3) ≤ n := by omega
      clear d4
      generalize rs[k] = r at *
      generalize rs.take k = T at *
      obtain ⟨rd, rm, ri, rn⟩ := r
      simp only at b1 b2 b3 b4 b5 b6 x1 x2 d4' hsl2 Hcv Hq
      generalize hM : rn.length = M at *
      have hws := (unhide HI).ho.size
      have hgw : g < wr.heap.size := by omega
      have a1 : decide ((q : Int) < (n : Int)) = true := decide_eq_true (by omega)
      have a1n : decide (q < n) = true := decide_eq_true (by omega)
      have a3 : decide ((n : Int) - (q : Int) < 3) = false := decide_eq_false (by omega)
      have a4 : (q : Int) < (n : Int) := by omega
      have a5 : (q : Int) + 1 < (n : Int) := by omega
      have a6 : (q : Int) + 2 < (n : Int) := by omega
      have a7 : decide ((M : Int) < 1) = false := decide_eq_false (by omega)
      have a8 : decide ((n : Int) - (q : Int) - 3 < (M : Int)) = false := decide_eq_false (by omega)
      have a9 : decide ((ri : Int) < 1) = false := decide_eq_false (by omega)
      have a10 : decide ((48 : Int) < (ri : Int)) = false := decide_eq_false (by omega)
      have s1 : (0 : Int) ≤ (q : Int) + 3 := by omega
      have s1' : (0 : Int) ≤ (q : Int) + 3 + (M : Int) := by omega
      have s2 : (q : Int) + 3 ≤ (q : Int) + 3 + (M : Int) := by omega
      have s3 : (q : Int) + 3 + (M : Int) ≤ (cap : Int) := by omega
      have s4 : ((q : Int) + 3).toNat = q + 3 := by omega
      have s5 : ((q : Int) + 3 + (M : Int)).toNat = q + 3 + M := by omega
      have s6 : ¬ cap = q + 3 := by omega
      have s7 : q + 3 + M - (q + 3) = M := by omega
      clear hM
      cases rd with
      | true =>
        have hm0 : rm = 0 := b6 rfl
        subst hm0
        clear b6
        have x0' : wr.cell? ⟨g, q, none⟩ = some (.int .u8 1) := x0
        clear x0
        go_upto_region 6 with fail
        go_region
        all_goals
          have hQ := (unhide HI).quiet ((Only.refl (fun _ => False) wr).drew)
          have hcv2 := unhide Hcv _ hQ.ho
          generalize wr.drew = W2 at *
          have own2 : W2.ownsRow 0 194 4 _ _ _ := hQ.own
          obtain ⟨oa, oc, rfl⟩ := ownsRow_shape hQ.own
          have HQ := hide hQ
          clear hQ HI x0' x1 x2
          go_wp2_with (at_builtin; refine wpList_append2 _ rfl _ _ 191 rfl 194 i0 _ 4 40 Tryz.underlying191 hi0 hz0 hz1 hz2 rfl (by decide) _ _ _ rfl (own2.alloc _) ⟨W2.heap.size, 0, none⟩ 1 1 [.bool true, .int .i64 0, .int .i64 (ri : Int), .string (sb rn)] rfl rfl ?c1_t ?c2_t ?c3_t ?c4_t ?_)
          try (case c1_t => exact news_ok _ _ _ _ rfl)
          case c2_t => intro u hu; simp at hu; rcases hu with rfl | rfl | rfl | rfl <;> rfl
          case c3_t => unfold maxLen; omega
          case c4_t => omega
          intro v4 w4 hown hgrow hwhere
          have h4 := (unhide HQ).push ⟨true, 0, ri, rn⟩ hown (by first | rfl | omega | (simp; omega)) hgrow hwhere
          have H4 := hide h4
          clear hown hgrow hwhere own2 HQ h4 hcv2
          go_wp2_with fail
          go_roundw
          case rel => exact ⟨k + 1, q + (3 + M), by omega, by go_num, by rw [unhide Hq], by omega, by rw [unhide Htake]; exact unhide H4⟩
          case measure => simp [intOf]; omega
      | false =>
        clear b6
        obtain e | e | e | e : rm = 0 ∨ rm = 1 ∨ rm = 2 ∨ rm = 3 := by omega
        · subst e
          have x0' : wr.cell? ⟨g, q, none⟩ = some (.int .u8 0) := x0
          clear x0
          go_upto_region 6 with fail
          go_region
          all_goals
            have hQ := (unhide HI).quiet ((Only.refl (fun _ => False) wr).drew)
            have hcv2 := unhide Hcv _ hQ.ho
            generalize wr.drew = W2 at *
            have own2 : W2.ownsRow 0 194 4 _ _ _ := hQ.own
            obtain ⟨oa, oc, rfl⟩ := ownsRow_shape hQ.own
            have HQ := hide hQ
            clear hQ HI x0' x1 x2
            go_wp2_with (at_builtin; refine wpList_append2 _ rfl _ _ 191 rfl 194 i0 _ 4 40 Tryz.underlying191 hi0 hz0 hz1 hz2 rfl (by decide) _ _ _ rfl (own2.alloc _) ⟨W2.heap.size, 0, none⟩ 1 1 [.bool false, .int .i64 0, .int .i64 (ri : Int), .string (sb rn)] rfl rfl ?c1_f0 ?c2_f0 ?c3_f0 ?c4_f0 ?_)
            try (case c1_f0 => exact news_ok _ _ _ _ rfl)
            case c2_f0 => intro u hu; simp at hu; rcases hu with rfl | rfl | rfl | rfl <;> rfl
            case c3_f0 => unfold maxLen; omega
            case c4_f0 => omega
            intro v4 w4 hown hgrow hwhere
            have h4 := (unhide HQ).push ⟨false, 0, ri, rn⟩ hown (by first | rfl | omega | (simp; omega)) hgrow hwhere
            have H4 := hide h4
            clear hown hgrow hwhere own2 HQ h4 hcv2
            go_wp2_with fail
            go_roundw
            case rel => exact ⟨k + 1, q + (3 + M), by omega, by go_num, by rw [unhide Hq], by omega, by rw [unhide Htake]; exact unhide H4⟩
            case measure => simp [intOf]; omega
        · subst e
          have x0' : wr.cell? ⟨g, q, none⟩ = some (.int .u8 2) := x0
          clear x0
          go_upto_region 6 with fail
          go_region
          all_goals
            have hQ := (unhide HI).quiet ((Only.refl (fun _ => False) wr).drew)
            have hcv2 := unhide Hcv _ hQ.ho
            generalize wr.drew = W2 at *
            have own2 : W2.ownsRow 0 194 4 _ _ _ := hQ.own
            obtain ⟨oa, oc, rfl⟩ := ownsRow_shape hQ.own
            have HQ := hide hQ
            clear hQ HI x0' x1 x2
            go_wp2_with (at_builtin; refine wpList_append2 _ rfl _ _ 191 rfl 194 i0 _ 4 40 Tryz.underlying191 hi0 hz0 hz1 hz2 rfl (by decide) _ _ _ rfl (own2.alloc _) ⟨W2.heap.size, 0, none⟩ 1 1 [.bool false, .int .i64 1, .int .i64 (ri : Int), .string (sb rn)] rfl rfl ?c1_f1 ?c2_f1 ?c3_f1 ?c4_f1 ?_)
            try (case c1_f1 => exact news_ok _ _ _ _ rfl)
            case c2_f1 => intro u hu; simp at hu; rcases hu with rfl | rfl | rfl | rfl <;> rfl
            case c3_f1 => unfold maxLen; omega
            case c4_f1 => omega
            intro v4 w4 hown hgrow hwhere
            have h4 := (unhide HQ).push ⟨false, 1, ri, rn⟩ hown (by first | rfl | omega | (simp; omega)) hgrow hwhere
            have H4 := hide h4
            clear hown hgrow hwhere own2 HQ h4 hcv2
            go_wp2_with fail
            go_roundw
            case rel => exact ⟨k + 1, q + (3 + M), by omega, by go_num, by rw [unhide Hq], by omega, by rw [unhide Htake]; exact unhide H4⟩
            case measure => simp [intOf]; omega
        · subst e
          have x0' : wr.cell? ⟨g, q, none⟩ = some (.int .u8 4) := x0
          clear x0
          go_upto_region 6 with fail
          go_region
          all_goals
            have hQ := (unhide HI).quiet ((Only.refl (fun _ => False) wr).drew)
            have hcv2 := unhide Hcv _ hQ.ho
            generalize wr.drew = W2 at *
            have own2 : W2.ownsRow 0 194 4 _ _ _ := hQ.own
            obtain ⟨oa, oc, rfl⟩ := ownsRow_shape hQ.own
            have HQ := hide hQ
            clear hQ HI x0' x1 x2
            go_wp2_with (at_builtin; refine wpList_append2 _ rfl _ _ 191 rfl 194 i0 _ 4 40 Tryz.underlying191 hi0 hz0 hz1 hz2 rfl (by decide) _ _ _ rfl (own2.alloc _) ⟨W2.heap.size, 0, none⟩ 1 1 [.bool false, .int .i64 2, .int .i64 (ri : Int), .string (sb rn)] rfl rfl ?c1_f2 ?c2_f2 ?c3_f2 ?c4_f2 ?_)
            try (case c1_f2 => exact news_ok _ _ _ _ rfl)
            case c2_f2 => intro u hu; simp at hu; rcases hu with rfl | rfl | rfl | rfl <;> rfl
            case c3_f2 => unfold maxLen; omega
            case c4_f2 => omega
            intro v4 w4 hown hgrow hwhere
            have h4 := (unhide HQ).push ⟨false, 2, ri, rn⟩ hown (by first | rfl | omega | (simp; omega)) hgrow hwhere
            have H4 := hide h4
            clear hown hgrow hwhere own2 HQ h4 hcv2
            go_wp2_with fail
            go_roundw
            case rel => exact ⟨k + 1, q + (3 + M), by omega, by go_num, by rw [unhide Hq], by omega, by rw [unhide Htake]; exact unhide H4⟩
            case measure => simp [intOf]; omega
        · subst e
          have x0' : wr.cell? ⟨g, q, none⟩ = some (.int .u8 6) := x0
          clear x0
          go_upto_region 6 with fail
          go_region
          all_goals
            have hQ := (unhide HI).quiet ((Only.refl (fun _ => False) wr).drew)
            have hcv2 := unhide Hcv _ hQ.ho
            generalize wr.drew = W2 at *
            have own2 : W2.ownsRow 0 194 4 _ _ _ := hQ.own
            obtain ⟨oa, oc, rfl⟩ := ownsRow_shape hQ.own
            have HQ := hide hQ
            clear hQ HI x0' x1 x2
            go_wp2_with (at_builtin; refine wpList_append2 _ rfl _ _ 191 rfl 194 i0 _ 4 40 Tryz.underlying191 hi0 hz0 hz1 hz2 rfl (by decide) _ _ _ rfl (own2.alloc _) ⟨W2.heap.size, 0, none⟩ 1 1 [.bool false, .int .i64 3, .int .i64 (ri : Int), .string (sb rn)] rfl rfl ?c1_f3 ?c2_f3 ?c3_f3 ?c4_f3 ?_)
            try (case c1_f3 => exact news_ok _ _ _ _ rfl)
            case c2_f3 => intro u hu; simp at hu; rcases hu with rfl | rfl | rfl | rfl <;> rfl
            case c3_f3 => unfold maxLen; omega
            case c4_f3 => omega
            intro v4 w4 hown hgrow hwhere
            have h4 := (unhide HQ).push ⟨false, 3, ri, rn⟩ hown (by first | rfl | omega | (simp; omega)) hgrow hwhere
            have H4 := hide h4
            clear hown hgrow hwhere own2 HQ h4 hcv2
            go_wp2_with fail
            go_roundw
            case rel => exact ⟨k + 1, q + (3 + M), by omega, by go_num, by rw [unhide Hq], by omega, by rw [unhide Htake]; exact unhide H4⟩
            case measure => simp [intOf]; omega
    · have hk2 : k = rs.length := by omega
      have hqe : q = n := by rw [hq, hk2, List.take_length]; exact unhide HN
      have a1 : decide ((q : Int) < (n : Int)) = false := decide_eq_false (by omega)
      have a1n : decide (q < n) = false := decide_eq_false (by omega)
      rw [hk2, List.take_length] at hI
      have HI := hide hI
      clear hI hq hqe hk2
      go_wp2_with fail
      go_ret
      exact ⟨_, rfl, unhide HI⟩
end Go.Proofs.Qxb6500417aGreat
