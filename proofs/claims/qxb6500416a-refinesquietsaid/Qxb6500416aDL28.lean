/-
  OWN WORK. THE LAW OF DIFF: Play (laid by tools/gen_dl27.py).
-/
import Derived.Test.Qxb6500416aDL27
import Derived.Deep.RegionHeldLaw
namespace Go.Proofs.Qxb6500416a
open Go.RowKit Go.PlainAid
set_option linter.unusedSimpArgs false
set_option linter.unusedVariables false

set_option maxRecDepth 100000 in
set_option maxHeartbeats 8000000 in
theorem play_60 {B : Nat} {w : World} {l : Nat} (h : LI B w l) (b c : Int) (s t : ByteArray) :
    Calls Try.prog 12 #[.pointer (some ⟨l, 0, none⟩), .agg #[.int .i64 6, .int .i64 0, .int .i64 b, .int .i64 c, .string s, .string t]] w fun x w' => x = .returned (.bool true) ∧ Stp B l w w' := by
  have oo : Only (fun _ => False) w (w.alloc (.cells #[.int .i64 6, .int .i64 0, .int .i64 b, .int .i64 c, .string s, .string t] 47)) := (Only.refl _ w).alloc _
  have h0 := h.quiet oo
  obtain ⟨ob, hob⟩ : ∃ ob, ob = w.heap.size := ⟨_, rfl⟩
  have ko := Has.new' w #[.int .i64 6, .int .i64 0, .int .i64 b, .int .i64 c, .string s, .string t] 47 ob hob
  obtain ⟨i0, hi0, hz0, hz1, hz2⟩ := info_parts Try.infoFile
  obtain ⟨e, mp, pv, r0, r1, k0, k1, k2, k3, tx, hs, p, A0, A1, L, F, R, M, h0⟩ := h0
  obtain ⟨ra, rc, rfl⟩ := row_lens h0.f0
  have own1 : (w.alloc (.cells #[.int .i64 6, .int .i64 0, .int .i64 b, .int .i64 c, .string s, .string t] 47)).ownsRow 0 60 3 (.slice ra A0.length rc) A0.length (flCells A0) := h0.f0
  have q4 := Has.cell h0.lw 4
  have f4 := Has.free h0.lw 4
  have ll := Has.lt h0.lw
  have hol := ko.lt
  have x1 := ko.cell 1
  have x2 := ko.cell 2
  have x4 := ko.cell 4
  have x5 := ko.cell 5
  have hne : (Value.slice ra A0.length rc).ownBlock ≠ some l := fun hh => h0.lR (h0.rf l (.inl hh))
  have hnb : (Value.slice ra A0.length rc).ownBlock ≠ some ob := fun hh => ownsRow_ne own1 ko (by decide) ob hh rfl
  have RN := hide (And.intro h0.li (oo.mono (T := fun y => B ≤ y) (fun _ _ h => h.elim)))
  have hlb : A0.length ≤ 9 := h0.n0
  have H0 := hide h0
  have OO := hide oo
  have KO := hide ko
  clear h h0 oo
  go_enter Try.func12, Try.ntmps12
  go_upto_region 13 with fail
  rw [← hob]
  clear hob ko
  generalize (w.alloc (.cells #[.int .i64 6, .int .i64 0, .int .i64 b, .int .i64 c, .string s, .string t] 47)) = W0 at *
  by_cases l8 : A0.length ≤ 8
  · have d8 : decide ((A0.length : Int) ≤ 8) = true := decide_eq_true (by omega)
    have d8n : decide (A0.length ≤ 8) = true := decide_eq_true l8
    have HP := hide (fun (W : World) (hW : Only (fun _ => False) W0 W) (w3 : World) (v : Value) => ((unhide H0).quiet hW).push0 (w' := w3) (v := v) l8 ⟨s, t, b⟩)
    go_region
    all_goals
      go_upto_region 14 with fail
      have hWd : Only (fun _ => False) W0 W0.drew := (Only.refl _ W0).drew
      generalize W0.drew = W2 at *
      have own2 := ownsRow_keep own1 hWd (fun _ _ h => h)
      have hl2 := LW.keep (unhide H0).lw hWd (fun h => h)
      have hko := (unhide KO).keep hWd (fun h => h)
      have oD : Only (fun _ => False) W2 (W2.alloc (.cells #[.string s, .string t, .int .i64 b] 60)).drew := ((Only.refl (fun _ => False) W2).alloc _).drew
      have hEl := Has.keep hl2 oD (fun h => h)
      have hEo := hko.keep oD (fun h => h)
      have z1 := hko.cell 1
      have z2 := hko.cell 2
      have z4 := hko.cell 4
      have z5 := hko.cell 5
      have zl := Has.cell hl2 4
      have zf := Has.free hl2 4
      have zlt := Has.lt hl2
      have zot := hko.lt
      have y1 := hEo.cell 1
      have y2 := hEo.cell 2
      have y4 := hEo.cell 4
      have y5 := hEo.cell 5
      have yl := Has.cell hEl 4
      have yf := Has.free hEl 4
      have l5 : A0.length + 1 ≤ maxLen := by unfold maxLen; omega
      have HP2 := hide (unhide HP W2 hWd)
      have hSz := hide hWd
      have hKO2 := hide hko
      have hLW2 := hide hl2
      clear hl2 hko hEl hEo oD own1 x1 x2 x4 x5 q4 f4 hWd
      have hol2 : ob ≠ l := fun e => by have h1 := unhide hKO2; have h2 := unhide hLW2; exact Has.ne h1 h2 (by decide) e
      have hoa : ∀ i : Nat, (⟨l, 4, none⟩ : Addr) ≠ ⟨ob, i, none⟩ := fun i e => hol2 (congrArg Addr.block e).symm
      refine wp_region_held_drew (S := (fun w' => w'.cell? ⟨ob, 1, none⟩ = some (.int .i64 0) ∧ w'.cell? ⟨ob, 2, none⟩ = some (.int .i64 b) ∧ w'.cell? ⟨ob, 4, none⟩ = some (.string s) ∧ w'.cell? ⟨ob, 5, none⟩ = some (.string t))) (by kernel_rfl) ⟨z1, z2, z4, z5⟩ (fun hH0 => ?_)
      refine wpAnyH_take (i := 0) (v := ?v0_1) rfl (by kernel_rfl) (by kernel_rfl) (by kernel_rfl) (fun _ _ _ h => h) (Or.inl ⟨by rfl, ?h0_1⟩) hH0 ?r0_1
      case h0_1 => (intro w hSw; (try dsimp only at hSw); go_simp; (try with_reducible rfl))
      case r0_1 =>
      try simp only [Act.put, List.setIfInBounds_toArray, List.set_cons_zero, List.set_cons_succ]
      refine wpAnyH_take (i := 1) (v := ?v1_2) rfl (by kernel_rfl) (by kernel_rfl) (by kernel_rfl) (fun _ _ _ h => h) (Or.inl ⟨by rfl, ?h1_2⟩) hH0 ?r1_2
      case h1_2 => (intro w hSw; (try dsimp only at hSw); go_simp; (try with_reducible rfl))
      case r1_2 =>
      try simp only [Act.put, List.setIfInBounds_toArray, List.set_cons_zero, List.set_cons_succ]
      refine wpAnyH_take (i := 2) (v := ?v2_3) rfl (by kernel_rfl) (by kernel_rfl) (by kernel_rfl) (fun _ _ _ h => h) (Or.inl ⟨by rfl, ?h2_3⟩) hH0 ?r2_3
      case h2_3 => (intro w hSw; (try dsimp only at hSw); go_simp; (try with_reducible rfl))
      case r2_3 =>
      try simp only [Act.put, List.setIfInBounds_toArray, List.set_cons_zero, List.set_cons_succ]
      refine wpAnyH_take (i := 3) (v := ?v3_4) rfl (by kernel_rfl) (by kernel_rfl) (by kernel_rfl) (fun _ _ _ h => h) (Or.inl ⟨by rfl, ?h3_4⟩) hH0 ?r3_4
      case h3_4 => (intro w hSw; (try dsimp only at hSw); go_simp; (try with_reducible rfl))
      case r3_4 =>
      try simp only [Act.put, List.setIfInBounds_toArray, List.set_cons_zero, List.set_cons_succ]
      refine wpAnyH_take (i := 4) (v := ?v4_5) rfl (by kernel_rfl) (by kernel_rfl) (by kernel_rfl) (fun _ _ _ h => h) (Or.inl ⟨by rfl, ?h4_5⟩) hH0 ?r4_5
      case h4_5 => (intro w hSw; (try dsimp only at hSw); go_simp; (try with_reducible rfl))
      case r4_5 =>
      try simp only [Act.put, List.setIfInBounds_toArray, List.set_cons_zero, List.set_cons_succ]
      refine wpAnyH_take (i := 5) (v := ?v5_6) rfl (by kernel_rfl) (by kernel_rfl) (by kernel_rfl) (fun _ _ _ h => h) (Or.inl ⟨by rfl, ?h5_6⟩) hH0 ?r5_6
      case h5_6 => (intro w hSw; (try dsimp only at hSw); go_simp; (try with_reducible rfl))
      case r5_6 =>
      try simp only [Act.put, List.setIfInBounds_toArray, List.set_cons_zero, List.set_cons_succ]
      refine wpAnyH_take (i := 6) (v := ?v6_7) rfl (by kernel_rfl) (by kernel_rfl) (by kernel_rfl) (fun _ _ _ h => h) (Or.inl ⟨by rfl, ?h6_7⟩) hH0 ?r6_7
      case h6_7 => (intro w hSw; (try dsimp only at hSw); go_simp; (try with_reducible rfl))
      case r6_7 =>
      try simp only [Act.put, List.setIfInBounds_toArray, List.set_cons_zero, List.set_cons_succ]
      refine wpAnyH_take (i := 7) (v := ?v7_8) rfl (by kernel_rfl) (by kernel_rfl) (by kernel_rfl) (fun _ _ _ h => h) (Or.inl ⟨by rfl, ?h7_8⟩) hH0 ?r7_8
      case h7_8 => (intro w hSw; (try dsimp only at hSw); go_simp; (try with_reducible rfl))
      case r7_8 =>
      try simp only [Act.put, List.setIfInBounds_toArray, List.set_cons_zero, List.set_cons_succ]
      refine wpAnyH_take (i := 8) (v := ?v8_9) rfl (by kernel_rfl) (by kernel_rfl) (by kernel_rfl) (fun _ _ _ h => h) (Or.inl ⟨by rfl, ?h8_9⟩) hH0 ?r8_9
      case h8_9 => (intro w hSw; (try dsimp only at hSw); go_simp; (try with_reducible rfl))
      case r8_9 =>
      try simp only [Act.put, List.setIfInBounds_toArray, List.set_cons_zero, List.set_cons_succ]
      refine wpAnyH_take (i := 10) (v := ?v10_10) rfl (by kernel_rfl) (by kernel_rfl) (by kernel_rfl) (fun _ _ _ h => h) (Or.inl ⟨by rfl, ?h10_10⟩) hH0 ?r10_10
      case h10_10 => (intro w hSw; (try dsimp only at hSw); go_simp; (try with_reducible rfl))
      case r10_10 =>
      try simp only [Act.put, List.setIfInBounds_toArray, List.set_cons_zero, List.set_cons_succ]
      refine wpAnyH_take (i := 11) (v := ?v11_11) rfl (by kernel_rfl) (by kernel_rfl) (by kernel_rfl) (fun _ _ _ h => h) (Or.inl ⟨by rfl, ?h11_11⟩) hH0 ?r11_11
      case h11_11 => (intro w hSw; (try dsimp only at hSw); go_simp; (try with_reducible rfl))
      case r11_11 =>
      try simp only [Act.put, List.setIfInBounds_toArray, List.set_cons_zero, List.set_cons_succ]
      refine wpAnyH_take (i := 12) (v := ?v12_12) rfl (by kernel_rfl) (by kernel_rfl) (by kernel_rfl) (fun _ _ _ h => h) (Or.inl ⟨by rfl, ?h12_12⟩) hH0 ?r12_12
      case h12_12 => (intro w hSw; (try dsimp only at hSw); go_simp; (try with_reducible rfl))
      case r12_12 =>
      try simp only [Act.put, List.setIfInBounds_toArray, List.set_cons_zero, List.set_cons_succ]
      refine wpAnyH_take (i := 13) (v := ?v13_13) rfl (by kernel_rfl) (by kernel_rfl) (by kernel_rfl) (fun _ _ _ h => h) (Or.inl ⟨by rfl, ?h13_13⟩) hH0 ?r13_13
      case h13_13 => (intro w hSw; (try dsimp only at hSw); go_simp; (try with_reducible rfl))
      case r13_13 =>
      try simp only [Act.put, List.setIfInBounds_toArray, List.set_cons_zero, List.set_cons_succ]
      refine wpAnyH_take (i := 14) (v := ?v14_14) rfl (by kernel_rfl) (by kernel_rfl) (by kernel_rfl) (fun _ _ _ h => h) (Or.inl ⟨by rfl, ?h14_14⟩) hH0 ?r14_14
      case h14_14 => (intro w hSw; (try dsimp only at hSw); go_simp; (try with_reducible rfl))
      case r14_14 =>
      try simp only [Act.put, List.setIfInBounds_toArray, List.set_cons_zero, List.set_cons_succ]
      refine wpAnyH_take (i := 15) (v := ?v15_15) rfl (by kernel_rfl) (by kernel_rfl) (by kernel_rfl) (fun _ _ _ h => h) (Or.inl ⟨by rfl, ?h15_15⟩) hH0 ?r15_15
      case h15_15 => (intro w hSw; (try dsimp only at hSw); go_simp; (try with_reducible rfl))
      case r15_15 =>
      try simp only [Act.put, List.setIfInBounds_toArray, List.set_cons_zero, List.set_cons_succ]
      refine wpAnyH_take (i := 16) (v := ?v16_16) rfl (by kernel_rfl) (by kernel_rfl) (by kernel_rfl) (fun _ _ _ h => h) (Or.inl ⟨by rfl, ?h16_16⟩) hH0 ?r16_16
      case h16_16 => (intro w hSw; (try dsimp only at hSw); go_simp; (try with_reducible rfl))
      case r16_16 =>
      try simp only [Act.put, List.setIfInBounds_toArray, List.set_cons_zero, List.set_cons_succ]
      refine wpAnyH_take (i := 19) (v := ?v19_17) rfl (by kernel_rfl) (by kernel_rfl) (by kernel_rfl) (fun _ _ _ h => h) (Or.inl ⟨by rfl, ?h19_17⟩) hH0 ?r19_17
      case h19_17 => (intro w hSw; (try dsimp only at hSw); go_simp; (try with_reducible rfl))
      case r19_17 =>
      try simp only [Act.put, List.setIfInBounds_toArray, List.set_cons_zero, List.set_cons_succ]
      refine wpAnyH_take (i := 20) (v := ?v20_18) rfl (by kernel_rfl) (by kernel_rfl) (by kernel_rfl) (fun _ _ _ h => h) (Or.inl ⟨by rfl, ?h20_18⟩) hH0 ?r20_18
      case h20_18 => (intro w hSw; (try dsimp only at hSw); go_simp; (try with_reducible rfl))
      case r20_18 =>
      try simp only [Act.put, List.setIfInBounds_toArray, List.set_cons_zero, List.set_cons_succ]
      refine wpAnyH_ready (rs := [9, 17]) (by kernel_rfl) (by simp) ?_
      refine AllReadyH.cons rfl (fun K hK => ?_) ?_
      · go_simp
        refine hK.out _ _ ⟨z1, z2, z4, z5⟩ (fun hH => ?_)
        clear hK K
        refine wpAnyH_ready (rs := [17]) (by kernel_rfl) (by simp) ?_
        refine AllReadyH.cons rfl (fun K hK => ?_) AllReadyH.nil
        go_simp
        refine hK.out _ _ ⟨y1, y2, y4, y5⟩ (fun hH => ?_)
        clear hK K
        refine wpAnyH_ready (rs := [18]) (by kernel_rfl) (by simp) ?_
        refine AllReadyH.cons rfl (fun K hK => ?_) AllReadyH.nil
        refine step_append_lies _ (by rfl) _ _ _ (by rfl) 0 60 i0 _ 3 40 Try.underlying34 hi0 hz0 hz1 hz2 rfl (by omega) (.slice ra A0.length rc) A0.length (flCells A0) (by rfl) ((own2.alloc _).drew) ⟨W2.heap.size, 0, none⟩ 1 1 [.string s, .string t, .int .i64 b] (by rfl) (by rfl) (World.news_of_block (cs := #[.string s, .string t, .int .i64 b]) (t := 60) (fr := (0, 0)) (heap_alloc_new W2 _)) (by simp [Value.oneCell']) (by omega) l5 (by omega) (by simp) (W2.heap.size + 1) (by simp) ?_
        intro gg cap3 w3 hown1 hgrow hat hlt3
        have y3 := (hgrow.cell_far ⟨l, 4, none⟩ (by simp; omega) (Ne.symm hne)).trans yl
        have yz := (hgrow.frozen_far ⟨l, 4, none⟩ (by simp; omega) (Ne.symm hne)).trans yf
        have q1 := (hgrow.cell_far ⟨ob, 1, none⟩ (by simp; omega) (Ne.symm hnb)).trans y1
        have q2 := (hgrow.cell_far ⟨ob, 2, none⟩ (by simp; omega) (Ne.symm hnb)).trans y2
        have q4 := (hgrow.cell_far ⟨ob, 4, none⟩ (by simp; omega) (Ne.symm hnb)).trans y4
        have q5 := (hgrow.cell_far ⟨ob, 5, none⟩ (by simp; omega) (Ne.symm hnb)).trans y5
        refine hK.out _ _ ⟨q1, q2, q4, q5⟩ (fun hH => ?_)
        clear hK K
        try simp only [Act.put, List.setIfInBounds_toArray, List.set_cons_zero, List.set_cons_succ]
        refine wpAnyH_take (i := 21) (v := ?v21_19) rfl (by kernel_rfl) (by kernel_rfl) (by kernel_rfl) (fun _ _ _ h => h) (Or.inl ⟨by rfl, ?h21_19⟩) hH ?r21_19
        case h21_19 => (intro w hSw; (try dsimp only at hSw); go_simp; (try with_reducible rfl))
        case r21_19 =>
        try simp only [Act.put, List.setIfInBounds_toArray, List.set_cons_zero, List.set_cons_succ]
        refine wpAnyH_ready (rs := [22]) (by kernel_rfl) (by simp) ?_
        refine AllReadyH.cons rfl (fun K hK => ?_) AllReadyH.nil
        go_simp
        refine hK.out _ _ ⟨(World.cell?_setCell_other _ _ _ _ (hoa 1)).trans q1, (World.cell?_setCell_other _ _ _ _ (hoa 2)).trans q2, (World.cell?_setCell_other _ _ _ _ (hoa 4)).trans q4, (World.cell?_setCell_other _ _ _ _ (hoa 5)).trans q5⟩ (fun hH => ?_)
        clear hK K
        refine wpAnyH_done (by kernel_rfl) ?_ _
        have oG : Only (fun y => (Value.slice ra A0.length rc).ownBlock = some y) W2 w3 := ((Only.refl (fun y => (Value.slice ra A0.length rc).ownBlock = some y) W2).alloc _).drew.grown hgrow (fun y hy _ => hy)
        have hown2 : OwnF w3 (.slice (some ⟨gg, 0, none⟩) (A0.length + 1) cap3) (A0 ++ [⟨s, t, b⟩]) := OwnF.push hown1
        have hN := unhide HP2 w3 (.slice (some ⟨gg, 0, none⟩) (A0.length + 1) cap3) oG hown2 (fun k hk => by
          have hkk : gg = k := by simpa [Value.ownBlock] using hk
          subst hkk
          rcases hat with h | h
          · exact .inl h
          · exact .inr ⟨by omega, by have := ownsRow_lt hown1 gg rfl; omega⟩)
        have RR := hide (Stp.first ((unhide OO).trans (unhide hSz) (fun _ _ h => h)) hN)
        clear hN oG hown1 hown2 hgrow hat hH
        go_wp2_with fail
        go_ret
        exact ⟨rfl, unhide RR⟩
      · refine AllReadyH.cons rfl (fun K hK => ?_) AllReadyH.nil
        go_simp
        refine hK.out _ _ ⟨y1, y2, y4, y5⟩ (fun hH => ?_)
        clear hK K
        refine wpAnyH_ready (rs := [9]) (by kernel_rfl) (by simp) ?_
        refine AllReadyH.cons rfl (fun K hK => ?_) AllReadyH.nil
        go_simp
        refine hK.out _ _ ⟨y1, y2, y4, y5⟩ (fun hH => ?_)
        clear hK K
        refine wpAnyH_ready (rs := [18]) (by kernel_rfl) (by simp) ?_
        refine AllReadyH.cons rfl (fun K hK => ?_) AllReadyH.nil
        refine step_append_lies _ (by rfl) _ _ _ (by rfl) 0 60 i0 _ 3 40 Try.underlying34 hi0 hz0 hz1 hz2 rfl (by omega) (.slice ra A0.length rc) A0.length (flCells A0) (by rfl) ((own2.alloc _).drew) ⟨W2.heap.size, 0, none⟩ 1 1 [.string s, .string t, .int .i64 b] (by rfl) (by rfl) (World.news_of_block (cs := #[.string s, .string t, .int .i64 b]) (t := 60) (fr := (0, 0)) (heap_alloc_new W2 _)) (by simp [Value.oneCell']) (by omega) l5 (by omega) (by simp) (W2.heap.size + 1) (by simp) ?_
        intro gg cap3 w3 hown1 hgrow hat hlt3
        have y3 := (hgrow.cell_far ⟨l, 4, none⟩ (by simp; omega) (Ne.symm hne)).trans yl
        have yz := (hgrow.frozen_far ⟨l, 4, none⟩ (by simp; omega) (Ne.symm hne)).trans yf
        have q1 := (hgrow.cell_far ⟨ob, 1, none⟩ (by simp; omega) (Ne.symm hnb)).trans y1
        have q2 := (hgrow.cell_far ⟨ob, 2, none⟩ (by simp; omega) (Ne.symm hnb)).trans y2
        have q4 := (hgrow.cell_far ⟨ob, 4, none⟩ (by simp; omega) (Ne.symm hnb)).trans y4
        have q5 := (hgrow.cell_far ⟨ob, 5, none⟩ (by simp; omega) (Ne.symm hnb)).trans y5
        refine hK.out _ _ ⟨q1, q2, q4, q5⟩ (fun hH => ?_)
        clear hK K
        try simp only [Act.put, List.setIfInBounds_toArray, List.set_cons_zero, List.set_cons_succ]
        refine wpAnyH_take (i := 21) (v := ?v21_20) rfl (by kernel_rfl) (by kernel_rfl) (by kernel_rfl) (fun _ _ _ h => h) (Or.inl ⟨by rfl, ?h21_20⟩) hH ?r21_20
        case h21_20 => (intro w hSw; (try dsimp only at hSw); go_simp; (try with_reducible rfl))
        case r21_20 =>
        try simp only [Act.put, List.setIfInBounds_toArray, List.set_cons_zero, List.set_cons_succ]
        refine wpAnyH_ready (rs := [22]) (by kernel_rfl) (by simp) ?_
        refine AllReadyH.cons rfl (fun K hK => ?_) AllReadyH.nil
        go_simp
        refine hK.out _ _ ⟨(World.cell?_setCell_other _ _ _ _ (hoa 1)).trans q1, (World.cell?_setCell_other _ _ _ _ (hoa 2)).trans q2, (World.cell?_setCell_other _ _ _ _ (hoa 4)).trans q4, (World.cell?_setCell_other _ _ _ _ (hoa 5)).trans q5⟩ (fun hH => ?_)
        clear hK K
        refine wpAnyH_done (by kernel_rfl) ?_ _
        have oG : Only (fun y => (Value.slice ra A0.length rc).ownBlock = some y) W2 w3 := ((Only.refl (fun y => (Value.slice ra A0.length rc).ownBlock = some y) W2).alloc _).drew.grown hgrow (fun y hy _ => hy)
        have hown2 : OwnF w3 (.slice (some ⟨gg, 0, none⟩) (A0.length + 1) cap3) (A0 ++ [⟨s, t, b⟩]) := OwnF.push hown1
        have hN := unhide HP2 w3 (.slice (some ⟨gg, 0, none⟩) (A0.length + 1) cap3) oG hown2 (fun k hk => by
          have hkk : gg = k := by simpa [Value.ownBlock] using hk
          subst hkk
          rcases hat with h | h
          · exact .inl h
          · exact .inr ⟨by omega, by have := ownsRow_lt hown1 gg rfl; omega⟩)
        have RR := hide (Stp.first ((unhide OO).trans (unhide hSz) (fun _ _ h => h)) hN)
        clear hN oG hown1 hown2 hgrow hat hH
        go_wp2_with fail
        go_ret
        exact ⟨rfl, unhide RR⟩
  · have d8 : decide ((A0.length : Int) ≤ 8) = false := decide_eq_false (by omega)
    have d8n : decide (A0.length ≤ 8) = false := decide_eq_false l8
    have RN2 := hide (And.intro ((unhide RN).1.quiet ((Only.refl _ W0).drew)) ((unhide RN).2.drew))
    go_region
    all_goals
      go_wp2_with fail
      go_ret
      exact ⟨rfl, unhide RN2⟩
set_option maxRecDepth 100000 in
set_option maxHeartbeats 8000000 in
theorem play_61 {B : Nat} {w : World} {l : Nat} (h : LI B w l) (b c : Int) (s t : ByteArray) :
    Calls Try.prog 12 #[.pointer (some ⟨l, 0, none⟩), .agg #[.int .i64 6, .int .i64 1, .int .i64 b, .int .i64 c, .string s, .string t]] w fun x w' => x = .returned (.bool true) ∧ Stp B l w w' := by
  have oo : Only (fun _ => False) w (w.alloc (.cells #[.int .i64 6, .int .i64 1, .int .i64 b, .int .i64 c, .string s, .string t] 47)) := (Only.refl _ w).alloc _
  have h0 := h.quiet oo
  obtain ⟨ob, hob⟩ : ∃ ob, ob = w.heap.size := ⟨_, rfl⟩
  have ko := Has.new' w #[.int .i64 6, .int .i64 1, .int .i64 b, .int .i64 c, .string s, .string t] 47 ob hob
  obtain ⟨i0, hi0, hz0, hz1, hz2⟩ := info_parts Try.infoFile
  obtain ⟨e, mp, pv, r0, r1, k0, k1, k2, k3, tx, hs, p, A0, A1, L, F, R, M, h0⟩ := h0
  obtain ⟨ra, rc, rfl⟩ := row_lens h0.f1
  have own1 : (w.alloc (.cells #[.int .i64 6, .int .i64 1, .int .i64 b, .int .i64 c, .string s, .string t] 47)).ownsRow 0 60 3 (.slice ra A1.length rc) A1.length (flCells A1) := h0.f1
  have q4 := Has.cell h0.lw 5
  have f4 := Has.free h0.lw 5
  have ll := Has.lt h0.lw
  have hol := ko.lt
  have x1 := ko.cell 1
  have x2 := ko.cell 2
  have x4 := ko.cell 4
  have x5 := ko.cell 5
  have hne : (Value.slice ra A1.length rc).ownBlock ≠ some l := fun hh => h0.lR (h0.rf l (.inr hh))
  have hnb : (Value.slice ra A1.length rc).ownBlock ≠ some ob := fun hh => ownsRow_ne own1 ko (by decide) ob hh rfl
  have RN := hide (And.intro h0.li (oo.mono (T := fun y => B ≤ y) (fun _ _ h => h.elim)))
  have hlb : A1.length ≤ 9 := h0.n1
  have H0 := hide h0
  have OO := hide oo
  have KO := hide ko
  clear h h0 oo
  go_enter Try.func12, Try.ntmps12
  go_upto_region 13 with fail
  rw [← hob]
  clear hob ko
  generalize (w.alloc (.cells #[.int .i64 6, .int .i64 1, .int .i64 b, .int .i64 c, .string s, .string t] 47)) = W0 at *
  by_cases l8 : A1.length ≤ 8
  · have d8 : decide ((A1.length : Int) ≤ 8) = true := decide_eq_true (by omega)
    have d8n : decide (A1.length ≤ 8) = true := decide_eq_true l8
    have HP := hide (fun (W : World) (hW : Only (fun _ => False) W0 W) (w3 : World) (v : Value) => ((unhide H0).quiet hW).push1 (w' := w3) (v := v) l8 ⟨s, t, b⟩)
    go_region
    all_goals
      go_upto_region 14 with fail
      have hWd : Only (fun _ => False) W0 W0.drew := (Only.refl _ W0).drew
      generalize W0.drew = W2 at *
      have own2 := ownsRow_keep own1 hWd (fun _ _ h => h)
      have hl2 := LW.keep (unhide H0).lw hWd (fun h => h)
      have hko := (unhide KO).keep hWd (fun h => h)
      have oD : Only (fun _ => False) W2 (W2.alloc (.cells #[.string s, .string t, .int .i64 b] 60)).drew := ((Only.refl (fun _ => False) W2).alloc _).drew
      have hEl := Has.keep hl2 oD (fun h => h)
      have hEo := hko.keep oD (fun h => h)
      have z1 := hko.cell 1
      have z2 := hko.cell 2
      have z4 := hko.cell 4
      have z5 := hko.cell 5
      have zl := Has.cell hl2 5
      have zf := Has.free hl2 5
      have zlt := Has.lt hl2
      have zot := hko.lt
      have y1 := hEo.cell 1
      have y2 := hEo.cell 2
      have y4 := hEo.cell 4
      have y5 := hEo.cell 5
      have yl := Has.cell hEl 5
      have yf := Has.free hEl 5
      have l5 : A1.length + 1 ≤ maxLen := by unfold maxLen; omega
      have HP2 := hide (unhide HP W2 hWd)
      have hSz := hide hWd
      have hKO2 := hide hko
      have hLW2 := hide hl2
      clear hl2 hko hEl hEo oD own1 x1 x2 x4 x5 q4 f4 hWd
      have hol2 : ob ≠ l := fun e => by have h1 := unhide hKO2; have h2 := unhide hLW2; exact Has.ne h1 h2 (by decide) e
      have hoa : ∀ i : Nat, (⟨l, 5, none⟩ : Addr) ≠ ⟨ob, i, none⟩ := fun i e => hol2 (congrArg Addr.block e).symm
      refine wp_region_held_drew (S := (fun w' => w'.cell? ⟨ob, 1, none⟩ = some (.int .i64 1) ∧ w'.cell? ⟨ob, 2, none⟩ = some (.int .i64 b) ∧ w'.cell? ⟨ob, 4, none⟩ = some (.string s) ∧ w'.cell? ⟨ob, 5, none⟩ = some (.string t))) (by kernel_rfl) ⟨z1, z2, z4, z5⟩ (fun hH0 => ?_)
      refine wpAnyH_take (i := 0) (v := ?v0_1) rfl (by kernel_rfl) (by kernel_rfl) (by kernel_rfl) (fun _ _ _ h => h) (Or.inl ⟨by rfl, ?h0_1⟩) hH0 ?r0_1
      case h0_1 => (intro w hSw; (try dsimp only at hSw); go_simp; (try with_reducible rfl))
      case r0_1 =>
      try simp only [Act.put, List.setIfInBounds_toArray, List.set_cons_zero, List.set_cons_succ]
      refine wpAnyH_take (i := 1) (v := ?v1_2) rfl (by kernel_rfl) (by kernel_rfl) (by kernel_rfl) (fun _ _ _ h => h) (Or.inl ⟨by rfl, ?h1_2⟩) hH0 ?r1_2
      case h1_2 => (intro w hSw; (try dsimp only at hSw); go_simp; (try with_reducible rfl))
      case r1_2 =>
      try simp only [Act.put, List.setIfInBounds_toArray, List.set_cons_zero, List.set_cons_succ]
      refine wpAnyH_take (i := 2) (v := ?v2_3) rfl (by kernel_rfl) (by kernel_rfl) (by kernel_rfl) (fun _ _ _ h => h) (Or.inl ⟨by rfl, ?h2_3⟩) hH0 ?r2_3
      case h2_3 => (intro w hSw; (try dsimp only at hSw); go_simp; (try with_reducible rfl))
      case r2_3 =>
      try simp only [Act.put, List.setIfInBounds_toArray, List.set_cons_zero, List.set_cons_succ]
      refine wpAnyH_take (i := 3) (v := ?v3_4) rfl (by kernel_rfl) (by kernel_rfl) (by kernel_rfl) (fun _ _ _ h => h) (Or.inl ⟨by rfl, ?h3_4⟩) hH0 ?r3_4
      case h3_4 => (intro w hSw; (try dsimp only at hSw); go_simp; (try with_reducible rfl))
      case r3_4 =>
      try simp only [Act.put, List.setIfInBounds_toArray, List.set_cons_zero, List.set_cons_succ]
      refine wpAnyH_take (i := 4) (v := ?v4_5) rfl (by kernel_rfl) (by kernel_rfl) (by kernel_rfl) (fun _ _ _ h => h) (Or.inl ⟨by rfl, ?h4_5⟩) hH0 ?r4_5
      case h4_5 => (intro w hSw; (try dsimp only at hSw); go_simp; (try with_reducible rfl))
      case r4_5 =>
      try simp only [Act.put, List.setIfInBounds_toArray, List.set_cons_zero, List.set_cons_succ]
      refine wpAnyH_take (i := 5) (v := ?v5_6) rfl (by kernel_rfl) (by kernel_rfl) (by kernel_rfl) (fun _ _ _ h => h) (Or.inl ⟨by rfl, ?h5_6⟩) hH0 ?r5_6
      case h5_6 => (intro w hSw; (try dsimp only at hSw); go_simp; (try with_reducible rfl))
      case r5_6 =>
      try simp only [Act.put, List.setIfInBounds_toArray, List.set_cons_zero, List.set_cons_succ]
      refine wpAnyH_take (i := 6) (v := ?v6_7) rfl (by kernel_rfl) (by kernel_rfl) (by kernel_rfl) (fun _ _ _ h => h) (Or.inl ⟨by rfl, ?h6_7⟩) hH0 ?r6_7
      case h6_7 => (intro w hSw; (try dsimp only at hSw); go_simp; (try with_reducible rfl))
      case r6_7 =>
      try simp only [Act.put, List.setIfInBounds_toArray, List.set_cons_zero, List.set_cons_succ]
      refine wpAnyH_take (i := 7) (v := ?v7_8) rfl (by kernel_rfl) (by kernel_rfl) (by kernel_rfl) (fun _ _ _ h => h) (Or.inl ⟨by rfl, ?h7_8⟩) hH0 ?r7_8
      case h7_8 => (intro w hSw; (try dsimp only at hSw); go_simp; (try with_reducible rfl))
      case r7_8 =>
      try simp only [Act.put, List.setIfInBounds_toArray, List.set_cons_zero, List.set_cons_succ]
      refine wpAnyH_take (i := 8) (v := ?v8_9) rfl (by kernel_rfl) (by kernel_rfl) (by kernel_rfl) (fun _ _ _ h => h) (Or.inl ⟨by rfl, ?h8_9⟩) hH0 ?r8_9
      case h8_9 => (intro w hSw; (try dsimp only at hSw); go_simp; (try with_reducible rfl))
      case r8_9 =>
      try simp only [Act.put, List.setIfInBounds_toArray, List.set_cons_zero, List.set_cons_succ]
      refine wpAnyH_take (i := 10) (v := ?v10_10) rfl (by kernel_rfl) (by kernel_rfl) (by kernel_rfl) (fun _ _ _ h => h) (Or.inl ⟨by rfl, ?h10_10⟩) hH0 ?r10_10
      case h10_10 => (intro w hSw; (try dsimp only at hSw); go_simp; (try with_reducible rfl))
      case r10_10 =>
      try simp only [Act.put, List.setIfInBounds_toArray, List.set_cons_zero, List.set_cons_succ]
      refine wpAnyH_take (i := 11) (v := ?v11_11) rfl (by kernel_rfl) (by kernel_rfl) (by kernel_rfl) (fun _ _ _ h => h) (Or.inl ⟨by rfl, ?h11_11⟩) hH0 ?r11_11
      case h11_11 => (intro w hSw; (try dsimp only at hSw); go_simp; (try with_reducible rfl))
      case r11_11 =>
      try simp only [Act.put, List.setIfInBounds_toArray, List.set_cons_zero, List.set_cons_succ]
      refine wpAnyH_take (i := 12) (v := ?v12_12) rfl (by kernel_rfl) (by kernel_rfl) (by kernel_rfl) (fun _ _ _ h => h) (Or.inl ⟨by rfl, ?h12_12⟩) hH0 ?r12_12
      case h12_12 => (intro w hSw; (try dsimp only at hSw); go_simp; (try with_reducible rfl))
      case r12_12 =>
      try simp only [Act.put, List.setIfInBounds_toArray, List.set_cons_zero, List.set_cons_succ]
      refine wpAnyH_take (i := 13) (v := ?v13_13) rfl (by kernel_rfl) (by kernel_rfl) (by kernel_rfl) (fun _ _ _ h => h) (Or.inl ⟨by rfl, ?h13_13⟩) hH0 ?r13_13
      case h13_13 => (intro w hSw; (try dsimp only at hSw); go_simp; (try with_reducible rfl))
      case r13_13 =>
      try simp only [Act.put, List.setIfInBounds_toArray, List.set_cons_zero, List.set_cons_succ]
      refine wpAnyH_take (i := 14) (v := ?v14_14) rfl (by kernel_rfl) (by kernel_rfl) (by kernel_rfl) (fun _ _ _ h => h) (Or.inl ⟨by rfl, ?h14_14⟩) hH0 ?r14_14
      case h14_14 => (intro w hSw; (try dsimp only at hSw); go_simp; (try with_reducible rfl))
      case r14_14 =>
      try simp only [Act.put, List.setIfInBounds_toArray, List.set_cons_zero, List.set_cons_succ]
      refine wpAnyH_take (i := 15) (v := ?v15_15) rfl (by kernel_rfl) (by kernel_rfl) (by kernel_rfl) (fun _ _ _ h => h) (Or.inl ⟨by rfl, ?h15_15⟩) hH0 ?r15_15
      case h15_15 => (intro w hSw; (try dsimp only at hSw); go_simp; (try with_reducible rfl))
      case r15_15 =>
      try simp only [Act.put, List.setIfInBounds_toArray, List.set_cons_zero, List.set_cons_succ]
      refine wpAnyH_take (i := 16) (v := ?v16_16) rfl (by kernel_rfl) (by kernel_rfl) (by kernel_rfl) (fun _ _ _ h => h) (Or.inl ⟨by rfl, ?h16_16⟩) hH0 ?r16_16
      case h16_16 => (intro w hSw; (try dsimp only at hSw); go_simp; (try with_reducible rfl))
      case r16_16 =>
      try simp only [Act.put, List.setIfInBounds_toArray, List.set_cons_zero, List.set_cons_succ]
      refine wpAnyH_take (i := 19) (v := ?v19_17) rfl (by kernel_rfl) (by kernel_rfl) (by kernel_rfl) (fun _ _ _ h => h) (Or.inl ⟨by rfl, ?h19_17⟩) hH0 ?r19_17
      case h19_17 => (intro w hSw; (try dsimp only at hSw); go_simp; (try with_reducible rfl))
      case r19_17 =>
      try simp only [Act.put, List.setIfInBounds_toArray, List.set_cons_zero, List.set_cons_succ]
      refine wpAnyH_take (i := 20) (v := ?v20_18) rfl (by kernel_rfl) (by kernel_rfl) (by kernel_rfl) (fun _ _ _ h => h) (Or.inl ⟨by rfl, ?h20_18⟩) hH0 ?r20_18
      case h20_18 => (intro w hSw; (try dsimp only at hSw); go_simp; (try with_reducible rfl))
      case r20_18 =>
      try simp only [Act.put, List.setIfInBounds_toArray, List.set_cons_zero, List.set_cons_succ]
      refine wpAnyH_ready (rs := [9, 17]) (by kernel_rfl) (by simp) ?_
      refine AllReadyH.cons rfl (fun K hK => ?_) ?_
      · go_simp
        refine hK.out _ _ ⟨z1, z2, z4, z5⟩ (fun hH => ?_)
        clear hK K
        refine wpAnyH_ready (rs := [17]) (by kernel_rfl) (by simp) ?_
        refine AllReadyH.cons rfl (fun K hK => ?_) AllReadyH.nil
        go_simp
        refine hK.out _ _ ⟨y1, y2, y4, y5⟩ (fun hH => ?_)
        clear hK K
        refine wpAnyH_ready (rs := [18]) (by kernel_rfl) (by simp) ?_
        refine AllReadyH.cons rfl (fun K hK => ?_) AllReadyH.nil
        refine step_append_lies _ (by rfl) _ _ _ (by rfl) 0 60 i0 _ 3 40 Try.underlying34 hi0 hz0 hz1 hz2 rfl (by omega) (.slice ra A1.length rc) A1.length (flCells A1) (by rfl) ((own2.alloc _).drew) ⟨W2.heap.size, 0, none⟩ 1 1 [.string s, .string t, .int .i64 b] (by rfl) (by rfl) (World.news_of_block (cs := #[.string s, .string t, .int .i64 b]) (t := 60) (fr := (0, 0)) (heap_alloc_new W2 _)) (by simp [Value.oneCell']) (by omega) l5 (by omega) (by simp) (W2.heap.size + 1) (by simp) ?_
        intro gg cap3 w3 hown1 hgrow hat hlt3
        have y3 := (hgrow.cell_far ⟨l, 5, none⟩ (by simp; omega) (Ne.symm hne)).trans yl
        have yz := (hgrow.frozen_far ⟨l, 5, none⟩ (by simp; omega) (Ne.symm hne)).trans yf
        have q1 := (hgrow.cell_far ⟨ob, 1, none⟩ (by simp; omega) (Ne.symm hnb)).trans y1
        have q2 := (hgrow.cell_far ⟨ob, 2, none⟩ (by simp; omega) (Ne.symm hnb)).trans y2
        have q4 := (hgrow.cell_far ⟨ob, 4, none⟩ (by simp; omega) (Ne.symm hnb)).trans y4
        have q5 := (hgrow.cell_far ⟨ob, 5, none⟩ (by simp; omega) (Ne.symm hnb)).trans y5
        refine hK.out _ _ ⟨q1, q2, q4, q5⟩ (fun hH => ?_)
        clear hK K
        try simp only [Act.put, List.setIfInBounds_toArray, List.set_cons_zero, List.set_cons_succ]
        refine wpAnyH_take (i := 21) (v := ?v21_19) rfl (by kernel_rfl) (by kernel_rfl) (by kernel_rfl) (fun _ _ _ h => h) (Or.inl ⟨by rfl, ?h21_19⟩) hH ?r21_19
        case h21_19 => (intro w hSw; (try dsimp only at hSw); go_simp; (try with_reducible rfl))
        case r21_19 =>
        try simp only [Act.put, List.setIfInBounds_toArray, List.set_cons_zero, List.set_cons_succ]
        refine wpAnyH_ready (rs := [22]) (by kernel_rfl) (by simp) ?_
        refine AllReadyH.cons rfl (fun K hK => ?_) AllReadyH.nil
        go_simp
        refine hK.out _ _ ⟨(World.cell?_setCell_other _ _ _ _ (hoa 1)).trans q1, (World.cell?_setCell_other _ _ _ _ (hoa 2)).trans q2, (World.cell?_setCell_other _ _ _ _ (hoa 4)).trans q4, (World.cell?_setCell_other _ _ _ _ (hoa 5)).trans q5⟩ (fun hH => ?_)
        clear hK K
        refine wpAnyH_done (by kernel_rfl) ?_ _
        have oG : Only (fun y => (Value.slice ra A1.length rc).ownBlock = some y) W2 w3 := ((Only.refl (fun y => (Value.slice ra A1.length rc).ownBlock = some y) W2).alloc _).drew.grown hgrow (fun y hy _ => hy)
        have hown2 : OwnF w3 (.slice (some ⟨gg, 0, none⟩) (A1.length + 1) cap3) (A1 ++ [⟨s, t, b⟩]) := OwnF.push hown1
        have hN := unhide HP2 w3 (.slice (some ⟨gg, 0, none⟩) (A1.length + 1) cap3) oG hown2 (fun k hk => by
          have hkk : gg = k := by simpa [Value.ownBlock] using hk
          subst hkk
          rcases hat with h | h
          · exact .inl h
          · exact .inr ⟨by omega, by have := ownsRow_lt hown1 gg rfl; omega⟩)
        have RR := hide (Stp.first ((unhide OO).trans (unhide hSz) (fun _ _ h => h)) hN)
        clear hN oG hown1 hown2 hgrow hat hH
        go_wp2_with fail
        go_ret
        exact ⟨rfl, unhide RR⟩
      · refine AllReadyH.cons rfl (fun K hK => ?_) AllReadyH.nil
        go_simp
        refine hK.out _ _ ⟨y1, y2, y4, y5⟩ (fun hH => ?_)
        clear hK K
        refine wpAnyH_ready (rs := [9]) (by kernel_rfl) (by simp) ?_
        refine AllReadyH.cons rfl (fun K hK => ?_) AllReadyH.nil
        go_simp
        refine hK.out _ _ ⟨y1, y2, y4, y5⟩ (fun hH => ?_)
        clear hK K
        refine wpAnyH_ready (rs := [18]) (by kernel_rfl) (by simp) ?_
        refine AllReadyH.cons rfl (fun K hK => ?_) AllReadyH.nil
        refine step_append_lies _ (by rfl) _ _ _ (by rfl) 0 60 i0 _ 3 40 Try.underlying34 hi0 hz0 hz1 hz2 rfl (by omega) (.slice ra A1.length rc) A1.length (flCells A1) (by rfl) ((own2.alloc _).drew) ⟨W2.heap.size, 0, none⟩ 1 1 [.string s, .string t, .int .i64 b] (by rfl) (by rfl) (World.news_of_block (cs := #[.string s, .string t, .int .i64 b]) (t := 60) (fr := (0, 0)) (heap_alloc_new W2 _)) (by simp [Value.oneCell']) (by omega) l5 (by omega) (by simp) (W2.heap.size + 1) (by simp) ?_
        intro gg cap3 w3 hown1 hgrow hat hlt3
        have y3 := (hgrow.cell_far ⟨l, 5, none⟩ (by simp; omega) (Ne.symm hne)).trans yl
        have yz := (hgrow.frozen_far ⟨l, 5, none⟩ (by simp; omega) (Ne.symm hne)).trans yf
        have q1 := (hgrow.cell_far ⟨ob, 1, none⟩ (by simp; omega) (Ne.symm hnb)).trans y1
        have q2 := (hgrow.cell_far ⟨ob, 2, none⟩ (by simp; omega) (Ne.symm hnb)).trans y2
        have q4 := (hgrow.cell_far ⟨ob, 4, none⟩ (by simp; omega) (Ne.symm hnb)).trans y4
        have q5 := (hgrow.cell_far ⟨ob, 5, none⟩ (by simp; omega) (Ne.symm hnb)).trans y5
        refine hK.out _ _ ⟨q1, q2, q4, q5⟩ (fun hH => ?_)
        clear hK K
        try simp only [Act.put, List.setIfInBounds_toArray, List.set_cons_zero, List.set_cons_succ]
        refine wpAnyH_take (i := 21) (v := ?v21_20) rfl (by kernel_rfl) (by kernel_rfl) (by kernel_rfl) (fun _ _ _ h => h) (Or.inl ⟨by rfl, ?h21_20⟩) hH ?r21_20
        case h21_20 => (intro w hSw; (try dsimp only at hSw); go_simp; (try with_reducible rfl))
        case r21_20 =>
        try simp only [Act.put, List.setIfInBounds_toArray, List.set_cons_zero, List.set_cons_succ]
        refine wpAnyH_ready (rs := [22]) (by kernel_rfl) (by simp) ?_
        refine AllReadyH.cons rfl (fun K hK => ?_) AllReadyH.nil
        go_simp
        refine hK.out _ _ ⟨(World.cell?_setCell_other _ _ _ _ (hoa 1)).trans q1, (World.cell?_setCell_other _ _ _ _ (hoa 2)).trans q2, (World.cell?_setCell_other _ _ _ _ (hoa 4)).trans q4, (World.cell?_setCell_other _ _ _ _ (hoa 5)).trans q5⟩ (fun hH => ?_)
        clear hK K
        refine wpAnyH_done (by kernel_rfl) ?_ _
        have oG : Only (fun y => (Value.slice ra A1.length rc).ownBlock = some y) W2 w3 := ((Only.refl (fun y => (Value.slice ra A1.length rc).ownBlock = some y) W2).alloc _).drew.grown hgrow (fun y hy _ => hy)
        have hown2 : OwnF w3 (.slice (some ⟨gg, 0, none⟩) (A1.length + 1) cap3) (A1 ++ [⟨s, t, b⟩]) := OwnF.push hown1
        have hN := unhide HP2 w3 (.slice (some ⟨gg, 0, none⟩) (A1.length + 1) cap3) oG hown2 (fun k hk => by
          have hkk : gg = k := by simpa [Value.ownBlock] using hk
          subst hkk
          rcases hat with h | h
          · exact .inl h
          · exact .inr ⟨by omega, by have := ownsRow_lt hown1 gg rfl; omega⟩)
        have RR := hide (Stp.first ((unhide OO).trans (unhide hSz) (fun _ _ h => h)) hN)
        clear hN oG hown1 hown2 hgrow hat hH
        go_wp2_with fail
        go_ret
        exact ⟨rfl, unhide RR⟩
  · have d8 : decide ((A1.length : Int) ≤ 8) = false := decide_eq_false (by omega)
    have d8n : decide (A1.length ≤ 8) = false := decide_eq_false l8
    have RN2 := hide (And.intro ((unhide RN).1.quiet ((Only.refl _ W0).drew)) ((unhide RN).2.drew))
    go_region
    all_goals
      go_wp2_with fail
      go_ret
      exact ⟨rfl, unhide RN2⟩
theorem play_any {B : Nat} {w : World} {l : Nat} (h : LI B w l) (k a b c : Int) (s t : ByteArray) (hs9 : s.size ≤ 9223372036854775807) :
    Calls Try.prog 12 #[.pointer (some ⟨l, 0, none⟩), .agg #[.int .i64 k, .int .i64 a, .int .i64 b, .int .i64 c, .string s, .string t]] w fun x w' => x = .returned (.bool true) ∧ Stp B l w w' := by
  by_cases h1 : k = 1
  · subst h1; exact play_1 h a b c s t
  by_cases h2 : k = 2
  · subst h2; exact play_2 h a b c s t hs9
  by_cases h3 : k = 3
  · subst h3; exact play_3 h a b c s t
  by_cases h4 : k = 4
  · subst h4; exact play_4 h a b c s t
  by_cases h5 : k = 5
  · subst h5; exact play_5 h a b c s t
  by_cases h6 : k = 6
  · subst h6
    by_cases a0 : a = 0
    · subst a0; exact play_60 h b c s t
    by_cases a1 : a = 1
    · subst a1; exact play_61 h b c s t
    exact play_6no h a b c s t a0 a1
  by_cases h7 : k = 7
  · subst h7; exact play_7 h a b c s t
  by_cases h8 : k = 8
  · subst h8; exact play_8 h a b c s t
  exact play_no h k a b c s t h1 h2 h3 h4 h5 h6 h7 h8
end Go.Proofs.Qxb6500416a
