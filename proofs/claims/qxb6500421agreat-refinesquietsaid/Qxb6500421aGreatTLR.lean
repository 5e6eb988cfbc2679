/-
  OWN WORK. THE TREE LAW: Play: a row joins (laid by tools/gen_tlp.py).
-/
import Derived.Test.Qxb6500421aGreatTLP
import Derived.Deep.RegionHeldLaw
namespace Go.Proofs.Qxb6500421aGreat
open Go.RowKit Go.PlainAid
set_option linter.unusedSimpArgs false
set_option linter.unusedVariables false

section
variable {w : World} {t s d m dk : Nat} {D : Nat → Nat} {J : Nat → Sl} {rt : Nat} {F H R : Nat → Prop}
set_option maxRecDepth 100000 in
set_option maxHeartbeats 4000000 in
theorem tplay3b (x y z : Int) (sv tv : ByteArray) (hs : sv.size ≤ maxLen) (j : PW w t s d m dk D J rt F H R) (v : Value) (reg : List En) (hd1 : Has w dk #[v] 39) (hd2 : OwnE w v reg) (hd4 : ∀ y, v.ownBlock = some y → R y ∧ y ≠ dk) (h8 : reg.length ≤ 8) :
    Calls Tryz.prog 17 #[.pointer (some ⟨t, 0, none⟩), .pointer (some ⟨m, 0, none⟩), .pointer (some ⟨dk, 0, none⟩), .agg #[.int .i64 3, .int .i64 x, .int .i64 y, .int .i64 z, .string sv, .string tv]] w fun e w' => e = .returned (.bool true) ∧ PStep w w' t s d m dk D J rt F H R := by
  have o0 : Only (fun _ => False) w (w.alloc (.cells #[.int .i64 3, .int .i64 x, .int .i64 y, .int .i64 z, .string sv, .string tv] 44)) := (Only.refl _ w).alloc _
  have ko := Has.new w #[.int .i64 3, .int .i64 x, .int .i64 y, .int .i64 z, .string sv, .string tv] 44
  have j0 := j.quiet o0
  clear ko
  obtain ⟨ob, hob⟩ : ∃ ob, ob = w.heap.size := ⟨_, rfl⟩
  have ko := Has.new' w #[.int .i64 3, .int .i64 x, .int .i64 y, .int .i64 z, .string sv, .string tv] 44 ob hob
  obtain ⟨va, vc, rfl⟩ := ownsRow_shape hd2
  have hd1' := hd1.keep o0 (fun h => h)
  have own2 : (w.alloc (.cells #[.int .i64 3, .int .i64 x, .int .i64 y, .int .i64 z, .string sv, .string tv] 44)).ownsRow 0 67 3 (.slice va reg.length vc) reg.length (enCells reg) := hd2.keep o0 (fun _ _ h => h)
  have hdR := j.dk.own
  have hinn := j.dk.inn
  have yl0 := hd1'.cell 0
  have yf0 := hd1'.free 0
  have hdl := hd1'.lt
  have hol := ko.lt
  have z1 := ko.cell 1
  have z2 := ko.cell 2
  have z4 := ko.cell 4
  have hne : (Value.slice va reg.length vc).ownBlock ≠ some dk := fun e => (hd4 dk e).2 rfl
  have hnb : (Value.slice va reg.length vc).ownBlock ≠ some ob := fun e => by have := hinn ob (hd4 ob e).1; omega
  have hdo : dk < ob := by have := hinn dk hdR; omega
  have hoa : ∀ k, (⟨dk, 0, none⟩ : Addr) ≠ ⟨ob, k, none⟩ := fun k e => by have := congrArg Addr.block e; simp at this; omega
  have HP2 : Hid (∀ (w3 : World) (v' : Value) (f : En), Only (fun y => (Value.slice va reg.length vc).ownBlock = some y) (w.alloc (.cells #[.int .i64 3, .int .i64 x, .int .i64 y, .int .i64 z, .string sv, .string tv] 44)) w3 → OwnE w3 v' (reg ++ [f]) → (∀ k, v'.ownBlock = some k → (Value.slice va reg.length vc).ownBlock = some k ∨ ((w.alloc (.cells #[.int .i64 3, .int .i64 x, .int .i64 y, .int .i64 z, .string sv, .string tv] 44)).heap.size ≤ k ∧ k < w3.heap.size)) → PStep w (w3.setCell ⟨dk, 0, none⟩ v') t s d m dk D J rt F H R) := hide (fun w3 v' f ho hown hb => by
    have hsz : (w.alloc (.cells #[.int .i64 3, .int .i64 x, .int .i64 y, .int .i64 z, .string sv, .string tv] 44)).heap.size = w.heap.size + 1 := by simp
    rw [hsz] at hb
    have s3 := ho.size
    rw [hsz] at s3
    have oS := only1 (w := w3) (p := dk) 0 v'
    have hD := (hd1'.keep ho hne).setCell 0 v'
    have vne : ∀ k, v'.ownBlock = some k → k ≠ dk := fun k hk e => by
      rcases hb k hk with h1 | h1
      · exact (hd4 k h1).2 e
      · have := hinn dk hdR; omega
    refine PStep.desk (R' := fun k => R k ∨ (w.heap.size ≤ k ∧ k < w3.heap.size)) j (((o0.mono (T := fun k => R k) (fun _ _ h => h.elim)).trans ho (fun i hi e => (hd4 i e).1)).trans oS (fun i hi e => by rw [e]; exact hdR)) ⟨⟨v', reg ++ [f], by simpa using hD, hown.keep oS vne, by simp; omega, fun k hk => ⟨?_, vne k hk⟩⟩, .inl hdR, fun k hk => ?_⟩ (fun k hk => ?_)
    · rcases hb k hk with h1 | h1
      · exact .inl (hd4 k h1).1
      · exact .inr ⟨by omega, h1.2⟩
    · rcases hk with hk | hk
      · have := hinn k hk
        simp
        omega
      · simpa using hk.2
    · rcases hk with hk | hk
      · exact .inl hk
      · exact .inr hk.1)
  obtain ⟨i0, hi0, hz0, hz1, hz2⟩ := info_parts Tryz.infoEntry
  have l5 : reg.length + 1 ≤ maxLen := by unfold maxLen; omega
  have b1 : decide ((reg.length : Int) ≤ 8) = true := decide_eq_true (by omega)
  have b1n : decide (reg.length ≤ 8) = true := decide_eq_true h8
  clear j j0 o0 hd1 hd2 hd4 hd1'
  go_enter Tryz.func17, Tryz.ntmps17
  go_upto_region 8 with fail
  rw [← hob]
  have hW2 : ob < (w.alloc (.cells #[.int .i64 3, .int .i64 x, .int .i64 y, .int .i64 z, .string sv, .string tv] 44)).heap.size := hol
  clear hob ko
  generalize (w.alloc (.cells #[.int .i64 3, .int .i64 x, .int .i64 y, .int .i64 z, .string sv, .string tv] 44)) = W2 at *
  have oD2 : Only (fun _ => False) W2 (W2.alloc (.cells #[.string sv, .int .i64 x, .int .i64 y] 67)).drew := ((Only.refl (fun _ => False) W2).alloc _).drew
  have hbo := oD2.block ob hol (fun h => h)
  have hbd := oD2.block dk hdl (fun h => h)
  have y1 := (World.cell?_of_block (a := ⟨ob, 1, none⟩) hbo).trans z1
  have y2 := (World.cell?_of_block (a := ⟨ob, 2, none⟩) hbo).trans z2
  have y4 := (World.cell?_of_block (a := ⟨ob, 4, none⟩) hbo).trans z4
  have yl := (World.cell?_of_block (a := ⟨dk, 0, none⟩) hbd).trans yl0
  have yf : (W2.alloc (.cells #[.string sv, .int .i64 x, .int .i64 y] 67)).drew.frozen? ⟨dk, 0, none⟩ = false := by
    have : (W2.alloc (.cells #[.string sv, .int .i64 x, .int .i64 y] 67)).drew.frozen? ⟨dk, 0, none⟩ = W2.frozen? ⟨dk, 0, none⟩ := by simp [World.frozen?, hbd]
    rw [this]; exact yf0
  clear oD2 hbo hbd
  refine wp_region_held_drew (S := (fun w' => w'.cell? ⟨ob, 1, none⟩ = some (.int .i64 x) ∧ w'.cell? ⟨ob, 2, none⟩ = some (.int .i64 y) ∧ w'.cell? ⟨ob, 4, none⟩ = some (.string sv))) (by kernel_rfl) ⟨z1, z2, z4⟩ (fun hH0 => ?_)
  refine wpAnyH_take (i := 0) (v := ?v0_1) rfl (by kernel_rfl) (by kernel_rfl) (by kernel_rfl) (fun _ _ _ h => h) (Or.inl ⟨by rfl, ?h0_1⟩) hH0 ?r0_1
  case h0_1 => (intro w hSw; (try dsimp only at hSw); go_simp; (try with_reducible rfl))
  case r0_1 =>
  try simp only [Act.put, List.setIfInBounds_toArray, List.set_cons_zero, List.set_cons_succ]
  refine wpAnyH_take (i := 1) (v := ?v1_2) rfl (by kernel_rfl) (by kernel_rfl) (by kernel_rfl) (fun _ _ _ h => h) (Or.inl ⟨by rfl, ?h1_2⟩) hH0 ?r1_2
  case h1_2 => (intro w hSw; (try dsimp only at hSw); go_simp; (try with_reducible rfl))
  case r1_2 =>
  try simp only [Act.put, List.setIfInBounds_toArray, List.set_cons_zero, List.set_cons_succ]
  refine wpAnyH_take (i := 2) (v := ?v2_3) rfl (by kernel_rfl) (by kernel_rfl) (by kernel_rfl) (fun _ _ _ h => h) (Or.inl ⟨by rfl, ?h2_3⟩) hH0 ?r2_3
  case h2_3 => (intro w hSw; (try dsimp only at hSw); go_simp; (try with_reducible rfl))
  case r2_3 =>
  try simp only [Act.put, List.setIfInBounds_toArray, List.set_cons_zero, List.set_cons_succ]
  refine wpAnyH_take (i := 3) (v := ?v3_4) rfl (by kernel_rfl) (by kernel_rfl) (by kernel_rfl) (fun _ _ _ h => h) (Or.inl ⟨by rfl, ?h3_4⟩) hH0 ?r3_4
  case h3_4 => (intro w hSw; (try dsimp only at hSw); go_simp; (try with_reducible rfl))
  case r3_4 =>
  try simp only [Act.put, List.setIfInBounds_toArray, List.set_cons_zero, List.set_cons_succ]
  refine wpAnyH_take (i := 5) (v := ?v5_5) rfl (by kernel_rfl) (by kernel_rfl) (by kernel_rfl) (fun _ _ _ h => h) (Or.inl ⟨by rfl, ?h5_5⟩) hH0 ?r5_5
  case h5_5 => (intro w hSw; (try dsimp only at hSw); go_simp; (try with_reducible rfl))
  case r5_5 =>
  try simp only [Act.put, List.setIfInBounds_toArray, List.set_cons_zero, List.set_cons_succ]
  refine wpAnyH_take (i := 6) (v := ?v6_6) rfl (by kernel_rfl) (by kernel_rfl) (by kernel_rfl) (fun _ _ _ h => h) (Or.inl ⟨by rfl, ?h6_6⟩) hH0 ?r6_6
  case h6_6 => (intro w hSw; (try dsimp only at hSw); go_simp; (try with_reducible rfl))
  case r6_6 =>
  try simp only [Act.put, List.setIfInBounds_toArray, List.set_cons_zero, List.set_cons_succ]
  refine wpAnyH_take (i := 7) (v := ?v7_7) rfl (by kernel_rfl) (by kernel_rfl) (by kernel_rfl) (fun _ _ _ h => h) (Or.inl ⟨by rfl, ?h7_7⟩) hH0 ?r7_7
  case h7_7 => (intro w hSw; (try dsimp only at hSw); go_simp; (try with_reducible rfl))
  case r7_7 =>
  try simp only [Act.put, List.setIfInBounds_toArray, List.set_cons_zero, List.set_cons_succ]
  refine wpAnyH_take (i := 8) (v := ?v8_8) rfl (by kernel_rfl) (by kernel_rfl) (by kernel_rfl) (fun _ _ _ h => h) (Or.inl ⟨by rfl, ?h8_8⟩) hH0 ?r8_8
  case h8_8 => (intro w hSw; (try dsimp only at hSw); go_simp; (try with_reducible rfl))
  case r8_8 =>
  try simp only [Act.put, List.setIfInBounds_toArray, List.set_cons_zero, List.set_cons_succ]
  refine wpAnyH_take (i := 9) (v := ?v9_9) rfl (by kernel_rfl) (by kernel_rfl) (by kernel_rfl) (fun _ _ _ h => h) (Or.inl ⟨by rfl, ?h9_9⟩) hH0 ?r9_9
  case h9_9 => (intro w hSw; (try dsimp only at hSw); go_simp; (try with_reducible rfl))
  case r9_9 =>
  try simp only [Act.put, List.setIfInBounds_toArray, List.set_cons_zero, List.set_cons_succ]
  refine wpAnyH_take (i := 10) (v := ?v10_10) rfl (by kernel_rfl) (by kernel_rfl) (by kernel_rfl) (fun _ _ _ h => h) (Or.inl ⟨by rfl, ?h10_10⟩) hH0 ?r10_10
  case h10_10 => (intro w hSw; (try dsimp only at hSw); go_simp; (try with_reducible rfl))
  case r10_10 =>
  try simp only [Act.put, List.setIfInBounds_toArray, List.set_cons_zero, List.set_cons_succ]
  refine wpAnyH_take (i := 11) (v := ?v11_11) rfl (by kernel_rfl) (by kernel_rfl) (by kernel_rfl) (fun _ _ _ h => h) (Or.inl ⟨by rfl, ?h11_11⟩) hH0 ?r11_11
  case h11_11 => (intro w hSw; (try dsimp only at hSw); go_simp; (try with_reducible rfl))
  case r11_11 =>
  try simp only [Act.put, List.setIfInBounds_toArray, List.set_cons_zero, List.set_cons_succ]
  refine wpAnyH_ready (rs := [4, 12]) (by kernel_rfl) (by simp) ?_
  refine AllReadyH.cons rfl (fun K hK => ?_) ?_
  · go_simp
    refine hK.out _ _ ⟨z1, z2, z4⟩ (fun hH => ?_)
    clear hK K
    refine wpAnyH_ready (rs := [12]) (by kernel_rfl) (by simp) ?_
    refine AllReadyH.cons rfl (fun K hK => ?_) AllReadyH.nil
    go_simp
    refine hK.out _ _ ⟨y1, y2, y4⟩ (fun hH => ?_)
    clear hK K
    refine wpAnyH_ready (rs := [13]) (by kernel_rfl) (by simp) ?_
    refine AllReadyH.cons rfl (fun K hK => ?_) AllReadyH.nil
    refine step_append_lies _ (by rfl) _ _ _ (by rfl) 0 67 i0 _ 3 32 Tryz.underlying37 hi0 hz0 hz1 hz2 rfl (by omega) (.slice va reg.length vc) reg.length (enCells reg) (by rfl) ((own2.alloc _).drew) ⟨W2.heap.size, 0, none⟩ 1 1 [.string sv, .int .i64 x, .int .i64 y] (by rfl) (by rfl) (World.news_of_block (cs := #[.string sv, .int .i64 x, .int .i64 y]) (t := 67) (fr := (0, 0)) (heap_alloc_new W2 _)) (by simp [Value.oneCell']) (by omega) l5 (by omega) (by simp) (W2.heap.size + 1) (by simp) ?_
    intro gg cap3 w3 hown1 hgrow hat hlt3
    have y3 := (hgrow.cell_far ⟨dk, 0, none⟩ (by simp; omega) (Ne.symm hne)).trans yl
    have yz := (hgrow.frozen_far ⟨dk, 0, none⟩ (by simp; omega) (Ne.symm hne)).trans yf
    have q1 := (hgrow.cell_far ⟨ob, 1, none⟩ (by simp; omega) (Ne.symm hnb)).trans y1
    have q2 := (hgrow.cell_far ⟨ob, 2, none⟩ (by simp; omega) (Ne.symm hnb)).trans y2
    have q4 := (hgrow.cell_far ⟨ob, 4, none⟩ (by simp; omega) (Ne.symm hnb)).trans y4
    refine hK.out _ _ ⟨q1, q2, q4⟩ (fun hH => ?_)
    clear hK K
    try simp only [Act.put, List.setIfInBounds_toArray, List.set_cons_zero, List.set_cons_succ]
    refine wpAnyH_take (i := 14) (v := ?v14_12) rfl (by kernel_rfl) (by kernel_rfl) (by kernel_rfl) (fun _ _ _ h => h) (Or.inl ⟨by rfl, ?h14_12⟩) hH ?r14_12
    case h14_12 => (intro w hSw; (try dsimp only at hSw); go_simp; (try with_reducible rfl))
    case r14_12 =>
    try simp only [Act.put, List.setIfInBounds_toArray, List.set_cons_zero, List.set_cons_succ]
    refine wpAnyH_take (i := 15) (v := ?v15_13) rfl (by kernel_rfl) (by kernel_rfl) (by kernel_rfl) (fun _ _ _ h => h) (Or.inl ⟨by rfl, ?h15_13⟩) hH ?r15_13
    case h15_13 => (intro w hSw; (try dsimp only at hSw); go_simp; (try with_reducible rfl))
    case r15_13 =>
    try simp only [Act.put, List.setIfInBounds_toArray, List.set_cons_zero, List.set_cons_succ]
    refine wpAnyH_ready (rs := [16]) (by kernel_rfl) (by simp) ?_
    refine AllReadyH.cons rfl (fun K hK => ?_) AllReadyH.nil
    go_simp
    refine hK.out _ _ ⟨(World.cell?_setCell_other _ _ _ _ (hoa 1)).trans q1, (World.cell?_setCell_other _ _ _ _ (hoa 2)).trans q2, (World.cell?_setCell_other _ _ _ _ (hoa 4)).trans q4⟩ (fun hH => ?_)
    clear hK K
    refine wpAnyH_done (by kernel_rfl) ?_ _
    have oG : Only (fun y => (Value.slice va reg.length vc).ownBlock = some y) W2 w3 := ((Only.refl (fun y => (Value.slice va reg.length vc).ownBlock = some y) W2).alloc _).drew.grown hgrow (fun y hy _ => hy)
    have hown2 : OwnE w3 (.slice (some ⟨gg, 0, none⟩) (reg.length + 1) cap3) (reg ++ [⟨ls sv, x, y⟩]) := OwnE.push (f := ⟨ls sv, x, y⟩) (by
      show w3.ownsRow 0 67 3 (.slice (some ⟨gg, 0, none⟩) (reg.length + 1) cap3) (reg.length + 1) (enCells reg ++ [.string (Go.Proofs.Qxb6500421aGreat.sb (ls sv)), .int .i64 x, .int .i64 y])
      rw [sb_ls]
      exact hown1)
    have hN := unhide HP2 w3 (.slice (some ⟨gg, 0, none⟩) (reg.length + 1) cap3) _ oG hown2 (fun k hk => by
      have hkk : gg = k := by simpa [Value.ownBlock] using hk
      subst hkk
      rcases hat with h | h
      · exact .inl h
      · exact .inr ⟨by omega, by have := ownsRow_lt hown1 gg rfl; omega⟩)
    have RR := hide hN
    clear hN oG hown1 hown2 hgrow hat hH
    go_wp2_with fail
    go_ret
    exact ⟨rfl, unhide RR⟩
  · refine AllReadyH.cons rfl (fun K hK => ?_) AllReadyH.nil
    go_simp
    refine hK.out _ _ ⟨y1, y2, y4⟩ (fun hH => ?_)
    clear hK K
    refine wpAnyH_ready (rs := [4]) (by kernel_rfl) (by simp) ?_
    refine AllReadyH.cons rfl (fun K hK => ?_) AllReadyH.nil
    go_simp
    refine hK.out _ _ ⟨y1, y2, y4⟩ (fun hH => ?_)
    clear hK K
    refine wpAnyH_ready (rs := [13]) (by kernel_rfl) (by simp) ?_
    refine AllReadyH.cons rfl (fun K hK => ?_) AllReadyH.nil
    refine step_append_lies _ (by rfl) _ _ _ (by rfl) 0 67 i0 _ 3 32 Tryz.underlying37 hi0 hz0 hz1 hz2 rfl (by omega) (.slice va reg.length vc) reg.length (enCells reg) (by rfl) ((own2.alloc _).drew) ⟨W2.heap.size, 0, none⟩ 1 1 [.string sv, .int .i64 x, .int .i64 y] (by rfl) (by rfl) (World.news_of_block (cs := #[.string sv, .int .i64 x, .int .i64 y]) (t := 67) (fr := (0, 0)) (heap_alloc_new W2 _)) (by simp [Value.oneCell']) (by omega) l5 (by omega) (by simp) (W2.heap.size + 1) (by simp) ?_
    intro gg cap3 w3 hown1 hgrow hat hlt3
    have y3 := (hgrow.cell_far ⟨dk, 0, none⟩ (by simp; omega) (Ne.symm hne)).trans yl
    have yz := (hgrow.frozen_far ⟨dk, 0, none⟩ (by simp; omega) (Ne.symm hne)).trans yf
    have q1 := (hgrow.cell_far ⟨ob, 1, none⟩ (by simp; omega) (Ne.symm hnb)).trans y1
    have q2 := (hgrow.cell_far ⟨ob, 2, none⟩ (by simp; omega) (Ne.symm hnb)).trans y2
    have q4 := (hgrow.cell_far ⟨ob, 4, none⟩ (by simp; omega) (Ne.symm hnb)).trans y4
    refine hK.out _ _ ⟨q1, q2, q4⟩ (fun hH => ?_)
    clear hK K
    try simp only [Act.put, List.setIfInBounds_toArray, List.set_cons_zero, List.set_cons_succ]
    refine wpAnyH_take (i := 14) (v := ?v14_14) rfl (by kernel_rfl) (by kernel_rfl) (by kernel_rfl) (fun _ _ _ h => h) (Or.inl ⟨by rfl, ?h14_14⟩) hH ?r14_14
    case h14_14 => (intro w hSw; (try dsimp only at hSw); go_simp; (try with_reducible rfl))
    case r14_14 =>
    try simp only [Act.put, List.setIfInBounds_toArray, List.set_cons_zero, List.set_cons_succ]
    refine wpAnyH_take (i := 15) (v := ?v15_15) rfl (by kernel_rfl) (by kernel_rfl) (by kernel_rfl) (fun _ _ _ h => h) (Or.inl ⟨by rfl, ?h15_15⟩) hH ?r15_15
    case h15_15 => (intro w hSw; (try dsimp only at hSw); go_simp; (try with_reducible rfl))
    case r15_15 =>
    try simp only [Act.put, List.setIfInBounds_toArray, List.set_cons_zero, List.set_cons_succ]
    refine wpAnyH_ready (rs := [16]) (by kernel_rfl) (by simp) ?_
    refine AllReadyH.cons rfl (fun K hK => ?_) AllReadyH.nil
    go_simp
    refine hK.out _ _ ⟨(World.cell?_setCell_other _ _ _ _ (hoa 1)).trans q1, (World.cell?_setCell_other _ _ _ _ (hoa 2)).trans q2, (World.cell?_setCell_other _ _ _ _ (hoa 4)).trans q4⟩ (fun hH => ?_)
    clear hK K
    refine wpAnyH_done (by kernel_rfl) ?_ _
    have oG : Only (fun y => (Value.slice va reg.length vc).ownBlock = some y) W2 w3 := ((Only.refl (fun y => (Value.slice va reg.length vc).ownBlock = some y) W2).alloc _).drew.grown hgrow (fun y hy _ => hy)
    have hown2 : OwnE w3 (.slice (some ⟨gg, 0, none⟩) (reg.length + 1) cap3) (reg ++ [⟨ls sv, x, y⟩]) := OwnE.push (f := ⟨ls sv, x, y⟩) (by
      show w3.ownsRow 0 67 3 (.slice (some ⟨gg, 0, none⟩) (reg.length + 1) cap3) (reg.length + 1) (enCells reg ++ [.string (Go.Proofs.Qxb6500421aGreat.sb (ls sv)), .int .i64 x, .int .i64 y])
      rw [sb_ls]
      exact hown1)
    have hN := unhide HP2 w3 (.slice (some ⟨gg, 0, none⟩) (reg.length + 1) cap3) _ oG hown2 (fun k hk => by
      have hkk : gg = k := by simpa [Value.ownBlock] using hk
      subst hkk
      rcases hat with h | h
      · exact .inl h
      · exact .inr ⟨by omega, by have := ownsRow_lt hown1 gg rfl; omega⟩)
    have RR := hide hN
    clear hN oG hown1 hown2 hgrow hat hH
    go_wp2_with fail
    go_ret
    exact ⟨rfl, unhide RR⟩
end
end Go.Proofs.Qxb6500421aGreat
