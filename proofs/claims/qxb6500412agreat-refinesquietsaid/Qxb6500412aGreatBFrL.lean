/-
  OWN WORK. THE B-TREE: fromLeft
-/
import Derived.Test.Qxb6500412aGreatBPut2
import Derived.Test.Qxb6500412aGreatBSpl
import Derived.Test.Qxb6500412aGreatBCut2
namespace Go.Proofs.Qxb6500412aGreat
open Go.RowKit Go.PlainAid
set_option linter.unusedSimpArgs false
set_option linter.unusedVariables false
theorem kk_f {a b : Nat} (h : ¬ a = b) : ((a : Int) == (b : Int)) = false := by
  have : ¬ (a : Int) = b := by omega
  simpa using this
theorem kk_t {a b : Nat} (h : a = b) : ((a : Int) == (b : Int)) = true := by subst h; simp
set_option maxRecDepth 100000 in
set_option maxHeartbeats 6000000 in
theorem fromLeft_leaf (x y : Node) (sep : ByteArray) (hk : x.k = 1) (m : Nat) (hm : x.n = m + 1) (hm4 : m < 4) (h3 : y.n ≤ 3) (w : World) :
    Calls Tryz.prog 352 #[ndA x, ndA y, .string sep] w fun e w' => ∃ b : Node, e = .returned (.tuple #[ndA { x with n := m }, ndA b, .string (b.K 0)]) ∧ LPut y (x.K m) (x.V m) b ∧ Only (fun _ => False) w w' := by
  have C := hide (fun w => leafPut_any y (x.K m) (x.V m) h3 w)
  have kk : ((x.k : Int) == 1) = true := kk_t hk
  have em : (x.n : Int) - 1 = (m : Int) := by omega
  have m4 : (m : Int) < 4 := by omega
  have wm : IntKind.i64.wrap (m : Int) = (m : Int) := by rw [IntWalk.i64_in] <;> omega
  have m0 : (0 : Int) ≤ (m : Int) := by omega
  clear hk
  go_enter Tryz.func352, Tryz.ntmps352
  go_upto_region 1 with (first | (refine wpList_box_ndd 3 rfl rfl _ rfl x rfl ?_; intro g w1 hG gG oG) | (refine wpList_box_ndd 4 rfl rfl _ rfl y rfl ?_; intro h w2 hH gH oH) | (refine wpList_alloc_ndd 6 rfl rfl rfl ?_; intro p w3 hP gP oP) | (refine wpList_alloc_ndd 7 rfl rfl rfl ?_; intro q w4 hQ gQ oQ))
  have hgh : g < h := Nat.lt_of_lt_of_le (Has.lt hG) gH
  have hhp : h < p := Nat.lt_of_lt_of_le (Has.lt hH) gP
  have hpq : p < q := Nat.lt_of_lt_of_le (Has.lt hP) gQ
  have GG := hide (((hG.keep oH (fun h => h)).keep oP (fun h => h)).keep oQ (fun h => h))
  have HH := hide ((hH.keep oP (fun h => h)).keep oQ (fun h => h))
  have Op := hide (hP.keep oQ (fun h => h))
  have Oq := hide hQ
  have OX := hide (((oG.trans oH (fun _ _ h => h)).trans oP (fun _ _ h => h)).trans oQ (fun _ _ h => h))
  clear hG hH hP hQ oG oH oP oQ gH gP gQ
  clear w1 w2 w3
  have ck := (unhide GG).kind.1
  go_wp2_with fail
  clear ck
  refine wp_region_held_drew (S := (fun w' => NdAt w' g x)) (by kernel_rfl) (unhide GG).drew (fun hH0 => ?_)
  refine takeH 1 13 (v := ?v1_a) rfl rfl (by kernel_rfl) (by kernel_rfl) (by kernel_rfl) (fun _ _ _ h => h) (Or.inl ⟨by rfl, ?h1_a⟩) hH0 ?r1_a
  case h1_a => (intro w hSw; have q0 := (NdAt.num hSw).1; have q1 := (NdAt.key hSw m (by omega)).1; have q2 := (NdAt.val hSw m (by omega)).1; clear hSw; go_simp; (try with_reducible rfl))
  case r1_a =>
  try simp only [Act.put, List.setIfInBounds_toArray, List.set_cons_zero, List.set_cons_succ]
  refine takeH 2 14 (v := ?v2_a) rfl rfl (by kernel_rfl) (by kernel_rfl) (by kernel_rfl) (fun _ _ _ h => h) (Or.inl ⟨by rfl, ?h2_a⟩) hH0 ?r2_a
  case h2_a => (intro w hSw; have q0 := (NdAt.num hSw).1; have q1 := (NdAt.key hSw m (by omega)).1; have q2 := (NdAt.val hSw m (by omega)).1; clear hSw; go_simp; (try with_reducible rfl))
  case r2_a =>
  try simp only [Act.put, List.setIfInBounds_toArray, List.set_cons_zero, List.set_cons_succ]
  refine takeH 3 15 (v := ?v3_a) rfl rfl (by kernel_rfl) (by kernel_rfl) (by kernel_rfl) (fun _ _ _ h => h) (Or.inl ⟨by rfl, ?h3_a⟩) hH0 ?r3_a
  case h3_a => (intro w hSw; have q0 := (NdAt.num hSw).1; have q1 := (NdAt.key hSw m (by omega)).1; have q2 := (NdAt.val hSw m (by omega)).1; clear hSw; go_simp; (try with_reducible rfl))
  case r3_a =>
  try simp only [Act.put, List.setIfInBounds_toArray, List.set_cons_zero, List.set_cons_succ]
  refine takeH 4 16 (v := ?v4_a) rfl rfl (by kernel_rfl) (by kernel_rfl) (by kernel_rfl) (fun _ _ _ h => h) (Or.inl ⟨by rfl, ?h4_a⟩) hH0 ?r4_a
  case h4_a => (intro w hSw; have q0 := (NdAt.num hSw).1; have q1 := (NdAt.key hSw m (by omega)).1; have q2 := (NdAt.val hSw m (by omega)).1; clear hSw; go_simp; (try with_reducible rfl))
  case r4_a =>
  try simp only [Act.put, List.setIfInBounds_toArray, List.set_cons_zero, List.set_cons_succ]
  refine takeH 5 17 (v := ?v5_a) rfl rfl (by kernel_rfl) (by kernel_rfl) (by kernel_rfl) (fun _ _ _ h => h) (Or.inl ⟨by rfl, ?h5_a⟩) hH0 ?r5_a
  case h5_a => (intro w hSw; have q0 := (NdAt.num hSw).1; have q1 := (NdAt.key hSw m (by omega)).1; have q2 := (NdAt.val hSw m (by omega)).1; clear hSw; go_simp; (try with_reducible rfl))
  case r5_a =>
  try simp only [Act.put, List.setIfInBounds_toArray, List.set_cons_zero, List.set_cons_succ]
  refine takeH 6 18 (v := ?v6_a) rfl rfl (by kernel_rfl) (by kernel_rfl) (by kernel_rfl) (fun _ _ _ h => h) (Or.inl ⟨by rfl, ?h6_a⟩) hH0 ?r6_a
  case h6_a => (intro w hSw; have q0 := (NdAt.num hSw).1; have q1 := (NdAt.key hSw m (by omega)).1; have q2 := (NdAt.val hSw m (by omega)).1; clear hSw; go_simp; (try with_reducible rfl))
  case r6_a =>
  try simp only [Act.put, List.setIfInBounds_toArray, List.set_cons_zero, List.set_cons_succ]
  refine takeH 7 19 (v := ?v7_a) rfl rfl (by kernel_rfl) (by kernel_rfl) (by kernel_rfl) (fun _ _ _ h => h) (Or.inl ⟨by rfl, ?h7_a⟩) hH0 ?r7_a
  case h7_a => (intro w hSw; have q0 := (NdAt.num hSw).1; have q1 := (NdAt.key hSw m (by omega)).1; have q2 := (NdAt.val hSw m (by omega)).1; clear hSw; go_simp; (try with_reducible rfl))
  case r7_a =>
  try simp only [Act.put, List.setIfInBounds_toArray, List.set_cons_zero, List.set_cons_succ]
  refine takeH 8 20 (v := ?v8_a) rfl rfl (by kernel_rfl) (by kernel_rfl) (by kernel_rfl) (fun _ _ _ h => h) (Or.inl ⟨by rfl, ?h8_a⟩) hH0 ?r8_a
  case h8_a => (intro w hSw; have q0 := (NdAt.num hSw).1; have q1 := (NdAt.key hSw m (by omega)).1; have q2 := (NdAt.val hSw m (by omega)).1; clear hSw; go_simp; (try with_reducible rfl))
  case r8_a =>
  try simp only [Act.put, List.setIfInBounds_toArray, List.set_cons_zero, List.set_cons_succ]
  refine takeH 9 21 (v := ?v9_a) rfl rfl (by kernel_rfl) (by kernel_rfl) (by kernel_rfl) (fun _ _ _ h => h) (Or.inl ⟨by rfl, ?h9_a⟩) hH0 ?r9_a
  case h9_a => (intro w hSw; have q0 := (NdAt.num hSw).1; have q1 := (NdAt.key hSw m (by omega)).1; have q2 := (NdAt.val hSw m (by omega)).1; clear hSw; go_simp; (try with_reducible rfl))
  case r9_a =>
  try simp only [Act.put, List.setIfInBounds_toArray, List.set_cons_zero, List.set_cons_succ]
  refine takeH 10 22 (v := ?v10_a) rfl rfl (by kernel_rfl) (by kernel_rfl) (by kernel_rfl) (fun _ _ _ h => h) (Or.inl ⟨by rfl, ?h10_a⟩) hH0 ?r10_a
  case h10_a => (intro w hSw; have q0 := (NdAt.num hSw).1; have q1 := (NdAt.key hSw m (by omega)).1; have q2 := (NdAt.val hSw m (by omega)).1; clear hSw; go_simp; (try with_reducible rfl))
  case r10_a =>
  try simp only [Act.put, List.setIfInBounds_toArray, List.set_cons_zero, List.set_cons_succ]
  refine takeH 11 23 (v := ?v11_a) rfl rfl (by kernel_rfl) (by kernel_rfl) (by kernel_rfl) (fun _ _ _ h => h) (Or.inl ⟨by rfl, ?h11_a⟩) hH0 ?r11_a
  case h11_a => (intro w hSw; have q0 := (NdAt.num hSw).1; have q1 := (NdAt.key hSw m (by omega)).1; have q2 := (NdAt.val hSw m (by omega)).1; clear hSw; go_simp; (try with_reducible rfl))
  case r11_a =>
  try simp only [Act.put, List.setIfInBounds_toArray, List.set_cons_zero, List.set_cons_succ]
  refine takeH 12 24 (v := ?v12_a) rfl rfl (by kernel_rfl) (by kernel_rfl) (by kernel_rfl) (fun _ _ _ h => h) (Or.inl ⟨by rfl, ?h12_a⟩) hH0 ?r12_a
  case h12_a => (intro w hSw; have q0 := (NdAt.num hSw).1; have q1 := (NdAt.key hSw m (by omega)).1; have q2 := (NdAt.val hSw m (by omega)).1; clear hSw; go_simp; (try with_reducible rfl))
  case r12_a =>
  try simp only [Act.put, List.setIfInBounds_toArray, List.set_cons_zero, List.set_cons_succ]
  refine loadH_nd 0 (by kernel_rfl) rfl 12 rfl rfl (.tmp 4) rfl h y rfl (unhide HH).drew hH0 ?_
  try simp only [Act.put, List.setIfInBounds_toArray, List.set_cons_zero, List.set_cons_succ]
  refine callH (R := fun v w' => ∃ b, v = ndA b ∧ LPut y (x.K m) (x.V m) b ∧ Only (fun _ => False) _ w') 13 (by kernel_rfl) rfl 25 rfl rfl 338 Tryz.func338 (by kernel_rfl) (by kernel_rfl) #[.tmp 12, .tmp 18, .tmp 24] #[218, 9, 9] rfl #[ndA y, .string (x.K m), .string (x.V m)] (by simp [Act.eval]) ((unhide C _).mono (by rintro e w' ⟨b, rfl, h1, h2⟩; exact ⟨_, rfl, b, rfl, h1, h2⟩)) ?_
  rintro v w5 ⟨b, rfl, hb, o5⟩
  have S5 := hH0.keep o5 (fun h => h)
  refine ⟨S5, ?_⟩
  try simp only [Act.put, List.setIfInBounds_toArray, List.set_cons_zero, List.set_cons_succ]
  refine storeH_nd 14 (by kernel_rfl) rfl rfl rfl (.tmp 4) (.tmp 25) rfl h b y rfl rfl ((unhide HH).drew.keep o5 (fun h => h)) ?_
  intro w6 n6 o6
  have S6 := S5.keep o6 (fun e => by omega)
  refine ⟨S6, ?_⟩
  try simp only [Act.put, List.setIfInBounds_toArray, List.set_cons_zero, List.set_cons_succ]
  refine wpAnyH_done (by kernel_rfl) ?_ _
  have Op6 := ((unhide Op).drew.keep o5 (fun h => h)).keep o6 (fun e => by omega)
  have Oq6 := ((unhide Oq).drew.keep o5 (fun h => h)).keep o6 (fun e => by omega)
  have OX6 := ((unhide OX).drew.trans o5 (fun _ _ h => h)).trans o6 (fun k hk e => by omega)
  have c1 := S6.num.1
  have c2 := S6.num.2
  have oN := S6.o1 1 (.int .i64 (m : Int))
  have G7 := hide (S6.setNum m)
  have H7 := hide (n6.keep oN (fun e => by omega))
  have P7 := hide (Op6.keep oN (fun e => by omega))
  have Q7 := hide (Oq6.keep oN (fun e => by omega))
  have X7 := hide (OX6.trans oN (fun k hk e => by omega))
  have HB := hide hb
  clear GG HH Op Oq OX Op6 Oq6 OX6 oN S6 n6 o6 S5 o5 hH0 hb
  go_wp2_with fail
  rename Hid (NdAt _ p nd0) => Op
  rename Hid (NdAt _ q nd0) => Oq
  refine wp_region_held_drew (S := (fun w' => NdAt w' g { x with n := m } ∧ NdAt w' h b)) (by kernel_rfl) ⟨(unhide G7).drew, (unhide H7).drew⟩ (fun hH0 => ?_)
  refine takeH 0 30 rfl rfl (by kernel_rfl) (by kernel_rfl) (by kernel_rfl) (fun _ _ _ h => h) (yieldsIf_load_nd (by rfl) _ rfl g rfl { x with n := m } (fun _ h => h.1)) hH0 ?r0_b
  case r0_b =>
  try simp only [Act.put, List.setIfInBounds_toArray, List.set_cons_zero, List.set_cons_succ]
  refine takeH 1 31 rfl rfl (by kernel_rfl) (by kernel_rfl) (by kernel_rfl) (fun _ _ _ h => h) (yieldsIf_load_nd (by rfl) _ rfl h rfl b (fun _ h => h.2)) hH0 ?r1_b
  case r1_b =>
  try simp only [Act.put, List.setIfInBounds_toArray, List.set_cons_zero, List.set_cons_succ]
  refine takeH 2 32 (v := ?v2_b) rfl rfl (by kernel_rfl) (by kernel_rfl) (by kernel_rfl) (fun _ _ _ h => h) (Or.inl ⟨by rfl, ?h2_b⟩) hH0 ?r2_b
  case h2_b => (intro w hSw; (try dsimp only at hSw); go_simp; (try with_reducible rfl))
  case r2_b =>
  try simp only [Act.put, List.setIfInBounds_toArray, List.set_cons_zero, List.set_cons_succ]
  refine takeH 3 33 (v := ?v3_b) rfl rfl (by kernel_rfl) (by kernel_rfl) (by kernel_rfl) (fun _ _ _ h => h) (Or.inl ⟨by rfl, ?h3_b⟩) hH0 ?r3_b
  case h3_b => (intro w hSw; (try dsimp only at hSw); go_simp; (try with_reducible rfl))
  case r3_b =>
  try simp only [Act.put, List.setIfInBounds_toArray, List.set_cons_zero, List.set_cons_succ]
  refine takeH 4 34 (v := ?v4_b) rfl rfl (by kernel_rfl) (by kernel_rfl) (by kernel_rfl) (fun _ _ _ h => h) (Or.inl ⟨by rfl, ?h4_b⟩) hH0 ?r4_b
  case h4_b => (intro w hSw; have q1 := (NdAt.key hSw.2 0 (by omega)).1; clear hSw; go_simp; (try with_reducible rfl))
  case r4_b =>
  try simp only [Act.put, List.setIfInBounds_toArray, List.set_cons_zero, List.set_cons_succ]
  refine storeH_nd 5 (by kernel_rfl) rfl rfl rfl _ _ rfl p { x with n := m } nd0 rfl rfl (unhide Op).drew ?_
  intro w7 n7 o7
  have S7 := (show _ ∧ _ from ⟨NdAt.keep hH0.1 o7 (fun h => by omega), NdAt.keep hH0.2 o7 (fun h => by omega)⟩)
  refine ⟨S7, ?_⟩
  try simp only [Act.put, List.setIfInBounds_toArray, List.set_cons_zero, List.set_cons_succ]
  refine storeH_nd 6 (by kernel_rfl) rfl rfl rfl _ _ rfl q b nd0 rfl rfl (NdAt.keep (unhide Oq).drew o7 (fun h => by omega)) ?_
  intro w8 n8 o8
  have S8 := (show _ ∧ _ from ⟨NdAt.keep S7.1 o8 (fun h => by omega), NdAt.keep S7.2 o8 (fun h => by omega)⟩)
  refine ⟨S8, ?_⟩
  try simp only [Act.put, List.setIfInBounds_toArray, List.set_cons_zero, List.set_cons_succ]
  refine takeH 7 8 (v := ?v7_b) rfl rfl (by kernel_rfl) (by kernel_rfl) (by kernel_rfl) (fun _ _ _ h => h) (Or.inl ⟨by rfl, ?h7_b⟩) S8 ?r7_b
  case h7_b => (intro w hSw; (try dsimp only at hSw); go_simp; (try with_reducible rfl))
  case r7_b =>
  try simp only [Act.put, List.setIfInBounds_toArray, List.set_cons_zero, List.set_cons_succ]
  refine wpAnyH_done (by kernel_rfl) ?_ _
  have FF := hide (And.intro (n7.keep o8 (fun h => by omega)) (And.intro n8 (And.intro o7 o8)))
  clear n7 n8 o7 o8 S7 S8 hH0
  go_wp2_with fail
  obtain ⟨n7, n8, o7, o8⟩ := unhide FF
  refine bodyPost_ret (res3_nd Tryz.results352 _ rfl n7 rfl n8) rfl ?_
  exact ⟨b, rfl, unhide HB, ((unhide X7).drew.trans o7 (fun k hk e => by omega)).trans o8 (fun k hk e => by omega)⟩
set_option maxRecDepth 100000 in
set_option maxHeartbeats 6000000 in
theorem fromLeft_inner (x y : Node) (sep : ByteArray) (hk : ¬ x.k = 1) (m : Nat) (hm : x.n = m + 2) (hm4 : m < 4) (w : World) :
    Calls Tryz.prog 352 #[ndA x, ndA y, .string sep] w fun e w' => e = .returned (.tuple #[ndA { x with n := m + 1 }, ndA { y with n := 2, C := upF (upF y.C 1 (y.C 0)) 0 (x.C (m + 1)), K := upF y.K 0 sep }, .string (x.K m)]) ∧ Only (fun _ => False) w w' := by
  have kk : ((x.k : Int) == 1) = false := kk_f hk
  have em : (x.n : Int) - 1 = (m : Int) + 1 := by omega
  have wm : IntKind.i64.wrap (m : Int) = (m : Int) := by rw [IntWalk.i64_in] <;> omega
  have m0 : (0 : Int) ≤ (m : Int) := by omega
  have em3 : (m : Int) + 1 - 1 = (m : Int) := by omega
  have m4 : (m : Int) < 4 := by omega
  have m5 : (m : Int) + 1 < 5 := by omega
  clear hk
  go_enter Tryz.func352, Tryz.ntmps352
  go_upto_region 1 with (first | (refine wpList_box_ndd 3 rfl rfl _ rfl x rfl ?_; intro g w1 hG gG oG) | (refine wpList_box_ndd 4 rfl rfl _ rfl y rfl ?_; intro h w2 hH gH oH) | (refine wpList_alloc_ndd 6 rfl rfl rfl ?_; intro p w3 hP gP oP) | (refine wpList_alloc_ndd 7 rfl rfl rfl ?_; intro q w4 hQ gQ oQ))
  have hgh : g < h := Nat.lt_of_lt_of_le (Has.lt hG) gH
  have hhp : h < p := Nat.lt_of_lt_of_le (Has.lt hH) gP
  have hpq : p < q := Nat.lt_of_lt_of_le (Has.lt hP) gQ
  have GG := hide (((hG.keep oH (fun h => h)).keep oP (fun h => h)).keep oQ (fun h => h))
  have HH := hide ((hH.keep oP (fun h => h)).keep oQ (fun h => h))
  have Op := hide (hP.keep oQ (fun h => h))
  have Oq := hide hQ
  have OX := hide (((oG.trans oH (fun _ _ h => h)).trans oP (fun _ _ h => h)).trans oQ (fun _ _ h => h))
  clear hG hH hP hQ oG oH oP oQ gH gP gQ
  clear w1 w2 w3
  have ck := (unhide GG).kind.1
  have cn := (unhide GG).num
  have cC := (unhide GG).kid (m + 1) (by omega)
  have d0 := (unhide HH).kid0
  have d1 := (unhide HH).kid1
  have d2 := (unhide HH).key0
  have d3 := (unhide HH).num
  have ngh : g ≠ h := by omega
  have oA := ((((unhide HH).o1 11 (.int .i64 (y.C 0 : Int))).more 10 (.int .i64 (x.C (m + 1) : Int))).more 2 (.string sep)).more 1 (.int .i64 2)
  have H1 := ((((unhide HH).setKid1 (y.C 0)).setKid0 (x.C (m + 1))).setKey0 sep).setNum 2
  have G1 := (unhide GG).keep oA (fun e => by omega)
  have oB := G1.o1 1 (.int .i64 ((m : Int) + 1))
  have G7 := hide (G1.setNum (m + 1))
  have H7 := hide (H1.keep oB (fun e => by omega))
  have P7 := hide (((unhide Op).keep oA (fun e => by omega)).keep oB (fun e => by omega))
  have Q7 := hide (((unhide Oq).keep oA (fun e => by omega)).keep oB (fun e => by omega))
  have X7 := hide (((unhide OX).trans oA (fun k hk e => by omega)).trans oB (fun k hk e => by omega))
  have Hm := hide hm
  clear GG HH Op Oq OX oA oB H1 G1 hm
  go_wp2_with fail
  rename Hid (NdAt _ p nd0) => Op
  rename Hid (NdAt _ q nd0) => Oq
  refine wp_region_held_drew (S := (fun w' => NdAt w' g { x with n := m + 1 } ∧ NdAt w' h { y with n := 2, C := upF (upF y.C 1 (y.C 0)) 0 (x.C (m + 1)), K := upF y.K 0 sep })) (by kernel_rfl) ⟨(unhide G7).drew, (unhide H7).drew⟩ (fun hH0 => ?_)
  refine takeH 0 56 rfl rfl (by kernel_rfl) (by kernel_rfl) (by kernel_rfl) (fun _ _ _ h => h) (yieldsIf_load_nd (by rfl) _ rfl g rfl { x with n := m + 1 } (fun _ h => h.1)) hH0 ?r0_c
  case r0_c =>
  try simp only [Act.put, List.setIfInBounds_toArray, List.set_cons_zero, List.set_cons_succ]
  refine takeH 1 57 rfl rfl (by kernel_rfl) (by kernel_rfl) (by kernel_rfl) (fun _ _ _ h => h) (yieldsIf_load_nd (by rfl) _ rfl h rfl { y with n := 2, C := upF (upF y.C 1 (y.C 0)) 0 (x.C (m + 1)), K := upF y.K 0 sep } (fun _ h => h.2)) hH0 ?r1_c
  case r1_c =>
  try simp only [Act.put, List.setIfInBounds_toArray, List.set_cons_zero, List.set_cons_succ]
  refine takeH 2 58 (v := ?v2_c) rfl rfl (by kernel_rfl) (by kernel_rfl) (by kernel_rfl) (fun _ _ _ h => h) (Or.inl ⟨by rfl, ?h2_c⟩) hH0 ?r2_c
  case h2_c => (intro w hSw; (try dsimp only at hSw); go_simp; (try with_reducible rfl))
  case r2_c =>
  try simp only [Act.put, List.setIfInBounds_toArray, List.set_cons_zero, List.set_cons_succ]
  refine takeH 3 59 (v := ?v3_c) rfl rfl (by kernel_rfl) (by kernel_rfl) (by kernel_rfl) (fun _ _ _ h => h) (Or.inl ⟨by rfl, ?h3_c⟩) hH0 ?r3_c
  case h3_c => (intro w hSw; have q1 := (NdAt.num hSw.1).1; clear hSw; go_simp; (try with_reducible rfl))
  case r3_c =>
  try simp only [Act.put, List.setIfInBounds_toArray, List.set_cons_zero, List.set_cons_succ]
  refine takeH 4 60 (v := ?v4_c) rfl rfl (by kernel_rfl) (by kernel_rfl) (by kernel_rfl) (fun _ _ _ h => h) (Or.inl ⟨by rfl, ?h4_c⟩) hH0 ?r4_c
  case h4_c => (intro w hSw; (try dsimp only at hSw); go_simp; (try with_reducible rfl))
  case r4_c =>
  try simp only [Act.put, List.setIfInBounds_toArray, List.set_cons_zero, List.set_cons_succ]
  refine takeH 5 61 (v := ?v5_c) rfl rfl (by kernel_rfl) (by kernel_rfl) (by kernel_rfl) (fun _ _ _ h => h) (Or.inl ⟨by rfl, ?h5_c⟩) hH0 ?r5_c
  case h5_c => (intro w hSw; (try dsimp only at hSw); go_simp; (try with_reducible rfl))
  case r5_c =>
  try simp only [Act.put, List.setIfInBounds_toArray, List.set_cons_zero, List.set_cons_succ]
  refine takeH 6 62 (v := ?v6_c) rfl rfl (by kernel_rfl) (by kernel_rfl) (by kernel_rfl) (fun _ _ _ h => h) (Or.inl ⟨by rfl, ?h6_c⟩) hH0 ?r6_c
  case h6_c => (intro w hSw; (try dsimp only at hSw); go_simp; (try with_reducible rfl))
  case r6_c =>
  try simp only [Act.put, List.setIfInBounds_toArray, List.set_cons_zero, List.set_cons_succ]
  refine takeH 7 63 (v := ?v7_c) rfl rfl (by kernel_rfl) (by kernel_rfl) (by kernel_rfl) (fun _ _ _ h => h) (Or.inl ⟨by rfl, ?h7_c⟩) hH0 ?r7_c
  case h7_c => (intro w hSw; have q1 := (NdAt.key hSw.1 m (by omega)).1; clear hSw; go_simp; (try with_reducible rfl))
  case r7_c =>
  try simp only [Act.put, List.setIfInBounds_toArray, List.set_cons_zero, List.set_cons_succ]
  refine storeH_nd 8 (by kernel_rfl) rfl rfl rfl _ _ rfl p { x with n := m + 1 } nd0 rfl rfl (unhide Op).drew ?_
  intro w7 n7 o7
  have S7 := (show _ ∧ _ from ⟨NdAt.keep hH0.1 o7 (fun h => by omega), NdAt.keep hH0.2 o7 (fun h => by omega)⟩)
  refine ⟨S7, ?_⟩
  try simp only [Act.put, List.setIfInBounds_toArray, List.set_cons_zero, List.set_cons_succ]
  refine storeH_nd 9 (by kernel_rfl) rfl rfl rfl _ _ rfl q { y with n := 2, C := upF (upF y.C 1 (y.C 0)) 0 (x.C (m + 1)), K := upF y.K 0 sep } nd0 rfl rfl (NdAt.keep (unhide Oq).drew o7 (fun h => by omega)) ?_
  intro w8 n8 o8
  have S8 := (show _ ∧ _ from ⟨NdAt.keep S7.1 o8 (fun h => by omega), NdAt.keep S7.2 o8 (fun h => by omega)⟩)
  refine ⟨S8, ?_⟩
  try simp only [Act.put, List.setIfInBounds_toArray, List.set_cons_zero, List.set_cons_succ]
  refine takeH 10 8 (v := ?v10_c) rfl rfl (by kernel_rfl) (by kernel_rfl) (by kernel_rfl) (fun _ _ _ h => h) (Or.inl ⟨by rfl, ?h10_c⟩) S8 ?r10_c
  case h10_c => (intro w hSw; (try dsimp only at hSw); go_simp; (try with_reducible rfl))
  case r10_c =>
  try simp only [Act.put, List.setIfInBounds_toArray, List.set_cons_zero, List.set_cons_succ]
  refine wpAnyH_done (by kernel_rfl) ?_ _
  have FF := hide (And.intro (n7.keep o8 (fun h => by omega)) (And.intro n8 (And.intro o7 o8)))
  clear n7 n8 o7 o8 S7 S8 hH0
  go_wp2_with fail
  obtain ⟨n7, n8, o7, o8⟩ := unhide FF
  refine bodyPost_ret (res3_nd Tryz.results352 _ rfl n7 rfl n8) rfl ?_
  exact ⟨rfl, ((unhide X7).drew.trans o7 (fun k hk e => by omega)).trans o8 (fun k hk e => by omega)⟩
end Go.Proofs.Qxb6500412aGreat
