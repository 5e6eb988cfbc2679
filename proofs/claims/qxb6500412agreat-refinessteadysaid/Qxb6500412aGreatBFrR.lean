/-
  OWN WORK. THE B-TREE: fromRight
-/
import Derived.Test.Qxb6500412aGreatBFrL
namespace Go.Proofs.Qxb6500412aGreat
open Go.RowKit Go.PlainAid
set_option linter.unusedSimpArgs false
set_option linter.unusedVariables false
set_option maxRecDepth 100000 in
set_option maxHeartbeats 6000000 in
theorem fromRight_leaf (x y : Node) (sep : ByteArray) (hk : x.k = 1) (hx : x.n < 4) (hy : 0 < y.n) (hy4 : y.n ≤ 4) (w : World) :
    Calls Tryz.prog 354 #[ndA x, ndA y, .string sep] w fun e w' => ∃ b : Node, e = .returned (.tuple #[ndA { x with K := upF x.K x.n (y.K 0), V := upF x.V x.n (y.V 0), n := x.n + 1 }, ndA b, .string (b.K 0)]) ∧ LCut y 0 b ∧ Only (fun _ => False) w w' := by
  have C := hide (fun w => leafCut_any y 0 hy hy4 w)
  have kk : ((x.k : Int) == 1) = true := kk_t hk
  have x4 : (x.n : Int) < 4 := by omega
  clear hk
  go_enter Tryz.func354, Tryz.ntmps354
  go_upto_region 1 with (first | (refine wpList_box_ndd 3 rfl rfl _ rfl x rfl ?_; intro g w1 hG gG oG) | (refine wpList_box_ndd 4 rfl rfl _ rfl y rfl ?_; intro h w2 hH gH oH) | (refine wpList_alloc_ndd 6 rfl rfl rfl ?_; intro p w3 hP gP oP) | (refine wpList_alloc_ndd 7 rfl rfl rfl ?_; intro q w4 hQ gQ oQ))
  have hgh : g < h := Nat.lt_of_lt_of_le (Has.lt hG) gH
  have hhp : h < p := Nat.lt_of_lt_of_le (Has.lt hH) gP
  have hpq : p < q := Nat.lt_of_lt_of_le (Has.lt hP) gQ
  have GG := hide (((hG.keep oH (fun h => h)).keep oP (fun h => h)).keep oQ (fun h => h))
  have HH := hide ((hH.keep oP (fun h => h)).keep oQ (fun h => h))
  have Op := hide (hP.keep oQ (fun h => h))
  have Oq := hide hQ
  have OX := hide (((oG.trans oH (fun _ _ h => h)).trans oP (fun _ _ h => h)).trans oQ (fun _ _ h => h))
  clear hG hH hP hQ oG oH oP oQ gH gP gQ
  clear w1 w2 w3
  have ck := (unhide GG).kind.1
  have cn := (unhide GG).num
  have cK := (unhide GG).key x.n (by omega)
  have cV := (unhide GG).val x.n (by omega)
  have d0 := (unhide HH).key0.1
  have d1 := (unhide HH).val0.1
  have ngh : g ≠ h := by omega
  have oA := (((unhide GG).o1 (2 + x.n) (.string (y.K 0))).more (6 + x.n) (.string (y.V 0))).more 1 (.int .i64 ((x.n : Int) + 1))
  have G1 := ((((unhide GG).setKey x.n (by omega) (y.K 0))).setVal x.n (by omega) (y.V 0)).setNum (x.n + 1)
  have G7 := hide G1
  have H7 := hide ((unhide HH).keep oA (fun e => by omega))
  have P7 := hide ((unhide Op).keep oA (fun e => by omega))
  have Q7 := hide ((unhide Oq).keep oA (fun e => by omega))
  have X7 := hide ((unhide OX).trans oA (fun k hk e => by omega))
  clear GG HH Op Oq OX oA G1
  go_wp2_with (first | (refine wpList_load_nd rfl _ rfl h rfl (unhide H7) ?_))
  refine (unhide C _).mono ?_
  rintro e w5 ⟨b, rfl, hb, o5⟩
  have HB := hide hb
  have O5 := hide o5
  clear hb o5 ck cn cK cV d0 d1
  go_wp2_with (first | (refine wpList_store_nd rfl _ _ rfl h b rfl rfl ((unhide H7).keep (unhide O5) (fun h => h)) ?_; intro w6 n6 o6; have G8 := hide (((unhide G7).keep (unhide O5) (fun h => h)).keep o6 (fun e => by omega)); have H8 := hide n6; have Op := hide (((unhide P7).keep (unhide O5) (fun h => h)).keep o6 (fun e => by omega)); have Oq := hide (((unhide Q7).keep (unhide O5) (fun h => h)).keep o6 (fun e => by omega)); have X8 := hide (((unhide X7).trans (unhide O5) (fun _ _ h => h)).trans o6 (fun k hk e => by omega)); clear n6 o6))
  refine wp_region_held_drew (S := (fun w' => NdAt w' g { x with K := upF x.K x.n (y.K 0), V := upF x.V x.n (y.V 0), n := x.n + 1 } ∧ NdAt w' h b)) (by kernel_rfl) ⟨(unhide G8).drew, (unhide H8).drew⟩ (fun hH0 => ?_)
  refine takeH 0 33 rfl rfl (by kernel_rfl) (by kernel_rfl) (by kernel_rfl) (fun _ _ _ h => h) (yieldsIf_load_nd (by rfl) _ rfl g rfl { x with K := upF x.K x.n (y.K 0), V := upF x.V x.n (y.V 0), n := x.n + 1 } (fun _ h => h.1)) hH0 ?r0_d
  case r0_d =>
  try simp only [Act.put, List.setIfInBounds_toArray, List.set_cons_zero, List.set_cons_succ]
  refine takeH 1 34 rfl rfl (by kernel_rfl) (by kernel_rfl) (by kernel_rfl) (fun _ _ _ h => h) (yieldsIf_load_nd (by rfl) _ rfl h rfl b (fun _ h => h.2)) hH0 ?r1_d
  case r1_d =>
  try simp only [Act.put, List.setIfInBounds_toArray, List.set_cons_zero, List.set_cons_succ]
  refine takeH 2 35 (v := ?v2_d) rfl rfl (by kernel_rfl) (by kernel_rfl) (by kernel_rfl) (fun _ _ _ h => h) (Or.inl ⟨by rfl, ?h2_d⟩) hH0 ?r2_d
  case h2_d => (intro w hSw; (try dsimp only at hSw); go_simp; (try with_reducible rfl))
  case r2_d =>
  try simp only [Act.put, List.setIfInBounds_toArray, List.set_cons_zero, List.set_cons_succ]
  refine takeH 3 36 (v := ?v3_d) rfl rfl (by kernel_rfl) (by kernel_rfl) (by kernel_rfl) (fun _ _ _ h => h) (Or.inl ⟨by rfl, ?h3_d⟩) hH0 ?r3_d
  case h3_d => (intro w hSw; (try dsimp only at hSw); go_simp; (try with_reducible rfl))
  case r3_d =>
  try simp only [Act.put, List.setIfInBounds_toArray, List.set_cons_zero, List.set_cons_succ]
  refine takeH 4 37 (v := ?v4_d) rfl rfl (by kernel_rfl) (by kernel_rfl) (by kernel_rfl) (fun _ _ _ h => h) (Or.inl ⟨by rfl, ?h4_d⟩) hH0 ?r4_d
  case h4_d => (intro w hSw; have q1 := (NdAt.key hSw.2 0 (by omega)).1; clear hSw; go_simp; (try with_reducible rfl))
  case r4_d =>
  try simp only [Act.put, List.setIfInBounds_toArray, List.set_cons_zero, List.set_cons_succ]
  refine storeH_nd 5 (by kernel_rfl) rfl rfl rfl _ _ rfl p { x with K := upF x.K x.n (y.K 0), V := upF x.V x.n (y.V 0), n := x.n + 1 } nd0 rfl rfl (unhide Op).drew ?_
  intro w7 n7 o7
  have S7 := (show _ ∧ _ from ⟨NdAt.keep hH0.1 o7 (fun h => by omega), NdAt.keep hH0.2 o7 (fun h => by omega)⟩)
  refine ⟨S7, ?_⟩
  try simp only [Act.put, List.setIfInBounds_toArray, List.set_cons_zero, List.set_cons_succ]
  refine storeH_nd 6 (by kernel_rfl) rfl rfl rfl _ _ rfl q b nd0 rfl rfl (NdAt.keep (unhide Oq).drew o7 (fun h => by omega)) ?_
  intro w8 n8 o8
  have S8 := (show _ ∧ _ from ⟨NdAt.keep S7.1 o8 (fun h => by omega), NdAt.keep S7.2 o8 (fun h => by omega)⟩)
  refine ⟨S8, ?_⟩
  try simp only [Act.put, List.setIfInBounds_toArray, List.set_cons_zero, List.set_cons_succ]
  refine takeH 7 8 (v := ?v7_d) rfl rfl (by kernel_rfl) (by kernel_rfl) (by kernel_rfl) (fun _ _ _ h => h) (Or.inl ⟨by rfl, ?h7_d⟩) S8 ?r7_d
  case h7_d => (intro w hSw; (try dsimp only at hSw); go_simp; (try with_reducible rfl))
  case r7_d =>
  try simp only [Act.put, List.setIfInBounds_toArray, List.set_cons_zero, List.set_cons_succ]
  refine wpAnyH_done (by kernel_rfl) ?_ _
  have FF := hide (And.intro (n7.keep o8 (fun h => by omega)) (And.intro n8 (And.intro o7 o8)))
  clear n7 n8 o7 o8 S7 S8 hH0
  go_wp2_with fail
  obtain ⟨n7, n8, o7, o8⟩ := unhide FF
  refine bodyPost_ret (res3_nd Tryz.results354 _ rfl n7 rfl n8) rfl ?_
  exact ⟨b, rfl, unhide HB, ((unhide X8).drew.trans o7 (fun k hk e => by omega)).trans o8 (fun k hk e => by omega)⟩
end Go.Proofs.Qxb6500412aGreat
