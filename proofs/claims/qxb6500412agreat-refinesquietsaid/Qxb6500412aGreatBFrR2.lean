/-
  OWN WORK. THE B-TREE: fromRight
-/
import Derived.Test.Qxb6500412aGreatBFrL
namespace Go.Proofs.Qxb6500412aGreat
open Go.RowKit Go.PlainAid
set_option linter.unusedSimpArgs false
set_option linter.unusedVariables false
set_option maxRecDepth 100000 in
set_option maxHeartbeats 6000000 in
theorem fromRight_inner (x y : Node) (sep : ByteArray) (hk : ¬ x.k = 1) (m : Nat) (hm : x.n = m + 1) (hm4 : m < 4) (hy : 1 < y.n) (hy5 : y.n ≤ 5) (w : World) :
    Calls Tryz.prog 354 #[ndA x, ndA y, .string sep] w fun e w' => ∃ b : Node, e = .returned (.tuple #[ndA { x with C := upF x.C (m + 1) (y.C 0), K := upF x.K m sep, n := m + 2 }, ndA b, .string (y.K 0)]) ∧ ICut { y with C := upF y.C 0 (y.C 1) } 0 b ∧ Only (fun _ => False) w w' := by
  have C := hide (fun w => innerCut_any { y with C := upF y.C 0 (y.C 1) } 0 (by simpa using hy) (by simpa using hy5) w)
  have kk : ((x.k : Int) == 1) = false := kk_f hk
  have x5 : (x.n : Int) < 5 := by omega
  have em : (x.n : Int) - 1 = (m : Int) := by omega
  have m4 : (m : Int) < 4 := by omega
  have Hm := hide hm
  clear hk
  go_enter Tryz.func354, Tryz.ntmps354
  go_upto_region 1 with (first | (refine wpList_box_ndd 3 rfl rfl _ rfl x rfl ?_; intro g w1 hG gG oG) | (refine wpList_box_ndd 4 rfl rfl _ rfl y rfl ?_; intro h w2 hH gH oH) | (refine wpList_alloc_ndd 6 rfl rfl rfl ?_; intro p w3 hP gP oP) | (refine wpList_alloc_ndd 7 rfl rfl rfl ?_; intro q w4 hQ gQ oQ))
  have hgh : g < h := Nat.lt_of_lt_of_le (Has.lt hG) gH
  have hhp : h < p := Nat.lt_of_lt_of_le (Has.lt hH) gP
  have hpq : p < q := Nat.lt_of_lt_of_le (Has.lt hP) gQ
  have GG := hide (((hG.keep oH (fun h => h)).keep oP (fun h => h)).keep oQ (fun h => h))
  have HH := hide ((hH.keep oP (fun h => h)).keep oQ (fun h => h))
  have Op := hide (hP.keep oQ (fun h => h))
  have Oq := hide hQ
  have OX := hide (((oG.trans oH (fun _ _ h => h)).trans oP (fun _ _ h => h)).trans oQ (fun _ _ h => h))
  clear hG hH hP hQ oG oH oP oQ gH gP gQ
  clear w1 w2 w3
  have ngh : g ≠ h := by omega
  clear hm
  have ck := (unhide GG).kind.1
  have cn := (unhide GG).num.1
  have cC := (unhide GG).kid x.n (by omega)
  have d0 := (unhide HH).key0.1
  have d1 := (unhide HH).kid0.1
  go_upto_region 9 with fail
  have oS := (unhide GG).o1 (10 + x.n) (.int .i64 (y.C 0 : Int))
  have M1 := hide (show NdAt (w4.setCell ⟨g, 10 + x.n, none⟩ (.int .i64 (y.C 0 : Int))) g _ from (unhide GG).setKid x.n (by omega) (y.C 0))
  have M2 := hide ((unhide HH).keep oS (fun e => by omega))
  have M3 := hide ((unhide Op).keep oS (fun e => by omega))
  have M4 := hide ((unhide Oq).keep oS (fun e => by omega))
  have M5 := hide ((unhide OX).trans oS (fun k hk e => by omega))
  clear GG HH Op Oq OX oS
  generalize w4.setCell ⟨g, 10 + x.n, none⟩ (.int .i64 (y.C 0 : Int)) = w5 at *
  have GG := M1
  have HH := M2
  have Op := M3
  have Oq := M4
  have OX := M5
  clear M1 M2 M3 M4 M5
  clear ck cn cC d0 d1
  have cn := (unhide GG).num.1
  have cK := (unhide GG).key m (by omega)
  go_upto_region 10 with fail
  have oS := (unhide GG).o1 (2 + m) (.string sep)
  have M1 := hide (show NdAt (w5.setCell ⟨g, 2 + m, none⟩ (.string sep)) g _ from (unhide GG).setKey m (by omega) sep)
  have M2 := hide ((unhide HH).keep oS (fun e => by omega))
  have M3 := hide ((unhide Op).keep oS (fun e => by omega))
  have M4 := hide ((unhide Oq).keep oS (fun e => by omega))
  have M5 := hide ((unhide OX).trans oS (fun k hk e => by omega))
  clear GG HH Op Oq OX oS
  generalize w5.setCell ⟨g, 2 + m, none⟩ (.string sep) = w6 at *
  have GG := M1
  have HH := M2
  have Op := M3
  have Oq := M4
  have OX := M5
  clear M1 M2 M3 M4 M5
  clear cn cK
  have cn := (unhide GG).num
  go_upto_region 11 with fail
  have oS := (unhide GG).o1 (1) (.int .i64 ((x.n : Int) + 1))
  have M1 := hide (show NdAt (w6.setCell ⟨g, 1, none⟩ (.int .i64 ((x.n : Int) + 1))) g _ from (unhide GG).setNum (x.n + 1))
  have M2 := hide ((unhide HH).keep oS (fun e => by omega))
  have M3 := hide ((unhide Op).keep oS (fun e => by omega))
  have M4 := hide ((unhide Oq).keep oS (fun e => by omega))
  have M5 := hide ((unhide OX).trans oS (fun k hk e => by omega))
  clear GG HH Op Oq OX oS
  generalize w6.setCell ⟨g, 1, none⟩ (.int .i64 ((x.n : Int) + 1)) = w7 at *
  have GG := M1
  have HH := M2
  have Op := M3
  have Oq := M4
  have OX := M5
  clear M1 M2 M3 M4 M5
  clear cn
  have d1 := (unhide HH).kid0
  have d2 := (unhide HH).kid1.1
  go_upto_region 12 with fail
  have oS := (unhide HH).o1 (10) (.int .i64 (y.C 1 : Int))
  have M1 := hide (show NdAt (w7.setCell ⟨h, 10, none⟩ (.int .i64 (y.C 1 : Int))) h _ from (unhide HH).setKid0 (y.C 1))
  have M2 := hide ((unhide GG).keep oS (fun e => by omega))
  have M3 := hide ((unhide Op).keep oS (fun e => by omega))
  have M4 := hide ((unhide Oq).keep oS (fun e => by omega))
  have M5 := hide ((unhide OX).trans oS (fun k hk e => by omega))
  clear GG HH Op Oq OX oS
  generalize w7.setCell ⟨h, 10, none⟩ (.int .i64 (y.C 1 : Int)) = w8 at *
  have HH := M1
  have GG := M2
  have Op := M3
  have Oq := M4
  have OX := M5
  clear M1 M2 M3 M4 M5
  clear d1 d2
  have G7 := GG
  have H7 := HH
  have P7 := Op
  have Q7 := Oq
  have X7 := OX
  clear GG HH Op Oq OX
  go_wp2_with (first | (refine wpList_load_nd rfl _ rfl h rfl (unhide H7) ?_))
  refine (unhide C _).mono ?_
  rintro e w5 ⟨b, rfl, hb, o5⟩
  have HB := hide hb
  have O5 := hide o5
  clear hb o5
  go_wp2_with (first | (refine wpList_store_nd rfl _ _ rfl h b rfl rfl ((unhide H7).keep (unhide O5) (fun h => h)) ?_; intro w6 n6 o6; have G8 := hide (((unhide G7).keep (unhide O5) (fun h => h)).keep o6 (fun e => by omega)); have H8 := hide n6; have Op := hide (((unhide P7).keep (unhide O5) (fun h => h)).keep o6 (fun e => by omega)); have Oq := hide (((unhide Q7).keep (unhide O5) (fun h => h)).keep o6 (fun e => by omega)); have X8 := hide (((unhide X7).trans (unhide O5) (fun _ _ h => h)).trans o6 (fun k hk e => by omega)); clear n6 o6))
  have G9 := unhide G8
  simp only [unhide Hm] at G9
  have G9 := hide G9
  refine wp_region_held_drew (S := (fun w' => NdAt w' g { x with C := upF x.C (m + 1) (y.C 0), K := upF x.K m sep, n := m + 2 } ∧ NdAt w' h b)) (by kernel_rfl) ⟨(unhide G9).drew, (unhide H8).drew⟩ (fun hH0 => ?_)
  refine takeH 0 65 rfl rfl (by kernel_rfl) (by kernel_rfl) (by kernel_rfl) (fun _ _ _ h => h) (yieldsIf_load_nd (by rfl) _ rfl g rfl { x with C := upF x.C (m + 1) (y.C 0), K := upF x.K m sep, n := m + 2 } (fun _ h => h.1)) hH0 ?r0_e
  case r0_e =>
  try simp only [Act.put, List.setIfInBounds_toArray, List.set_cons_zero, List.set_cons_succ]
  refine takeH 1 66 rfl rfl (by kernel_rfl) (by kernel_rfl) (by kernel_rfl) (fun _ _ _ h => h) (yieldsIf_load_nd (by rfl) _ rfl h rfl b (fun _ h => h.2)) hH0 ?r1_e
  case r1_e =>
  try simp only [Act.put, List.setIfInBounds_toArray, List.set_cons_zero, List.set_cons_succ]
  refine takeH 2 67 (v := ?v2_e) rfl rfl (by kernel_rfl) (by kernel_rfl) (by kernel_rfl) (fun _ _ _ h => h) (Or.inl ⟨by rfl, ?h2_e⟩) hH0 ?r2_e
  case h2_e => (intro w hSw; (try dsimp only at hSw); go_simp; (try with_reducible rfl))
  case r2_e =>
  try simp only [Act.put, List.setIfInBounds_toArray, List.set_cons_zero, List.set_cons_succ]
  refine storeH_nd 3 (by kernel_rfl) rfl rfl rfl _ _ rfl p { x with C := upF x.C (m + 1) (y.C 0), K := upF x.K m sep, n := m + 2 } nd0 rfl rfl (unhide Op).drew ?_
  intro w7 n7 o7
  have S7 := (show _ ∧ _ from ⟨NdAt.keep hH0.1 o7 (fun h => by omega), NdAt.keep hH0.2 o7 (fun h => by omega)⟩)
  refine ⟨S7, ?_⟩
  try simp only [Act.put, List.setIfInBounds_toArray, List.set_cons_zero, List.set_cons_succ]
  refine storeH_nd 4 (by kernel_rfl) rfl rfl rfl _ _ rfl q b nd0 rfl rfl (NdAt.keep (unhide Oq).drew o7 (fun h => by omega)) ?_
  intro w8 n8 o8
  have S8 := (show _ ∧ _ from ⟨NdAt.keep S7.1 o8 (fun h => by omega), NdAt.keep S7.2 o8 (fun h => by omega)⟩)
  refine ⟨S8, ?_⟩
  try simp only [Act.put, List.setIfInBounds_toArray, List.set_cons_zero, List.set_cons_succ]
  refine takeH 5 8 (v := ?v5_e) rfl rfl (by kernel_rfl) (by kernel_rfl) (by kernel_rfl) (fun _ _ _ h => h) (Or.inl ⟨by rfl, ?h5_e⟩) S8 ?r5_e
  case h5_e => (intro w hSw; (try dsimp only at hSw); go_simp; (try with_reducible rfl))
  case r5_e =>
  try simp only [Act.put, List.setIfInBounds_toArray, List.set_cons_zero, List.set_cons_succ]
  refine wpAnyH_done (by kernel_rfl) ?_ _
  have FF := hide (And.intro (n7.keep o8 (fun h => by omega)) (And.intro n8 (And.intro o7 o8)))
  clear n7 n8 o7 o8 S7 S8 hH0
  go_wp2_with fail
  obtain ⟨n7, n8, o7, o8⟩ := unhide FF
  refine bodyPost_ret (res3_nd Tryz.results354 _ rfl n7 rfl n8) rfl ?_
  exact ⟨b, rfl, unhide HB, ((unhide X8).drew.trans o7 (fun k hk e => by omega)).trans o8 (fun k hk e => by omega)⟩
end Go.Proofs.Qxb6500412aGreat
