/-
  OWN WORK. THE B-TREE: join, inner nodes.
-/
import Derived.Test.Qxb6500412aGreatBJn
namespace Go.Proofs.Qxb6500412aGreat
open Go.RowKit Go.PlainAid
set_option linter.unusedSimpArgs false
set_option linter.unusedVariables false

set_option maxRecDepth 100000 in
set_option maxHeartbeats 6000000 in
theorem join_inner (x y : Node) (sep : ByteArray) (hk : ¬ x.k = 1) (m : Nat) (hm : x.n = m + 1) (hn : x.n + y.n ≤ 4) (hy : 1 ≤ y.n) (w : World) :
    Calls Tryz.prog 355 #[ndA x, ndA y, .string sep] w fun e w' => ∃ z : Node, e = .returned (ndA z) ∧ JnI x y sep z ∧ Only (fun _ => False) w w' := by
  have kk : ((x.k : Int) == 1) = false := kk_f hk
  have em : (x.n : Int) - 1 = (m : Int) := by omega
  have m4 : (m : Int) < 4 := by omega
  have Hm := hide hm
  clear hk hm
  go_enter Tryz.func355, Tryz.ntmps355
  go_upto_region 1 with (first | (refine wpList_box_ndd 3 rfl rfl _ rfl x rfl ?_; intro g w1 hG gG oG) | (refine wpList_box_ndd 4 rfl rfl _ rfl y rfl ?_; intro h w2 hH gH oH) | (refine wpList_alloc_ndd 6 rfl rfl rfl ?_; intro p w3 hP gP oP))
  have hgh : g < h := Nat.lt_of_lt_of_le (Has.lt hG) gH
  have hhp : h < p := Nat.lt_of_lt_of_le (Has.lt hH) gP
  have GG := hide ((hG.keep oH (fun h => h)).keep oP (fun h => h))
  have HH := hide (hH.keep oP (fun h => h))
  have Op := hide hP
  have OX := hide ((oG.trans oH (fun _ _ h => h)).trans oP (fun _ _ h => h))
  clear hG hH hP oG oH oP gH gP
  clear w1 w2
  have ngh : g ≠ h := by omega
  have ck := (unhide GG).kind.1
  have cn := (unhide GG).num.1
  have cK := (unhide GG).key m (by omega)
  have oS := (unhide GG).o1 (2 + m) (.string sep)
  have M1 := hide ((unhide GG).setKey m (by omega) sep)
  have M2 := hide ((unhide HH).keep oS (fun e => by omega))
  have M3 := hide ((unhide Op).keep oS (fun e => by omega))
  have M4 := hide ((unhide OX).trans oS (S := fun _ => False) (fun k hk e => by omega))
  clear GG HH Op OX oS
  go_upto_region 11 with fail
  generalize w3.setCell ⟨g, 2 + m, none⟩ (.string sep) = w4 at *
  clear ck cn cK
  go_loopw [8] (fun iv wr => ∃ j : Nat, j ≤ y.n ∧ iv = .int .i64 j ∧ NdAt wr g { x with K := upF x.K m sep, C := jnF x.C x.n y.C j } ∧ NdAt wr h y ∧ NdAt wr p nd0 ∧ Only (fun _ => False) w wr) (fun iv _ => 5 - (intOf iv).toNat)
  case atStart => exact ⟨0, Nat.zero_le _, rfl, by rw [jnF_zero]; exact unhide M1, unhide M2, unhide M3, unhide M4⟩
  case round =>
    obtain ⟨j, hj, rfl, hG, hH, hP, hO⟩ := hrel
    clear M1 M2 M3 M4
    have dn := hH.num.1
    by_cases hs : j < y.n
    · have a1 : decide ((j : Int) < (y.n : Int)) = true := decide_eq_true (by omega)
      have a2 : (j : Int) < 5 := by omega
      have a3 : (x.n : Int) + (j : Int) < 5 := by omega
      have cn := hG.num.1
      have ck := hG.kid (x.n + j) (by omega)
      have dk := (hH.kid j (by omega)).1
      have oS := hG.o1 (10 + (x.n + j)) (.int .i64 (y.C j : Int))
      have M1 := hide (hG.setKid (x.n + j) (by omega) (y.C j)).drew
      have M2 := hide (hH.keep oS (fun e => by omega)).drew
      have M3 := hide (hP.keep oS (fun e => by omega)).drew
      have M4 := hide (hO.trans oS (S := fun _ => False) (fun k hk e => by omega)).drew
      clear hG hH hP hO oS
      go_upto_region 13 with fail
      go_region
      generalize (wr.setCell ⟨g, 10 + (x.n + j), none⟩ (.int .i64 (y.C j : Int))).drew = w6 at *
      clear cn ck dk dn
      go_wp2_with fail
      go_roundw
      case rel =>
        refine ⟨j + 1, by omega, by go_num, ?_, unhide M2, unhide M3, unhide M4⟩
        have := unhide M1
        simp only [jnF_step] at this
        exact this
      case measure => simp [intOf]; omega
    · have ej : j = y.n := by omega
      subst ej
      have a1 : decide ((y.n : Int) < (y.n : Int)) = false := by simp
      have FF := hide (And.intro hG (And.intro hH (And.intro hP hO)))
      clear hG hH hP hO
      go_upto_region 15 with fail
      clear dn
      go_loopw [9] (fun iv wr => ∃ j : Nat, j + 1 ≤ y.n ∧ iv = .int .i64 j ∧ NdAt wr g { x with K := jnF (upF x.K m sep) x.n y.K j, C := jnF x.C x.n y.C y.n } ∧ NdAt wr h y ∧ NdAt wr p nd0 ∧ Only (fun _ => False) w wr) (fun iv _ => 5 - (intOf iv).toNat)
      case atStart => exact ⟨0, by omega, rfl, by rw [jnF_zero]; exact (unhide FF).1, (unhide FF).2.1, (unhide FF).2.2.1, (unhide FF).2.2.2⟩
      case round =>
        obtain ⟨j, hj, rfl, hG, hH, hP, hO⟩ := hrel
        clear FF
        have dn := hH.num.1
        by_cases hs : j + 1 < y.n
        · have a1 : decide ((j : Int) + 1 < (y.n : Int)) = true := decide_eq_true (by omega)
          have a2 : (j : Int) < 4 := by omega
          have a3 : (x.n : Int) + (j : Int) < 4 := by omega
          have cn := hG.num.1
          have ck := hG.key (x.n + j) (by omega)
          have dk := (hH.key j (by omega)).1
          have oS := hG.o1 (2 + (x.n + j)) (.string (y.K j))
          have M1 := hide (hG.setKey (x.n + j) (by omega) (y.K j)).drew
          have M2 := hide (hH.keep oS (fun e => by omega)).drew
          have M3 := hide (hP.keep oS (fun e => by omega)).drew
          have M4 := hide (hO.trans oS (S := fun _ => False) (fun k hk e => by omega)).drew
          clear hG hH hP hO oS
          go_upto_region 17 with fail
          go_region
          generalize (wr.setCell ⟨g, 2 + (x.n + j), none⟩ (.string (y.K j))).drew = w6 at *
          clear cn ck dk dn
          go_wp2_with fail
          go_roundw
          case rel =>
            refine ⟨j + 1, by omega, by go_num, ?_, unhide M2, unhide M3, unhide M4⟩
            have := unhide M1
            simp only [jnF_step] at this
            exact this
          case measure => simp [intOf]; omega
        · have a1 : decide ((j : Int) + 1 < (y.n : Int)) = false := decide_eq_false (by omega)
          have cn := hG.num
          have oS := hG.o1 1 (.int .i64 ((x.n : Int) + (y.n : Int)))
          have M1 := hide (show NdAt (wr.setCell ⟨g, 1, none⟩ (.int .i64 ((x.n : Int) + (y.n : Int)))) g _ from hG.setNum (x.n + y.n))
          have M3 := hide (hP.keep oS (fun e => by omega))
          have M4 := hide (hO.trans oS (S := fun _ => False) (fun k hk e => by omega))
          clear hG hH hP hO oS
          go_upto_region 19 with fail
          generalize wr.setCell ⟨g, 1, none⟩ (.int .i64 ((x.n : Int) + (y.n : Int))) = w5 at *
          clear cn dn
          go_wp2_with (first | (refine wpList_load_nd rfl _ rfl g rfl (unhide M1) ?_) | (refine wpList_store_nd rfl _ _ rfl p _ rfl rfl (unhide M3) ?_; intro w7 hR7 hO7))
          refine bodyPost_ret (res1_nd Tryz.results355 _ rfl hR7) rfl ?_
          have hm := unhide Hm
          have ej : j + 1 = y.n := by omega
          refine ⟨_, rfl, ⟨rfl, rfl, fun t ht => jnF_lt _ _ _ _ _ ht, fun t ht => jnF_ge _ _ _ _ _ ht, fun t ht => ?_, ?_, fun t ht => ?_⟩, ?_⟩
          · show jnF (upF x.K m sep) x.n y.K j t = _
            rw [jnF_lt _ _ _ _ _ (by omega), upF_other _ _ _ _ (by omega)]
          · show jnF (upF x.K m sep) x.n y.K j (x.n - 1) = _
            rw [jnF_lt _ _ _ _ _ (by omega)]
            have : x.n - 1 = m := by omega
            rw [this, upF_same]
          · show jnF (upF x.K m sep) x.n y.K j (x.n + t) = _
            rw [jnF_ge _ _ _ _ _ (by omega)]
          · exact (unhide M4).trans hO7 (fun k hk e => by omega)
end Go.Proofs.Qxb6500412aGreat
