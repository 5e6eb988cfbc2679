/-
  OWN WORK. THE B-TREE: innerCut.
-/
import Derived.Test.Qxb6500412aGreatBCut
namespace Go.Proofs.Qxb6500412aGreat
open Go.RowKit Go.PlainAid
set_option linter.unusedSimpArgs false
set_option linter.unusedVariables false
set_option maxRecDepth 100000 in
set_option maxHeartbeats 1000000 in
theorem innerCut_any (x : Node) (i : Nat) (hi : i + 1 < x.n) (h4 : x.n ≤ 5) (w : World) :
    Calls Tryz.prog 356 #[ndA x, .int .i64 (i : Int)] w fun e w' => ∃ y : Node, e = .returned (ndA y) ∧ ICut x i y ∧ Only (fun _ => False) w w' := by
  go_enter Tryz.func356, Tryz.ntmps356
  go_wp2_with (first | (refine wpList_box_nd rfl _ rfl x rfl ?_; intro g w1 hG gG oG) | (refine wpList_alloc_nd rfl rfl ?_; intro r w2 hR gR oR))
  have hG2 := hG.keep oR (fun h => h)
  have hrg : r ≠ g := by have := Has.lt hG; omega
  have GG := hide hG2
  have RR := hide hR
  have OO := hide (oG.trans oR (fun _ _ h => h))
  have gR' : w.heap.size ≤ r := Nat.le_trans oG.size gR
  clear hG hR oG oR hG2 gR
  clear w1
  go_loopw [5] (fun iv wr => ∃ j : Nat, iv = .int .i64 (j : Int) ∧ i ≤ j ∧ j + 1 < x.n ∧ NdAt wr g { x with K := cutF x.K i j, C := cutF x.C (i + 1) (j + 1) } ∧ NdAt wr r nd0 ∧ Only (fun _ => False) w wr) (fun iv _ => x.n - (intOf iv).toNat)
  case atStart =>
    refine ⟨i, rfl, Nat.le_refl _, hi, ?_, unhide RR, unhide OO⟩
    rw [cutF_zero, cutF_zero]
    exact unhide GG
  case round =>
    obtain ⟨j, rfl, hij, hj, hG, hR, hO⟩ := hrel
    clear GG RR OO
    have c1 := hG.num.1
    by_cases hs : j + 2 < x.n
    · have a1 : decide ((j : Int) + 2 < (x.n : Int)) = true := decide_eq_true (by omega)
      have a2 : (j : Int) < 4 := by omega
      have a3 : (j : Int) + 1 < 4 := by omega
      have a4 : (j : Int) + 2 < 5 := by omega
      have a5 : (j : Int) + 1 < 5 := by omega
      have k1 := hG.key (j + 1) (by omega)
      have k2 := hG.key j (by omega)
      have v1 := hG.kid (j + 2) (by omega)
      have v2 := hG.kid (j + 1) (by omega)
      have hK := hG.setKey j (by omega) (x.K (j + 1))
      have hV := hK.setKid (j + 1) (by omega) (x.C (j + 2))
      have hR2 := hR.keep (only1 (p := g) (2 + j) (.string (x.K (j + 1)))) hrg
      have hR3 := hR2.keep (only1 (p := g) (10 + (j + 1)) (.int .i64 (x.C (j + 2) : Int))) hrg
      have hO3 : Only (fun _ => False) w ((_ : World).setCell ⟨g, 10 + (j + 1), none⟩ (.int .i64 (x.C (j + 2) : Int))) := (hO.own gG (2 + j) (.string (x.K (j + 1)))).own gG _ _
      simp only [cutF_ge x.K i j (j + 1) (by omega), cutF_ge x.C (i + 1) (j + 1) (j + 2) (by omega), cutF_step x.K i j hij, cutF_step x.C (i + 1) (j + 1) (by omega)] at k1 v1 hV
      have V3 := hide hV
      have R3 := hide hR3
      have O3 := hide hO3
      clear hV hR3 hO3 hR2 hK hG hR hO
      go_wp2_with fail
      go_roundw
      case rel => exact ⟨j + 1, by go_num, by omega, by omega, unhide V3, unhide R3, unhide O3⟩
      case measure => simp [intOf]; omega
    · have a1 : decide ((j : Int) + 2 < (x.n : Int)) = false := decide_eq_false (by omega)
      have n1 := hG.num.2
      obtain ⟨m, hm⟩ : ∃ m, x.n = m + 1 := ⟨x.n - 1, by omega⟩
      have a4 : (x.n : Int) - 1 = (m : Int) := by omega
      have hN := hG.setNum m
      have hR2 := hR.keep (only1 (p := g) 1 (.int .i64 (m : Int))) hrg
      have hO2 := hO.own gG 1 (.int .i64 (m : Int))
      have N2 := hide hN
      have R2 := hide hR2
      have O2 := hide hO2
      clear hN hR2 hO2 hG hR hO
      go_wp2_with (first | (refine wpList_load_nd rfl _ rfl g rfl (unhide N2) ?_) | (refine wpList_store_nd rfl _ _ rfl r _ rfl rfl (unhide R2) ?_; intro w5 hR5 hO5))
      refine bodyPost_ret (res1_nd Tryz.results356 _ rfl hR5) rfl ?_
      refine ⟨_, rfl, ⟨rfl, by first | exact hm.symm | rfl, ?_, ?_⟩, (unhide O2).trans hO5 (fun k hk e => by omega)⟩
      · intro t ht
        have ht' : t + 1 < m := ht
        show cutF x.K i j t = _
        unfold cutF
        by_cases h : t < i
        · rw [if_pos h, if_neg (by omega)]
        · rw [if_neg h, if_pos (by omega)]
      · intro t ht
        have ht' : t < m := ht
        show cutF x.C (i + 1) (j + 1) t = _
        unfold cutF
        by_cases h : t < i + 1
        · rw [if_pos h, if_neg (by omega)]
        · rw [if_neg h, if_pos (by omega)]
end Go.Proofs.Qxb6500412aGreat
