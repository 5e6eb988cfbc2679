/-
  OWN WORK. THE B-TREE: innerPut.
-/
import Derived.Test.Qxb6500412aGreatBPut
namespace Go.Proofs.Qxb6500412aGreat
open Go.RowKit Go.PlainAid
set_option linter.unusedSimpArgs false
set_option linter.unusedVariables false
def IPut (x : Node) (c : Nat) (sep : ByteArray) (right : Nat) (y : Node) : Prop := y.k = x.k ∧ y.n = x.n + 1 ∧ (∀ t, t < x.n → y.K t = insF x.K c sep t) ∧ ∀ t, t ≤ x.n → y.C t = insF x.C (c + 1) right t
set_option maxRecDepth 100000 in
set_option maxHeartbeats 6000000 in
theorem innerPut_any (x : Node) (c : Nat) (sep : ByteArray) (right : Nat) (hc : c < x.n) (h4 : x.n ≤ 4) (w : World) :
    Calls Tryz.prog 339 #[ndA x, .int .i64 (c : Int), .string sep, .int .i64 (right : Int)] w fun e w' => ∃ y : Node, e = .returned (ndA y) ∧ IPut x c sep right y ∧ Only (fun _ => False) w w' := by
  go_enter Tryz.func339, Tryz.ntmps339
  go_upto_region 1 with (first | (refine wpList_box_nd rfl _ rfl x rfl ?_; intro g w1 hG gG oG) | (refine wpList_alloc_nd rfl rfl ?_; intro r w2 hR gR oR))
  have hG2 := hG.keep oR (fun h => h)
  have hrg : r ≠ g := by have := Has.lt hG; omega
  have GG := hide hG2
  have RR := hide hR
  have OO := hide (oG.trans oR (fun _ _ h => h))
  have gR' : w.heap.size ≤ r := Nat.le_trans oG.size gR
  clear hG hR oG oR hG2 gR
  clear w1
  have c1 := (unhide GG).num.1
  go_wp2_with fail
  clear c1
  obtain ⟨n, hn⟩ : ∃ n, x.n = n + 1 := ⟨x.n - 1, by omega⟩
  go_loopw [9] (fun jv wr => ∃ j : Nat, jv = .int .i64 ((j + 1 : Nat) : Int) ∧ c ≤ j ∧ j ≤ n ∧ NdAt wr g { x with K := shF x.K j n, C := shF x.C (j + 1) (n + 1) } ∧ NdAt wr r nd0 ∧ Only (fun _ => False) w wr) (fun jv _ => (intOf jv).toNat)
  case atStart =>
    refine ⟨n, by rw [hn], by omega, Nat.le_refl _, ?_, unhide RR, unhide OO⟩
    rw [shF_zero, shF_zero]
    exact unhide GG
  case round =>
    obtain ⟨j, rfl, hij, hj, hG, hR, hO⟩ := hrel
    clear GG RR OO
    by_cases hsj : c < j
    · obtain ⟨m, rfl⟩ : ∃ m, j = m + 1 := ⟨j - 1, by omega⟩
      have b1 : decide (((m + 1 + 1 : Nat) : Int) > (c : Int) + 1) = true := decide_eq_true (by omega)
      have b2 : (m : Int) < 4 := by omega
      have b3 : (m : Int) + 1 < 4 := by omega
      have b6 : (m : Int) + 1 < 5 := by omega
      have b7 : (m : Int) + 1 + 1 < 5 := by omega
      have b5 : ((m + 1 + 1 : Nat) : Int) - 1 = ((m + 1 : Nat) : Int) := by omega
      have b8 : ((m + 1 + 1 : Nat) : Int) - 2 = (m : Int) := by omega
      have k1 := hG.key m (by omega)
      have k2 := hG.key (m + 1) (by omega)
      have v1 := hG.kid (m + 1) (by omega)
      have v2 := hG.kid (m + 1 + 1) (by omega)
      have hV := hG.setKid (m + 1 + 1) (by omega) (x.C (m + 1))
      have hK := hV.setKey (m + 1) (by omega) (x.K m)
      have hR2 := hR.keep (only1 (p := g) (10 + (m + 1 + 1)) (.int .i64 (x.C (m + 1) : Int))) hrg
      have hR3 := hR2.keep (only1 (p := g) (2 + (m + 1)) (.string (x.K m))) hrg
      have hO3 : Only (fun _ => False) w ((_ : World).setCell ⟨g, 2 + (m + 1), none⟩ (.string (x.K m))) := (hO.own gG (10 + (m + 1 + 1)) (.int .i64 (x.C (m + 1) : Int))).own gG _ _
      simp only [shF_le x.K (m + 1) n m (by omega), shF_le x.C (m + 1 + 1) (n + 1) (m + 1) (by omega), shF_step x.K m n (by omega), shF_step x.C (m + 1) (n + 1) (by omega)] at k1 v1 hK
      have V3 := hide hK
      have R3 := hide hR3
      have O3 := hide hO3
      clear hV hR3 hO3 hR2 hK hG hR hO hn
      go_wp2_with fail
      go_roundw
      case rel => exact ⟨m, by go_num, by omega, by omega, unhide V3, unhide R3, unhide O3⟩
      case measure => simp [intOf]; omega
    · obtain rfl : j = c := by omega
      have b1 : decide (((j + 1 : Nat) : Int) > (j : Int) + 1) = false := decide_eq_false (by omega)
      have b2 : (j : Int) < 4 := by omega
      have b3 : (j : Int) + 1 < 5 := by omega
      have c1 := hG.num.1
      have n1 := hG.num.2
      have k2 := hG.key j (by omega)
      have v2 := hG.kid (j + 1) (by omega)
      have hV := hG.setKid (j + 1) (by omega) right
      have hK := hV.setKey j (by omega) sep
      have hN := hK.setNum (x.n + 1)
      have hR2 := hR.keep (only1 (p := g) (10 + (j + 1)) (.int .i64 (right : Int))) hrg
      have hR3 := hR2.keep (only1 (p := g) (2 + j) (.string sep)) hrg
      have hR4 := hR3.keep (only1 (p := g) 1 (.int .i64 ((x.n + 1 : Nat) : Int))) hrg
      have hO3 : Only (fun _ => False) w ((_ : World).setCell ⟨g, 1, none⟩ (.int .i64 ((x.n + 1 : Nat) : Int))) := ((hO.own gG (10 + (j + 1)) (.int .i64 (right : Int))).own gG (2 + j) (.string sep)).own gG _ _
      have e1 : ((x.n + 1 : Nat) : Int) = (x.n : Int) + 1 := by omega
      rw [e1] at hN hR4 hO3
      have V3 := hide hN
      have R3 := hide hR4
      have O3 := hide hO3
      have HN := hide hn
      clear hV hR3 hO3 hR2 hR4 hN hK hG hR hO hn
      go_wp2_with (first | (refine wpList_load_nd rfl _ rfl g rfl (unhide V3) ?_) | (refine wpList_store_nd rfl _ _ rfl r _ rfl rfl (unhide R3) ?_; intro w5 hR5 hO5))
      refine bodyPost_ret (res1_nd Tryz.results339 _ rfl hR5) rfl ?_
      have hn := unhide HN
      refine ⟨_, rfl, ⟨rfl, rfl, fun t ht => insF_sh x.K j n sep t (by omega), fun t ht => insF_sh x.C (j + 1) (n + 1) right t (by omega)⟩, (unhide O3).trans hO5 (fun k hk e => by omega)⟩
end Go.Proofs.Qxb6500412aGreat
