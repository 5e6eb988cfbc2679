/-
  OWN WORK. THE B-TREE: encode, an inner node.
-/
import Derived.Test.Qxb6500412aGreatBEnc
namespace Go.Proofs.Qxb6500412aGreat
open Go.RowKit Go.PlainAid
set_option linter.unusedSimpArgs false
set_option linter.unusedVariables false

theorem u8w {n : Nat} (h : n < 256) : IntKind.u8.wrap (n : Int) = (n : Int) := by
  exact IntWalk.u8_in _ (by omega)
set_option maxRecDepth 100000 in
set_option maxHeartbeats 4000000 in
theorem encode_inner (x : Node) (hk : x.k = 2) (h1 : 1 ≤ x.n) (h4 : x.n ≤ 4) (h16 : ∀ i, i + 1 < x.n → (x.K i).size ≤ 16) (h256 : ∀ i, i < x.n → x.C i < 256) (w : World) :
    Calls Tryz.prog 212 #[ndA x] w fun e w' => e = .returned (.string (strF (inF x.n x.n (x.n - 1) x.C x.K))) ∧ Only (fun _ => False) w w' := by
  have hmk : ∀ w, (Instr.makeSlice 282 (.int .i64 128) (.int .i64 128)).run Tryz.prog w = .ok (.slice (some ⟨w.heap.size, 0, none⟩) 128 128) (w.alloc (.cells (tabV 128 (u8f (fun _ => 0))) 5)) := fun w => run_make_bytes w 128 (by omega)
  have kk : ((x.k : Int) == 1) = false := kk_f (b := 1) (by omega)
  go_enter Tryz.func212, Tryz.ntmps212
  go_upto_region 2 with (first | (refine wpList_box_ndd 1 rfl rfl _ rfl x rfl ?_; intro g w1 hG gG oG))
  have hB : Has (w1.alloc (.cells (tabV 128 (u8f (fun _ => 0))) 5)) w1.heap.size (tabV 128 (u8f (fun _ => 0))) 5 := Has.new w1 _ _
  have oB : Only (fun _ => False) w1 (w1.alloc (.cells (tabV 128 (u8f (fun _ => 0))) 5)) := (Only.refl _ w1).alloc _
  have hG2 := NdAt.keep hG oB (fun h => h)
  have glt : g < w1.heap.size := Has.lt hG
  have szle : w.heap.size ≤ w1.heap.size := oG.size
  generalize w1.alloc (.cells (tabV 128 (u8f (fun _ => 0))) 5) = w2 at *
  generalize w1.heap.size = b at *
  have hgb : g ≠ b := by omega
  have xn : x.n < 256 := by omega
  have kw : IntKind.u8.wrap (x.k : Int) = (x.k : Int) := by rw [hk]; rfl
  have nw : IntKind.u8.wrap (x.n : Int) = (x.n : Int) := by
    have : x.n = 1 ∨ x.n = 2 ∨ x.n = 3 ∨ x.n = 4 := by omega
    rcases this with h | h | h | h <;> (rw [h]; rfl)
  have hb1 : Has ((w2.setCell ⟨b, 0, none⟩ (.int .u8 2)).setCell ⟨b, 1, none⟩ (.int .u8 (x.n : Int))) b (tabV 128 (u8f (inF x.n 0 0 x.C x.K))) 5 := ((hB.setU8 0 2).setU8 1 x.n).congr8 (fun j hj => inF_zero _ _ _ j hj)
  have ob1 : Only (fun _ => False) w ((w2.setCell ⟨b, 0, none⟩ (.int .u8 2)).setCell ⟨b, 1, none⟩ (.int .u8 (x.n : Int))) := by
    have o1 := oG.trans oB (fun _ _ h => h)
    have o2 := o1.trans (only1 (p := b) 0 (.int .u8 2)) (S := fun _ => False) (fun i hi h => by omega)
    exact o2.trans (only1 (p := b) 1 (.int .u8 (x.n : Int))) (fun i hi h => by omega)
  have hg1 := NdAt.keep (NdAt.keep hG2 (only1 (p := b) 0 (.int .u8 2)) hgb) (only1 (p := b) 1 (.int .u8 (x.n : Int))) hgb
  have c0 := hB.cell 0
  rw [u8_get _ _ _ (by omega)] at c0
  have f0 := hB.free 0
  have c1 := hB.cell 1
  rw [u8_get _ _ _ (by omega)] at c1
  have f1 := hB.free 1
  have e0 := hG2.kind.1
  have e1 := hG2.num.1
  have HH := hide (And.intro hb1 (And.intro ob1 hg1))
  clear hb1 ob1 hg1 hB oB hG hG2 hmk
  go_upto_region 13 with fail
  generalize (w2.setCell ⟨b, 0, none⟩ (.int .u8 2)).setCell ⟨b, 1, none⟩ (.int .u8 (x.n : Int)) = w3 at *
  clear c0 f0 c1 f1 e0 e1
  go_loopw [6] (fun iv wr => ∃ m : Nat, m ≤ x.n ∧ iv = .int .i64 m ∧ Has wr b (tabV 128 (u8f (inF x.n m 0 x.C x.K))) 5 ∧ Only (fun _ => False) w wr ∧ NdAt wr g x) (fun iv _ => 4 - (intOf iv).toNat)
  case atStart => exact ⟨0, Nat.zero_le _, rfl, (unhide HH).1, (unhide HH).2.1, (unhide HH).2.2⟩
  case round =>
    obtain ⟨m, hm, rfl, hH, hO, hN⟩ := hrel
    have n1 := hN.num.1
    by_cases hs : m < x.n
    · have a1 : decide ((m : Int) < (x.n : Int)) = true := decide_eq_true (by omega)
      have a2 : decide ((m : Int) < 4) = true := decide_eq_true (by omega)
      have a3 : (m : Int) < 5 := by omega
      have a4 : 4 + (m : Int) < 128 := by omega
      have ck := (hN.kid m (by omega)).1
      have cw := u8w (h256 m hs)
      have d1 := hH.cell (4 + m)
      rw [u8_get _ _ _ (by omega)] at d1
      have d2 := hH.free (4 + m)
      have FF := hide (And.intro ((hH.setU8 (4 + m) (x.C m)).congr8 (inF_kid x.n m x.C x.K (by omega))) (And.intro (show Only (fun _ => False) w (wr.setCell ⟨b, 4 + m, none⟩ (.int .u8 (x.C m : Int))) from hO.trans (only1 (p := b) (4 + m) _) (fun i hi h => by omega)) (hN.keep (only1 (p := b) (4 + m) (.int .u8 (x.C m : Int))) hgb)))
      clear hO hN hH
      go_wp2_with fail
      go_roundw
      case rel => exact ⟨m + 1, by omega, by go_num, (unhide FF).1, (unhide FF).2.1, (unhide FF).2.2⟩
      case measure => simp [intOf]; omega
    · have em : m = x.n := by omega
      subst em
      have a1 : decide ((x.n : Int) < (x.n : Int)) = false := by simp
      have FF := hide (And.intro hH (And.intro hO hN))
      clear hO hN hH
      go_upto_region 17 with fail
      clear n1
      go_loopw [3, 7] (fun bv iv wr => ∃ m : Nat, m + 1 ≤ x.n ∧ bv = .slice (some ⟨b, 0, none⟩) 128 128 ∧ iv = .int .i64 m ∧ Has wr b (tabV 128 (u8f (inF x.n x.n m x.C x.K))) 5 ∧ Only (fun _ => False) w wr ∧ NdAt wr g x) (fun _ iv _ => 4 - (intOf iv).toNat)
      case atStart => exact ⟨0, by omega, rfl, rfl, (unhide FF).1, (unhide FF).2.1, (unhide FF).2.2⟩
      case round =>
        obtain ⟨m, hm, rfl, rfl, hH, hO, hN⟩ := hrel
        have n1 := hN.num.1
        by_cases hs : m + 1 < x.n
        · have a1 : decide ((m : Int) + 1 < (x.n : Int)) = true := decide_eq_true (by omega)
          have a2 : decide ((m : Int) + 1 < 4) = true := decide_eq_true (by omega)
          have a3 : (m : Int) < 4 := by omega
          have ck := (hN.key m (by omega)).1
          have C1 := putStr_any b _ (8 + m * 17) (x.K m) wr hH (h16 m hs) (by omega)
          have e34 : ((8 + m * 17 : Nat) : Int) = 8 + (m : Int) * 17 := by omega
          rw [e34] at C1
          have C1 := hide C1
          have FF := hide (And.intro hO hN)
          clear hO hN hH
          go_wp2_with fail
          refine (unhide C1).mono ?_
          rintro e w4 ⟨rfl, hH4, hO4⟩
          obtain ⟨hO, hN⟩ := unhide FF
          have FF3 := hide (And.intro (hH4.congr8 (inF_sep x.n x.n m x.C x.K (h16 m hs))) (And.intro (show Only (fun _ => False) w w4 from hO.trans hO4 (fun i hi h => by omega)) (hN.keep hO4 hgb)))
          clear hH4 hO4 hO hN C1 FF ck
          go_wp2_with fail
          go_roundw
          case rel => exact ⟨m + 1, by omega, rfl, by go_num, (unhide FF3).1, (unhide FF3).2.1, (unhide FF3).2.2⟩
          case measure => simp [intOf]; omega
        · have em : m = x.n - 1 := by omega
          have a1 : decide ((m : Int) + 1 < (x.n : Int)) = false := decide_eq_false (by omega)
          have hcv := run_conv_strF hH (fun j hj => inF_lt xn (fun i hi => h256 i hi) (fun i hi => h16 i (by omega)) j)
          rw [em] at hcv
          have FF := hide hO
          clear hO hN hH
          go_wp2_with fail
          go_ret
          exact ⟨rfl, unhide FF⟩
end Go.Proofs.Qxb6500412aGreat
