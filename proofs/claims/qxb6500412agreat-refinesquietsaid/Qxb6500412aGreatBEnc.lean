/-
  OWN WORK. THE B-TREE: encode.
-/
import Derived.Test.Qxb6500412aGreatBRep
import Derived.Test.Qxb6500412aGreatBPg
namespace Go.Proofs.Qxb6500412aGreat
open Go.RowKit Go.PlainAid
set_option linter.unusedSimpArgs false
set_option linter.unusedVariables false

def esOf (x : Node) : Nat → KV := fun i => (x.K i, x.V i)
theorem Has.congr8 {w : World} {g : Nat} {D E : Nat → Nat} (h : Has w g (tabV 128 (u8f D)) 5) (e : ∀ j, j < 128 → D j = E j) : Has w g (tabV 128 (u8f E)) 5 := by
  rw [← u8_congr 128 e]
  exact h
theorem page_leaf {x : Node} {l : List KV} (h : RepL x l) : strF (lfF x.n x.n (esOf x)) = page (.lf l) := by
  show _ = strF (lfF l.length l.length (fun i => l.getD i kvD))
  rw [← h.n]
  apply strF_congr
  intro j hj
  unfold lfF
  split
  · rfl
  · split
    · rfl
    · split
      · rfl
      · by_cases hi : (j - 4) / 34 < x.n
        · rw [if_pos hi, if_pos hi]
          obtain ⟨e, he⟩ := get_ex (l := l) (i := (j - 4) / 34) (by rw [← h.n]; exact hi)
          have hv := h.v _ e he
          have hg : l.getD ((j - 4) / 34) kvD = e := by rw [List.getD_eq_getElem?_getD, he]; rfl
          show (if _ then fld (esOf x ((j - 4) / 34)).1 _ else fld (esOf x ((j - 4) / 34)).2 _) = (if _ then fld (l.getD ((j - 4) / 34) kvD).1 _ else fld (l.getD ((j - 4) / 34) kvD).2 _)
          rw [hg]
          unfold esOf
          rw [hv.1, hv.2]
        · rw [if_neg hi, if_neg hi]
theorem page_inner {x : Node} {l : List (ByteArray × Nat)} (h : RepI x l) (hl : l ≠ []) : strF (inF x.n x.n (x.n - 1) x.C x.K) = page (.inn (l.map (fun e => e.2)) (l.tail.map (fun e => e.1))) := by
  unfold page pageF
  simp only [List.length_map, List.length_tail]
  rw [← h.n]
  apply strF_congr
  intro j hj
  unfold inF
  split
  · rfl
  · split
    · rfl
    · split
      · rfl
      · split
        · by_cases hi : j - 4 < x.n
          · rw [if_pos hi, if_pos hi]
            obtain ⟨e, he⟩ := get_ex (l := l) (i := j - 4) (by rw [← h.n]; exact hi)
            rw [h.c _ e he]
            simp [List.getD_eq_getElem?_getD, he]
          · rw [if_neg hi, if_neg hi]
        · by_cases hi : (j - 8) / 17 < x.n - 1
          · rw [if_pos hi, if_pos hi]
            obtain ⟨e, he⟩ := get_ex (l := l) (i := (j - 8) / 17 + 1) (by rw [← h.n]; omega)
            rw [h.s _ e he]
            have : (l.tail.map (fun e => e.1)).getD ((j - 8) / 17) ⟨#[]⟩ = e.1 := by
              simp [List.getD_eq_getElem?_getD, List.getElem?_tail, he]
            show fld e.1 _ = fld ((l.tail.map (fun e => e.1)).getD ((j - 8) / 17) ⟨#[]⟩) _
            rw [this]
          · rw [if_neg hi, if_neg hi]
set_option maxRecDepth 100000 in
set_option maxHeartbeats 4000000 in
theorem encode_leaf (x : Node) (hk : x.k = 1) (h3 : x.n ≤ 3) (h16 : ∀ i, i < x.n → (x.K i).size ≤ 16 ∧ (x.V i).size ≤ 16) (w : World) :
    Calls Tryz.prog 212 #[ndA x] w fun e w' => e = .returned (.string (strF (lfF x.n x.n (esOf x)))) ∧ Only (fun _ => False) w w' := by
  have hmk : ∀ w, (Instr.makeSlice 282 (.int .i64 128) (.int .i64 128)).run Tryz.prog w = .ok (.slice (some ⟨w.heap.size, 0, none⟩) 128 128) (w.alloc (.cells (tabV 128 (u8f (fun _ => 0))) 5)) := fun w => run_make_bytes w 128 (by omega)
  have PS := hide (fun w g f off s h hs ho => putStr_any g f off s w h hs ho)
  have kk : ((x.k : Int) == 1) = true := kk_t hk
  go_enter Tryz.func212, Tryz.ntmps212
  go_upto_region 2 with (first | (refine wpList_box_ndd 1 rfl rfl _ rfl x rfl ?_; intro g w1 hG gG oG))
  have hB : Has (w1.alloc (.cells (tabV 128 (u8f (fun _ => 0))) 5)) w1.heap.size (tabV 128 (u8f (fun _ => 0))) 5 := Has.new w1 _ _
  have oB : Only (fun _ => False) w1 (w1.alloc (.cells (tabV 128 (u8f (fun _ => 0))) 5)) := (Only.refl _ w1).alloc _
  have hG2 := NdAt.keep hG oB (fun h => h)
  have glt : g < w1.heap.size := Has.lt hG
  have szle : w.heap.size ≤ w1.heap.size := oG.size
  generalize w1.alloc (.cells (tabV 128 (u8f (fun _ => 0))) 5) = w2 at *
  generalize w1.heap.size = b at *
  have hgb : g ≠ b := by omega
  have xk : x.k < 256 := by omega
  have xn : x.n < 256 := by omega
  have kw : IntKind.u8.wrap (x.k : Int) = (x.k : Int) := by rw [hk]; rfl
  have nw : IntKind.u8.wrap (x.n : Int) = (x.n : Int) := by
    have : x.n = 0 ∨ x.n = 1 ∨ x.n = 2 ∨ x.n = 3 := by omega
    rcases this with h | h | h | h <;> (rw [h]; rfl)
  have hb1 : Has ((w2.setCell ⟨b, 0, none⟩ (.int .u8 1)).setCell ⟨b, 1, none⟩ (.int .u8 (x.n : Int))) b (tabV 128 (u8f (lfF x.n 0 (esOf x)))) 5 := ((hB.setU8 0 1).setU8 1 x.n).congr8 (fun j hj => lfF_zero _ _ j hj)
  have ob1 : Only (fun _ => False) w ((w2.setCell ⟨b, 0, none⟩ (.int .u8 1)).setCell ⟨b, 1, none⟩ (.int .u8 (x.n : Int))) := by
    have o1 := oG.trans oB (fun _ _ h => h)
    have o2 := o1.trans (only1 (p := b) 0 (.int .u8 1)) (S := fun _ => False) (fun i hi h => by omega)
    exact o2.trans (only1 (p := b) 1 (.int .u8 (x.n : Int))) (fun i hi h => by omega)
  have hg1 := NdAt.keep (NdAt.keep hG2 (only1 (p := b) 0 (.int .u8 1)) hgb) (only1 (p := b) 1 (.int .u8 (x.n : Int))) hgb
  have c0 := hB.cell 0
  rw [u8_get _ _ _ (by omega)] at c0
  have f0 := hB.free 0
  have c1 := hB.cell 1
  rw [u8_get _ _ _ (by omega)] at c1
  have f1 := hB.free 1
  have e0 := hG2.kind.1
  have e1 := hG2.num.1
  have HH := hide (And.intro hb1 (And.intro ob1 hg1))
  clear hb1 ob1 hg1 hB oB hG hG2 hmk
  go_upto_region 6 with fail
  generalize (w2.setCell ⟨b, 0, none⟩ (.int .u8 1)).setCell ⟨b, 1, none⟩ (.int .u8 (x.n : Int)) = w3 at *
  clear c0 f0 c1 f1 e0 e1
  go_loopw [3, 4] (fun bv iv wr => ∃ m : Nat, m ≤ x.n ∧ bv = .slice (some ⟨b, 0, none⟩) 128 128 ∧ iv = .int .i64 m ∧ Has wr b (tabV 128 (u8f (lfF x.n m (esOf x)))) 5 ∧ Only (fun _ => False) w wr ∧ NdAt wr g x) (fun _ iv _ => 3 - (intOf iv).toNat)
  case atStart => exact ⟨0, Nat.zero_le _, rfl, rfl, (unhide HH).1, (unhide HH).2.1, (unhide HH).2.2⟩
  case round =>
    obtain ⟨m, hm, rfl, rfl, hH, hO, hN⟩ := hrel
    have n1 := hN.num.1
    by_cases hs : m < x.n
    · have a1 : decide ((m : Int) < (x.n : Int)) = true := decide_eq_true (by omega)
      have a2 : decide ((m : Int) < 3) = true := decide_eq_true (by omega)
      have a3 : (m : Int) < 4 := by omega
      have ck := (hN.key m (by omega)).1
      have C1 := putStr_any b (lfF x.n m (esOf x)) (4 + m * 34) (x.K m) wr hH (h16 m hs).1 (by omega)
      have e34 : ((4 + m * 34 : Nat) : Int) = 4 + (m : Int) * 34 := by omega
      rw [e34] at C1
      have C1 := hide C1
      have FF := hide (And.intro hO hN)
      clear hO hN hH
      go_wp2_with fail
      refine (unhide C1).mono ?_
      rintro e w4 ⟨rfl, hH4, hO4⟩
      obtain ⟨hO, hN⟩ := unhide FF
      have hN4 := hN.keep hO4 hgb
      have hO5 : Only (fun _ => False) w w4 := hO.trans hO4 (fun i hi h => by omega)
      have cv := (hN4.val m (by omega)).1
      have C2 := putStr_any b _ (4 + m * 34 + 17) (x.V m) w4 hH4 (h16 m hs).2 (by omega)
      have e35 : ((4 + m * 34 + 17 : Nat) : Int) = 4 + (m : Int) * 34 + 17 := by omega
      rw [e35] at C2
      have C2 := hide C2
      have FF2 := hide (And.intro hO5 hN4)
      clear hO hN hH4 hO4 hN4 hO5 ck C1 FF n1
      go_wp2_with fail
      refine (unhide C2).mono ?_
      rintro e w5 ⟨rfl, hH5, hO5⟩
      obtain ⟨hO, hN⟩ := unhide FF2
      have FF3 := hide (And.intro (hH5.congr8 (lfF_succ x.n m (esOf x) (h16 m hs).1 (h16 m hs).2)) (And.intro (show Only (fun _ => False) w w5 from hO.trans hO5 (fun i hi h => by omega)) (hN.keep hO5 hgb)))
      clear hH5 hO5 hO hN C2 FF2 cv
      go_wp2_with fail
      go_roundw
      case rel => exact ⟨m + 1, by omega, rfl, by go_num, (unhide FF3).1, (unhide FF3).2.1, (unhide FF3).2.2⟩
      case measure => simp [intOf]; omega
    · have em : m = x.n := by omega
      subst em
      have a1 : decide ((x.n : Int) < (x.n : Int)) = false := by simp
      have hcv := run_conv_strF hH (fun j hj => lfF_lt xn (fun i hi => h16 i hi) j)
      have FF := hide hO
      clear hO hN hH
      go_wp2_with fail
      go_ret
      exact ⟨rfl, unhide FF⟩
end Go.Proofs.Qxb6500412aGreat
