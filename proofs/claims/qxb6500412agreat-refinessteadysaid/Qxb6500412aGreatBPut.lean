/-
  OWN WORK. THE B-TREE: leafPut.
-/
import Derived.Test.Qxb6500412aGreatBWh
namespace Go.Proofs.Qxb6500412aGreat
open Go.RowKit Go.PlainAid
set_option linter.unusedSimpArgs false
set_option linter.unusedVariables false
theorem seq_t {a b : ByteArray} (h : a = b) : (a.toList == b.toList) = true := by rw [h]; simp
theorem seq_f {a b : ByteArray} (h : ¬ a = b) : (a.toList == b.toList) = false := by
  simp only [beq_eq_false_iff_ne, ne_eq]
  intro e
  rw [ls_toList, ls_toList] at e
  exact h (ls_inj e)
/-- Places j+1 .. n hold what stood one below. -/
def shF {α : Type} (f : Nat → α) (j n : Nat) : Nat → α := fun t => if j < t ∧ t ≤ n then f (t - 1) else f t
theorem shF_step {α : Type} (f : Nat → α) (j n : Nat) (h : j + 1 ≤ n) : upF (shF f (j + 1) n) (j + 1) (f j) = shF f j n := by
  funext t
  unfold upF shF
  by_cases e : t = j + 1
  · subst e; rw [if_pos rfl, if_pos (by omega)]; rfl
  · rw [if_neg e]
    by_cases h2 : j + 1 < t ∧ t ≤ n
    · rw [if_pos h2, if_pos (by omega)]
    · rw [if_neg h2, if_neg (by omega)]
theorem shF_zero {α : Type} (f : Nat → α) (n : Nat) : shF f n n = f := by
  funext t
  unfold shF
  rw [if_neg (by omega)]
theorem shF_le {α : Type} (f : Nat → α) (j n t : Nat) (h : t ≤ j) : shF f j n t = f t := by
  unfold shF
  rw [if_neg (by omega)]
/-- v laid in at place i. -/
def insF {α : Type} (f : Nat → α) (i : Nat) (v : α) : Nat → α := fun t => if t < i then f t else if t = i then v else f (t - 1)
theorem insF_sh {α : Type} (f : Nat → α) (i n : Nat) (v : α) (t : Nat) (h : t ≤ n) : upF (shF f i n) i v t = insF f i v t := by
  unfold upF shF insF
  by_cases e : t = i
  · rw [if_pos e, if_neg (by omega), if_pos e]
  · rw [if_neg e]
    by_cases h2 : t < i
    · rw [if_pos h2, if_neg (by omega)]
    · rw [if_neg h2, if_neg e, if_pos (by omega)]
/-- Where a key stands, or would stand, in a leaf. -/
structure Spot (x : Node) (key : ByteArray) (i : Nat) : Prop where
  le : i ≤ x.n
  lt_ : ∀ j, j < i → lt (x.K j) key = true
  stop : i < x.n → lt (x.K i) key = false
/-- What leafPut makes of a leaf. -/
def LPut (x : Node) (key val : ByteArray) (y : Node) : Prop := ∃ i : Nat, Spot x key i ∧ y.k = x.k ∧ ((i < x.n ∧ x.K i = key ∧ y.n = x.n ∧ y.K = x.K ∧ y.V = upF x.V i val) ∨ ((i < x.n → ¬ x.K i = key) ∧ y.n = x.n + 1 ∧ ∀ t, t ≤ x.n → y.K t = insF x.K i key t ∧ y.V t = insF x.V i val t))
set_option maxRecDepth 100000 in
set_option maxHeartbeats 6000000 in
theorem leafPut_any (x : Node) (key val : ByteArray) (h4 : x.n ≤ 3) (w : World) :
    Calls Tryz.prog 338 #[ndA x, .string key, .string val] w fun e w' => ∃ y : Node, e = .returned (ndA y) ∧ LPut x key val y ∧ Only (fun _ => False) w w' := by
  go_enter Tryz.func338, Tryz.ntmps338
  go_wp2_with (first | (refine wpList_box_nd rfl _ rfl x rfl ?_; intro g w1 hG gG oG) | (refine wpList_alloc_nd rfl rfl ?_; intro r w2 hR gR oR))
  have hG2 := hG.keep oR (fun h => h)
  have hrg : r ≠ g := by have := Has.lt hG; omega
  have GG := hide hG2
  have RR := hide hR
  have OO := hide (oG.trans oR (fun _ _ h => h))
  have gR' : w.heap.size ≤ r := Nat.le_trans oG.size gR
  clear hG hR oG oR hG2 gR
  clear w1
  go_loop [7] (fun iv => ∃ i : Nat, iv = .int .i64 (i : Int) ∧ i ≤ x.n ∧ ∀ j, j < i → lt (x.K j) key = true) (fun iv => 4 - (intOf iv).toNat)
  case atStart => exact ⟨0, rfl, by omega, fun j hj => by omega⟩
  case round =>
    obtain ⟨i, rfl, hi, hle⟩ := hrel
    have Hle := hide hle
    clear hle
    have c1 := (unhide GG).num.1
    by_cases hs : i < x.n
    · have ck := ((unhide GG).key i (by omega)).1
      have a1 : decide ((i : Int) < (x.n : Int)) = true := decide_eq_true (by omega)
      have a2 : (i : Int) < 4 := by omega
      cases hl : lt (x.K i) key with
      | true =>
        have hl2 : Op.bytesLess (x.K i).toList key.toList = true := hl
        have Hn : Hid (∀ j, j < i + 1 → lt (x.K j) key = true) := hide (fun j hj => by
          by_cases e : j = i
          · subst e; exact hl
          · exact unhide Hle j (by omega))
        clear hl
        go_wp2_with fail
        go_round
        case rel => exact ⟨i + 1, by go_num, by omega, unhide Hn⟩
        case measure => simp [intOf]; omega
      | false =>
        have hl2 : Op.bytesLess (x.K i).toList key.toList = false := hl
        have SP := hide (show Spot x key i from ⟨hi, unhide Hle, fun _ => hl⟩)
        clear hl
        by_cases he : x.K i = key
        · have he2 := seq_t he
          have v2 := (unhide GG).val i (by omega)
          have hV := (unhide GG).setVal i (by omega) val
          have hR2 := (unhide RR).keep (only1 (p := g) (6 + i) (.string val)) hrg
          have hO2 := (unhide OO).own gG (6 + i) (.string val)
          have V2 := hide hV
          have R2 := hide hR2
          have O2 := hide hO2
          have HE := hide he
          clear hV hR2 hO2 he
          go_wp2_with (first | (refine wpList_load_nd rfl _ rfl g rfl (unhide V2) ?_) | (refine wpList_store_nd rfl _ _ rfl r _ rfl rfl (unhide R2) ?_; intro w5 hR5 hO5))
          refine bodyPost_ret (res1_nd Tryz.results338 _ rfl hR5) rfl ?_
          exact ⟨_, rfl, ⟨i, unhide SP, rfl, .inl ⟨hs, unhide HE, rfl, rfl, rfl⟩⟩, (unhide O2).trans hO5 (fun k hk e => by omega)⟩
        · have he2 := seq_f he
          have NE := hide (show i < x.n → ¬ x.K i = key from fun _ => he)
          clear he
          go_wp2_with fail
          go_loopw [8] (fun jv wr => ∃ j : Nat, jv = .int .i64 (j : Int) ∧ i ≤ j ∧ j ≤ x.n ∧ NdAt wr g { x with K := shF x.K j x.n, V := shF x.V j x.n } ∧ NdAt wr r nd0 ∧ Only (fun _ => False) w wr) (fun jv _ => (intOf jv).toNat)
          case atStart =>
            refine ⟨x.n, rfl, hi, Nat.le_refl _, ?_, unhide RR, unhide OO⟩
            rw [shF_zero, shF_zero]
            exact unhide GG
          case round =>
            obtain ⟨j, rfl, hij, hj, hG, hR, hO⟩ := hrel
            clear GG RR OO
            by_cases hsj : i < j
            · obtain ⟨m, rfl⟩ : ∃ m, j = m + 1 := ⟨j - 1, by omega⟩
              have b1 : decide (((m + 1 : Nat) : Int) > (i : Int)) = true := decide_eq_true (by omega)
              have b2 : (m : Int) < 4 := by omega
              have b3 : (m : Int) + 1 < 4 := by omega
              have b5 : ((m + 1 : Nat) : Int) - 1 = (m : Int) := by omega
              have k1 := hG.key m (by omega)
              have k2 := hG.key (m + 1) (by omega)
              have v1 := hG.val m (by omega)
              have v2 := hG.val (m + 1) (by omega)
              have hK := hG.setKey (m + 1) (by omega) (x.K m)
              have hV := hK.setVal (m + 1) (by omega) (x.V m)
              have hR2 := hR.keep (only1 (p := g) (2 + (m + 1)) (.string (x.K m))) hrg
              have hR3 := hR2.keep (only1 (p := g) (6 + (m + 1)) (.string (x.V m))) hrg
              have hO3 : Only (fun _ => False) w ((_ : World).setCell ⟨g, 6 + (m + 1), none⟩ (.string (x.V m))) := (hO.own gG (2 + (m + 1)) (.string (x.K m))).own gG _ _
              simp only [shF_le x.K (m + 1) x.n m (by omega), shF_le x.V (m + 1) x.n m (by omega), shF_step x.K m x.n (by omega), shF_step x.V m x.n (by omega)] at k1 v1 hV
              have V3 := hide hV
              have R3 := hide hR3
              have O3 := hide hO3
              clear hV hR3 hO3 hR2 hK hG hR hO
              go_wp2_with fail
              go_roundw
              case rel => exact ⟨m, by go_num, by omega, by omega, unhide V3, unhide R3, unhide O3⟩
              case measure => simp [intOf]
            · obtain rfl : j = i := by omega
              have b1 : decide ((j : Int) > (j : Int)) = false := decide_eq_false (by omega)
              have b2 : (j : Int) < 4 := by omega
              have c1 := hG.num.1
              have n1 := hG.num.2
              have k2 := hG.key j (by omega)
              have v2 := hG.val j (by omega)
              have hK := hG.setKey j (by omega) key
              have hV := hK.setVal j (by omega) val
              have hN := hV.setNum (x.n + 1)
              have hR2 := hR.keep (only1 (p := g) (2 + j) (.string key)) hrg
              have hR3 := hR2.keep (only1 (p := g) (6 + j) (.string val)) hrg
              have hR4 := hR3.keep (only1 (p := g) 1 (.int .i64 ((x.n + 1 : Nat) : Int))) hrg
              have hO3 : Only (fun _ => False) w ((_ : World).setCell ⟨g, 1, none⟩ (.int .i64 ((x.n + 1 : Nat) : Int))) := ((hO.own gG (2 + j) (.string key)).own gG (6 + j) (.string val)).own gG _ _
              have e1 : ((x.n + 1 : Nat) : Int) = (x.n : Int) + 1 := by omega
              rw [e1] at hN hR4 hO3
              have V3 := hide hN
              have R3 := hide hR4
              have O3 := hide hO3
              clear hV hR3 hO3 hR2 hR4 hN hK hG hR hO
              go_wp2_with (first | (refine wpList_load_nd rfl _ rfl g rfl (unhide V3) ?_) | (refine wpList_store_nd rfl _ _ rfl r _ rfl rfl (unhide R3) ?_; intro w5 hR5 hO5))
              refine bodyPost_ret (res1_nd Tryz.results338 _ rfl hR5) rfl ?_
              refine ⟨_, rfl, ⟨j, unhide SP, rfl, .inr ⟨unhide NE, rfl, fun t ht => ⟨insF_sh x.K j x.n key t ht, insF_sh x.V j x.n val t ht⟩⟩⟩, (unhide O3).trans hO5 (fun k hk e => by omega)⟩
    · have a1 : decide ((i : Int) < (x.n : Int)) = false := decide_eq_false (by omega)
      have SP := hide (show Spot x key i from ⟨hi, unhide Hle, fun h => absurd h hs⟩)
      have NE := hide (show i < x.n → ¬ x.K i = key from fun h => absurd h hs)
      go_wp2_with fail
      go_loopw [8] (fun jv wr => ∃ j : Nat, jv = .int .i64 (j : Int) ∧ i ≤ j ∧ j ≤ x.n ∧ NdAt wr g { x with K := shF x.K j x.n, V := shF x.V j x.n } ∧ NdAt wr r nd0 ∧ Only (fun _ => False) w wr) (fun jv _ => (intOf jv).toNat)
      case atStart =>
        refine ⟨x.n, rfl, hi, Nat.le_refl _, ?_, unhide RR, unhide OO⟩
        rw [shF_zero, shF_zero]
        exact unhide GG
      case round =>
        obtain ⟨j, rfl, hij, hj, hG, hR, hO⟩ := hrel
        clear GG RR OO
        by_cases hsj : i < j
        · omega
        · obtain rfl : j = i := by omega
          have b1 : decide ((j : Int) > (j : Int)) = false := decide_eq_false (by omega)
          have b2 : (j : Int) < 4 := by omega
          have c1 := hG.num.1
          have n1 := hG.num.2
          have k2 := hG.key j (by omega)
          have v2 := hG.val j (by omega)
          have hK := hG.setKey j (by omega) key
          have hV := hK.setVal j (by omega) val
          have hN := hV.setNum (x.n + 1)
          have hR2 := hR.keep (only1 (p := g) (2 + j) (.string key)) hrg
          have hR3 := hR2.keep (only1 (p := g) (6 + j) (.string val)) hrg
          have hR4 := hR3.keep (only1 (p := g) 1 (.int .i64 ((x.n + 1 : Nat) : Int))) hrg
          have hO3 : Only (fun _ => False) w ((_ : World).setCell ⟨g, 1, none⟩ (.int .i64 ((x.n + 1 : Nat) : Int))) := ((hO.own gG (2 + j) (.string key)).own gG (6 + j) (.string val)).own gG _ _
          have e1 : ((x.n + 1 : Nat) : Int) = (x.n : Int) + 1 := by omega
          rw [e1] at hN hR4 hO3
          have V3 := hide hN
          have R3 := hide hR4
          have O3 := hide hO3
          clear hV hR3 hO3 hR2 hR4 hN hK hG hR hO
          go_wp2_with (first | (refine wpList_load_nd rfl _ rfl g rfl (unhide V3) ?_) | (refine wpList_store_nd rfl _ _ rfl r _ rfl rfl (unhide R3) ?_; intro w5 hR5 hO5))
          refine bodyPost_ret (res1_nd Tryz.results338 _ rfl hR5) rfl ?_
          refine ⟨_, rfl, ⟨j, unhide SP, rfl, .inr ⟨unhide NE, rfl, fun t ht => ⟨insF_sh x.K j x.n key t ht, insF_sh x.V j x.n val t ht⟩⟩⟩, (unhide O3).trans hO5 (fun k hk e => by omega)⟩
end Go.Proofs.Qxb6500412aGreat
