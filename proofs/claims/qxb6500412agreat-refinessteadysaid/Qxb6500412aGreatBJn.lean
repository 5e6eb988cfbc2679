/-
  OWN WORK. THE B-TREE: join, leaves.
-/
import Derived.Test.Qxb6500412aGreatBRep
namespace Go.Proofs.Qxb6500412aGreat
open Go.RowKit Go.PlainAid
set_option linter.unusedSimpArgs false
set_option linter.unusedVariables false

/-- From n on: j places of h. -/
def jnF {α : Type} (f : Nat → α) (n : Nat) (h : Nat → α) (j : Nat) : Nat → α := fun t => if n ≤ t ∧ t < n + j then h (t - n) else f t
theorem jnF_zero {α : Type} (f : Nat → α) (n : Nat) (h : Nat → α) : jnF f n h 0 = f := by
  funext t
  unfold jnF
  rw [if_neg (by omega)]
theorem jnF_step {α : Type} (f : Nat → α) (n : Nat) (h : Nat → α) (j : Nat) : upF (jnF f n h j) (n + j) (h j) = jnF f n h (j + 1) := by
  funext t
  by_cases e : t = n + j
  · subst e
    rw [upF_same]
    unfold jnF
    rw [if_pos (by omega)]
    congr 1
    omega
  · rw [upF_other _ _ _ _ e]
    unfold jnF
    by_cases h2 : n ≤ t ∧ t < n + j
    · rw [if_pos h2, if_pos (by omega)]
    · rw [if_neg h2, if_neg (by omega)]
theorem jnF_lt {α : Type} (f : Nat → α) (n : Nat) (h : Nat → α) (j t : Nat) (ht : t < n) : jnF f n h j t = f t := by
  unfold jnF
  rw [if_neg (by omega)]
theorem jnF_ge {α : Type} (f : Nat → α) (n : Nat) (h : Nat → α) (j t : Nat) (ht : t < j) : jnF f n h j (n + t) = h t := by
  unfold jnF
  rw [if_pos (by omega)]
  congr 1
  omega
set_option maxRecDepth 100000 in
set_option maxHeartbeats 6000000 in
theorem join_leaf (x y : Node) (sep : ByteArray) (hk : x.k = 1) (hn : x.n + y.n ≤ 4) (w : World) :
    Calls Tryz.prog 355 #[ndA x, ndA y, .string sep] w fun e w' => ∃ z : Node, e = .returned (ndA z) ∧ JnL x y z ∧ Only (fun _ => False) w w' := by
  have kk : ((x.k : Int) == 1) = true := kk_t hk
  clear hk
  go_enter Tryz.func355, Tryz.ntmps355
  go_upto_region 1 with (first | (refine wpList_box_ndd 3 rfl rfl _ rfl x rfl ?_; intro g w1 hG gG oG) | (refine wpList_box_ndd 4 rfl rfl _ rfl y rfl ?_; intro h w2 hH gH oH) | (refine wpList_alloc_ndd 6 rfl rfl rfl ?_; intro p w3 hP gP oP))
  have hgh : g < h := Nat.lt_of_lt_of_le (Has.lt hG) gH
  have hhp : h < p := Nat.lt_of_lt_of_le (Has.lt hH) gP
  have GG := hide ((hG.keep oH (fun h => h)).keep oP (fun h => h))
  have HH := hide (hH.keep oP (fun h => h))
  have Op := hide hP
  have OX := hide ((oG.trans oH (fun _ _ h => h)).trans oP (fun _ _ h => h))
  clear hG hH hP oG oH oP gH gP
  clear w1 w2
  have ngh : g ≠ h := by omega
  have ck := (unhide GG).kind.1
  go_upto_region 3 with fail
  clear ck
  go_loopw [7] (fun iv wr => ∃ j : Nat, j ≤ y.n ∧ iv = .int .i64 j ∧ NdAt wr g { x with K := jnF x.K x.n y.K j, V := jnF x.V x.n y.V j } ∧ NdAt wr h y ∧ NdAt wr p nd0 ∧ Only (fun _ => False) w wr) (fun iv _ => 4 - (intOf iv).toNat)
  case atStart => exact ⟨0, Nat.zero_le _, rfl, by rw [jnF_zero, jnF_zero]; exact unhide GG, unhide HH, unhide Op, unhide OX⟩
  case round =>
    obtain ⟨j, hj, rfl, hG, hH, hP, hO⟩ := hrel
    clear GG HH Op OX
    have dn := hH.num.1
    by_cases hs : j < y.n
    · have a1 : decide ((j : Int) < (y.n : Int)) = true := decide_eq_true (by omega)
      have a2 : (j : Int) < 4 := by omega
      have a3 : (x.n : Int) + (j : Int) < 4 := by omega
      have cn := hG.num.1
      have ck := hG.key (x.n + j) (by omega)
      have dk := (hH.key j (by omega)).1
      have oS := hG.o1 (2 + (x.n + j)) (.string (y.K j))
      have M1 := hide (hG.setKey (x.n + j) (by omega) (y.K j)).drew
      have M2 := hide (hH.keep oS (fun e => by omega)).drew
      have M3 := hide (hP.keep oS (fun e => by omega)).drew
      have M4 := hide (hO.trans oS (S := fun _ => False) (fun k hk e => by omega)).drew
      clear hG hH hP hO oS
      go_upto_region 5 with fail
      go_region
      generalize (wr.setCell ⟨g, 2 + (x.n + j), none⟩ (.string (y.K j))).drew = w5 at *
      clear dn cn ck dk
      have hG := unhide M1
      have hH := unhide M2
      have hP := unhide M3
      have hO := unhide M4
      clear M1 M2 M3 M4
      have cn := hG.num.1
      have ck := hG.val (x.n + j) (by omega)
      have dk := (hH.val j (by omega)).1
      have oS := hG.o1 (6 + (x.n + j)) (.string (y.V j))
      have M1 := hide (hG.setVal (x.n + j) (by omega) (y.V j)).drew
      have M2 := hide (hH.keep oS (fun e => by omega)).drew
      have M3 := hide (hP.keep oS (fun e => by omega)).drew
      have M4 := hide (hO.trans oS (S := fun _ => False) (fun k hk e => by omega)).drew
      clear hG hH hP hO oS
      go_upto_region 6 with fail
      go_region
      generalize (w5.setCell ⟨g, 6 + (x.n + j), none⟩ (.string (y.V j))).drew = w6 at *
      clear cn ck dk
      go_wp2_with fail
      go_roundw
      case rel =>
        refine ⟨j + 1, by omega, by go_num, ?_, unhide M2, unhide M3, unhide M4⟩
        have := unhide M1
        simp only [jnF_step] at this
        exact this
      case measure => simp [intOf]; omega
    · have ej : j = y.n := by omega
      subst ej
      have a1 : decide ((y.n : Int) < (y.n : Int)) = false := by simp
      have cn := hG.num
      have oS := hG.o1 1 (.int .i64 ((x.n : Int) + (y.n : Int)))
      have M1 := hide (show NdAt (wr.setCell ⟨g, 1, none⟩ (.int .i64 ((x.n : Int) + (y.n : Int)))) g _ from hG.setNum (x.n + y.n))
      have M3 := hide (hP.keep oS (fun e => by omega))
      have M4 := hide (hO.trans oS (S := fun _ => False) (fun k hk e => by omega))
      clear hG hH hP hO oS
      go_upto_region 8 with fail
      generalize wr.setCell ⟨g, 1, none⟩ (.int .i64 ((x.n : Int) + (y.n : Int))) = w5 at *
      clear cn dn
      go_wp2_with (first | (refine wpList_load_nd rfl _ rfl g rfl (unhide M1) ?_) | (refine wpList_store_nd rfl _ _ rfl p _ rfl rfl (unhide M3) ?_; intro w7 hR7 hO7))
      refine bodyPost_ret (res1_nd Tryz.results355 _ rfl hR7) rfl ?_
      refine ⟨_, rfl, ⟨rfl, rfl, fun t ht => ⟨jnF_lt _ _ _ _ _ ht, jnF_lt _ _ _ _ _ ht⟩, fun t ht => ⟨jnF_ge _ _ _ _ _ ht, jnF_ge _ _ _ _ _ ht⟩⟩, ?_⟩
      exact (unhide M4).trans hO7 (fun k hk e => by omega)
end Go.Proofs.Qxb6500412aGreat
