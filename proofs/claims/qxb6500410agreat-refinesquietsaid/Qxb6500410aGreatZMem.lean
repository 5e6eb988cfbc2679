/-
  OWN WORK. THE FOREST MODEL: its memory; the observers.
-/
import Derived.Test.Qxb6500410aGreatZCln
import Derived.Test.Qxb6500410aGreatBVu
namespace Go.Proofs.Qxb6500410aGreat
open Go.RowKit Go.PlainAid
set_option linter.unusedSimpArgs false
set_option linter.unusedVariables false

def zF (a b c : Nat → Value) (hv : Value) (op : Bool) (j : Nat) : Value := if j < 16 then a j else if j < 32 then b (j - 16) else if j < 48 then c (j - 32) else if j = 48 then hv else .bool op
/-- The record of commits: none, or one. -/
def HisA (w : World) (hv : Value) (O : Nat → Prop) : Option Vu → Prop
  | none => hv = .slice none 0 0
  | some X => ∃ ex, w.ownsRow 0 81 16 hv 1 (tabV 16 (stF X ex)).toList ∧ ZE w ex X ∧ (∀ k, EB ex k → O k) ∧ (∀ k, hv.ownBlock = some k → O k) ∧ Vok X
/-- The model: what it shows, what lasts, what lasted at the mark, the record; H: all its blocks. -/
structure ZAt (w : World) (m : Nat) (S T U : Vu) (hist : Option Vu) (op : Bool) (H : Nat → Prop) : Prop where
  ex : ∃ es et eu hv O, Has w m (tabV 50 (zF (stF S es) (stF T et) (stF U eu) hv op)) 84 ∧ ZE w es S ∧ ZE w et T ∧ ZE w eu U ∧ HisA w hv O hist ∧
    (∀ k, EB et k → O k) ∧ (∀ k, EB eu k → O k) ∧ (∀ k, EB es k → ¬ O k ∧ H k) ∧ (∀ k, O k → H k ∧ k ≠ m) ∧
    (∀ i j g, i < 8 → j < 8 → i ≠ j → (es i).ownBlock = some g → (es j).ownBlock ≠ some g)
  s : Vok S
  t : Vok T
  u : Vok U
  hm : H m
  inn : ∀ k, H k → k < w.heap.size
section
variable {w w' : World} {m : Nat} {S T U : Vu} {hist : Option Vu} {op : Bool} {H : Nat → Prop}
theorem HisA.keep {B O : Nat → Prop} {hv : Value} (h : HisA w hv O hist) (ho : Only B w w') (hB : ∀ k, O k → ¬ B k) : HisA w' hv O hist := by
  cases hist with
  | none => exact h
  | some X =>
    obtain ⟨ex, h1, h2, h3, h4, h5⟩ := h
    exact ⟨ex, ownsRow_keep h1 ho (fun k hk => hB k (h4 k hk)), h2.keep ho (fun k hk => hB k (h3 k hk)), h3, h4, h5⟩
theorem ZAt.keep {B : Nat → Prop} (h : ZAt w m S T U hist op H) (ho : Only B w w') (hB : ∀ k, H k → ¬ B k) : ZAt w' m S T U hist op H := by
  obtain ⟨es, et, eu, hv, O, h1, h2, h3, h4, h5, h6, h7, h8, h9, h10⟩ := h.ex
  exact ⟨⟨es, et, eu, hv, O, h1.keep ho (hB m h.hm), h2.keep ho (fun k hk => hB k (h8 k hk).2), h3.keep ho (fun k hk => hB k (h9 k (h6 k hk)).1), h4.keep ho (fun k hk => hB k (h9 k (h7 k hk)).1), h5.keep ho (fun k hk => hB k (h9 k hk).1), h6, h7, h8, h9, h10⟩, h.s, h.t, h.u, h.hm, fun k hk => Nat.lt_of_lt_of_le (h.inn k hk) ho.size⟩
theorem ZAt.quiet (h : ZAt w m S T U hist op H) (ho : Only (fun _ => False) w w') : ZAt w' m S T U hist op H := h.keep ho (fun _ _ h => h)
theorem ZAt.mono {H' : Nat → Prop} (h : ZAt w m S T U hist op H) (hH : ∀ k, H k → H' k) (hi : ∀ k, H' k → k < w.heap.size) : ZAt w m S T U hist op H' := by
  obtain ⟨es, et, eu, hv, O, h1, h2, h3, h4, h5, h6, h7, h8, h9, h10⟩ := h.ex
  exact ⟨⟨es, et, eu, hv, O, h1, h2, h3, h4, h5, h6, h7, fun k hk => ⟨(h8 k hk).1, hH k (h8 k hk).2⟩, fun k hk => ⟨hH k (h9 k hk).1, (h9 k hk).2⟩, h10⟩, h.s, h.t, h.u, hH m h.hm, hi⟩
theorem zF_cur {a b c : Nat → Value} {hv : Value} {j : Nat} (h : j < 16) : zF a b c hv op j = a j := by unfold zF; rw [if_pos h]
theorem zF_com {a b c : Nat → Value} {hv : Value} {j : Nat} (h : j < 16) : zF a b c hv op (16 + j) = b j := by unfold zF; rw [if_neg (by omega), if_pos (by omega), Nat.add_sub_cancel_left]
theorem zF_base {a b c : Nat → Value} {hv : Value} {j : Nat} (h : j < 16) : zF a b c hv op (32 + j) = c j := by unfold zF; rw [if_neg (by omega), if_neg (by omega), if_pos (by omega), Nat.add_sub_cancel_left]
/-- What an observer reads. -/
theorem ZAt.look (h : ZAt w m S T U hist op H) : ∃ es, (∀ i, i < 8 → w.cell? ⟨m, i, none⟩ = some (.bool (S i).isSome)) ∧ (∀ i, i < 8 → w.cell? ⟨m, 8 + i, none⟩ = some (es i)) ∧ ZE w es S ∧ w.cell? ⟨m, 49, none⟩ = some (.bool op) := by
  obtain ⟨es, et, eu, hv, O, h1, h2, _⟩ := h.ex
  refine ⟨es, fun i hi => ?_, fun i hi => ?_, h2, ?_⟩
  · rw [h1.cell, tabV_get _ _ _ (by omega), zF_cur (by omega)]
    unfold stF
    rw [if_pos hi]
  · rw [h1.cell, tabV_get _ _ _ (by omega), zF_cur (by omega)]
    unfold stF
    rw [if_neg (by omega), Nat.add_sub_cancel_left]
  · rw [h1.cell, tabV_get _ _ _ (by omega)]; rfl
theorem zintxn_any (h : ZAt w m S T U hist op H) : Calls Tryz.prog 24 #[.pointer (some ⟨m, 0, none⟩)] w fun e w' => e = .returned (.bool op) ∧ w = w' := by
  obtain ⟨es, c1, c2, E, c4⟩ := h.look
  go_enter Tryz.func24, Tryz.ntmps24
  go_wp2_with fail
  go_ret
  exact ⟨rfl, rfl⟩
theorem zused_any (h : ZAt w m S T U hist op H) (i : Int) : Calls Tryz.prog 102 #[.pointer (some ⟨m, 0, none⟩), .int .i64 i] w fun e w' => e = .returned (.bool (Vz S i).isSome) ∧ w = w' := by
  obtain ⟨es, c1, c2, E, c4⟩ := h.look
  unfold Vz
  by_cases h0 : 0 ≤ i
  · have a0 : decide (0 ≤ i) = true := decide_eq_true h0
    by_cases h8 : i < 8
    · have a8 : decide (i < 8) = true := decide_eq_true h8
      obtain ⟨n, rfl⟩ := Int.eq_ofNat_of_zero_le h0
      have d := c1 n (by omega)
      have hn : n < 8 := by omega
      have e : (if 0 ≤ (n : Int) ∧ (n : Int) < 8 then S (n : Int).toNat else none) = S n := by rw [if_pos ⟨h0, h8⟩]; rfl
      rw [e]
      clear e c1 c2
      go_enter Tryz.func102, Tryz.ntmps102
      go_wp2_with fail
      go_ret
      exact ⟨by first | rfl | simp, rfl⟩
    · have a8 : decide (i < 8) = false := decide_eq_false h8
      rw [if_neg (fun c => h8 c.2)]
      clear c1 c2
      go_enter Tryz.func102, Tryz.ntmps102
      go_wp2_with fail
      go_ret
      exact ⟨rfl, rfl⟩
  · have a0 : decide (0 ≤ i) = false := decide_eq_false h0
    rw [if_neg (fun c => h0 c.1)]
    clear c1 c2
    go_enter Tryz.func102, Tryz.ntmps102
    go_wp2_with fail
    go_ret
    exact ⟨rfl, rfl⟩
def upto8 (S : Vu) (n : Nat) : Nat := ((List.range n).flatMap (fun i => (S i).getD [])).length
theorem upto8_succ (S : Vu) (n : Nat) : upto8 S (n + 1) = upto8 S n + (eS S n).length := by
  unfold upto8 eS
  rw [List.range_succ, List.flatMap_append, List.length_append]
  simp
theorem upto8_le (S : Vu) (n : Nat) (hn : n ≤ 8) : upto8 S n ≤ (al8 S).length := by
  unfold upto8 al8
  rw [show (8 : Nat) = n + (8 - n) by omega, List.range_add, List.flatMap_append, List.length_append]
  omega
set_option maxRecDepth 100000 in
theorem zcount_any (h : ZAt w m S T U hist op H) : Calls Tryz.prog 115 #[.pointer (some ⟨m, 0, none⟩)] w fun e w' => e = .returned (.int .i64 (al8 S).length) ∧ w = w' := by
  obtain ⟨es, c1, c2, E, c4⟩ := h.look
  have hct := h.s.ct
  go_enter Tryz.func115, Tryz.ntmps115
  go_upto_region 3 with fail
  go_loopw [3, 4] (fun nv jv wr => ∃ i : Nat, jv = .int .i64 i ∧ nv = .int .i64 (upto8 S i) ∧ i ≤ 8 ∧ wr = w) (fun _ jv _ => 8 - (intOf jv).toNat)
  case atStart => exact ⟨0, rfl, rfl, by omega, rfl⟩
  case round =>
    obtain ⟨i, rfl, rfl, hi, rfl⟩ := hrel
    by_cases h8 : i < 8
    · have a1 : decide ((i : Int) < 8) = true := decide_eq_true (by omega)
      have a1p : (i : Int) < 8 := by omega
      have d := c2 i h8
      obtain ⟨a, cap, he⟩ := (E.own i h8).shape
      rw [he] at d
      have hu := upto8_succ S i
      have hle := upto8_le S (i + 1) (by omega)
      clear c1 c2 he
      go_wp2_with fail
      go_roundw
      case rel => exact ⟨i + 1, by go_num, by rw [hu]; go_num, by omega, by first | rfl | trivial⟩
      case measure => simp [intOf]; omega
    · have a1 : decide ((i : Int) < 8) = false := decide_eq_false (by omega)
      have a1p : ¬ ((i : Int) < 8) := by omega
      have e : i = 8 := by omega
      subst e
      clear c1 c2
      go_wp2_with fail
      go_ret
      exact ⟨rfl, rfl⟩
end
end Go.Proofs.Qxb6500410aGreat
