/-
  OWN WORK. THE PAGER LAW's BOOK: Holds, Lowest, Room, NewBook.
-/
import Derived.Test.Qxb6500411aPgSee
namespace Go.Proofs.Qxb6500411a
open Go.RowKit
set_option linter.unusedSimpArgs false
set_option linter.unusedVariables false

structure BookAt (w : World) (g : Nat) (used : List Bool) (pg : List ByteArray) (F : Nat → Prop) : Prop where
  ex : ∃ b0 b1, Has w g #[.slice (some ⟨b0, 0, none⟩) 72 72, .slice (some ⟨b1, 0, none⟩) 72 72] 51 ∧ Has w b0 (bools used) 4 ∧ Has w b1 (strs pg) 61 ∧ F g ∧ F b0 ∧ F b1
  lu : used.length = 72
  lp : pg.length = 72
  inn : ∀ k, F k → k < w.heap.size

section
variable {w : World} {g : Nat} {used : List Bool} {pg : List ByteArray} {F : Nat → Prop}

theorem BookAt.keep {S : Nat → Prop} {w' : World} (h : BookAt w g used pg F) (ho : Only S w w') (hS : ∀ k, F k → ¬ S k) : BookAt w' g used pg F := by
  obtain ⟨⟨b0, b1, h1, h2, h3, f, f0, f1⟩, lu, lp, hi⟩ := h
  exact ⟨⟨b0, b1, h1.keep ho (hS _ f), h2.keep ho (hS _ f0), h3.keep ho (hS _ f1), f, f0, f1⟩, lu, lp, fun k hk => Nat.lt_of_lt_of_le (hi k hk) ho.size⟩
theorem BookAt.mono {G : Nat → Prop} (h : BookAt w g used pg F) (hG : ∀ k, F k → G k) (hi' : ∀ k, G k → k < w.heap.size) : BookAt w g used pg G := by
  obtain ⟨⟨b0, b1, h1, h2, h3, f, f0, f1⟩, lu, lp, hi⟩ := h
  exact ⟨⟨b0, b1, h1, h2, h3, hG _ f, hG _ f0, hG _ f1⟩, lu, lp, hi'⟩


theorem holds_out (g : Nat) (n : Int) (hn : ¬ (1 ≤ n ∧ n < 72)) (w : World) :
    Calls Try.prog 38 #[.pointer (some ⟨g, 0, none⟩), .int .i64 n] w fun e w' => e = .returned (.bool false) ∧ w = w' := by
  by_cases h0 : n < 1
  · have h0' : decide (n < 1) = true := by simpa using h0
    go_enter Try.func38, Try.ntmps38
    go_wp2
    go_ret
    exact ⟨rfl, rfl⟩
  · have h0' : decide (n < 1) = false := by simpa using h0
    have h8 : 72 ≤ n := by omega
    go_enter Try.func38, Try.ntmps38
    go_wp2
    go_ret
    exact ⟨rfl, rfl⟩

theorem holds_in (h : BookAt w g used pg F) (n : Nat) (h1 : 1 ≤ n) (hn : n < 72) :
    Calls Try.prog 38 #[.pointer (some ⟨g, 0, none⟩), .int .i64 n] w fun e w' => e = .returned (.bool (usedL used n)) ∧ w = w' := by
  obtain ⟨⟨b0, b1, g1, g2, g3, f, f0, f1⟩, lu, lp, hi⟩ := h
  have c0 := g1.cell 0
  have p0 := g2.cell n
  rw [bools_get _ _ (by omega)] at p0
  have e1 : usedL used n = used[n] := by simp [usedL, List.getD_eq_getElem?_getD, lu, hn]
  rw [e1]
  clear e1
  generalize used[n] = u at *
  have a1 : decide ((n : Int) < 1) = false := by simp; omega
  have a2 : decide (72 ≤ (n : Int)) = false := by simp; omega
  have hn' : (n : Int) < 72 := by omega
  go_enter Try.func38, Try.ntmps38
  go_wp2_with fail
  go_ret
  exact ⟨rfl, rfl⟩

set_option maxRecDepth 100000 in
theorem lowest_any (h : BookAt w g used pg F) :
    Calls Try.prog 47 #[.pointer (some ⟨g, 0, none⟩)] w fun e w' => e = .returned (.int .i64 (lowOf (usedL used))) ∧ w = w' := by
  obtain ⟨⟨b0, b1, g1, g2, g3, f, f0, f1⟩, lu, lp, hi⟩ := h
  have c0 := g1.cell 0
  go_enter Try.func47, Try.ntmps47
  go_wp2_with fail
  go_loop [3] (fun v => ∃ k : Nat, 1 ≤ k ∧ k ≤ 72 ∧ v = .int .i64 k ∧ ∀ j, 1 ≤ j → j < k → usedL used j = true) (fun v => (72 - intOf v).toNat)
  case atStart => exact ⟨1, by omega, by omega, rfl, fun j h1 h2 => by omega⟩
  case round =>
    obtain ⟨k, hk1, hk, rfl, ha⟩ := hrel
    have Ha := hide ha
    clear ha
    by_cases hk8 : k < 72
    · have p0 := g2.cell k
      rw [bools_get _ _ (by omega)] at p0
      have e1 : usedL used k = used[k] := by simp [usedL, List.getD_eq_getElem?_getD, lu, hk8]
      have E1 := hide e1
      clear e1
      generalize used[k] = u at *
      have hk' : (k : Int) < 72 := by omega
      cases u with
      | false =>
        go_wp2_with fail
        go_ret
        rw [lowOf_eq hk1 hk8 (unhide E1) (fun j h1 h2 => unhide Ha j h1 h2)]
        exact ⟨rfl, rfl⟩
      | true =>
        go_wp2_with fail
        go_round
        case rel =>
          refine ⟨k + 1, by omega, by omega, by go_num, fun j h1 h2 => ?_⟩
          by_cases hj : j = k
          · subst hj; exact unhide E1
          · exact unhide Ha j h1 (by omega)
        case measure => simp [intOf]; omega
    · obtain rfl : k = 72 := by omega
      go_wp2_with fail
      go_ret
      rw [lowOf_zero (fun j h1 h2 => unhide Ha j h1 h2)]
      exact ⟨rfl, rfl⟩

set_option maxRecDepth 100000 in
theorem room_any (h : BookAt w g used pg F) :
    Calls Try.prog 21 #[.pointer (some ⟨g, 0, none⟩)] w fun e w' => e = .returned (.int .i64 (cnt (usedL used) 72)) ∧ w = w' := by
  obtain ⟨⟨b0, b1, g1, g2, g3, f, f0, f1⟩, lu, lp, hi⟩ := h
  have c0 := g1.cell 0
  go_enter Try.func21, Try.ntmps21
  go_wp2_with fail
  go_loop [3, 4] (fun c v => ∃ k : Nat, 1 ≤ k ∧ k ≤ 72 ∧ v = .int .i64 k ∧ c = .int .i64 (cnt (usedL used) k)) (fun _ v => (72 - intOf v).toNat)
  case atStart => exact ⟨1, by omega, by omega, rfl, rfl⟩
  case round =>
    obtain ⟨k, hk1, hk, rfl, rfl⟩ := hrel
    by_cases hk8 : k < 72
    · have p0 := g2.cell k
      rw [bools_get _ _ (by omega)] at p0
      have e1 : usedL used k = used[k] := by simp [usedL, List.getD_eq_getElem?_getD, lu, hk8]
      have hs := cnt_succ (usedL used) k
      have hle := cnt_le (usedL used) k
      rw [e1] at hs
      clear e1
      generalize used[k] = u at *
      have hk' : (k : Int) < 72 := by omega
      generalize cnt (usedL used) k = ck at *
      cases u with
      | true =>
        rw [if_neg (by simp)] at hs
        have Hs := hide hs
        clear hs
        go_wp2_with fail
        go_round
        case rel => exact ⟨k + 1, by omega, by omega, by go_num, by rw [unhide Hs]; rfl⟩
        case measure => simp [intOf]; omega
      | false =>
        rw [if_pos ⟨by omega, rfl⟩] at hs
        have Hs := hide hs
        clear hs
        go_wp2_with fail
        go_round
        case rel => exact ⟨k + 1, by omega, by omega, by go_num, by rw [unhide Hs]; go_num⟩
        case measure => simp [intOf]; omega
    · obtain rfl : k = 72 := by omega
      go_wp2_with fail
      go_ret
      exact ⟨rfl, rfl⟩
end
end Go.Proofs.Qxb6500411a
