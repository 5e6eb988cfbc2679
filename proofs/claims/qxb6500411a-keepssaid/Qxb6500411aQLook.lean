/-
  OWN WORK. THE PAGER LAW's LOOKS: SeesPage, Shows.
-/
import Derived.Test.Qxb6500411aQCopy
namespace Go.Proofs.Qxb6500411a
open Go.RowKit
set_option linter.unusedSimpArgs false
set_option linter.unusedVariables false

section
variable {w : World} {p l d g : Nat} {op : Bool} {blk base : List ByteArray} {recs : List (Nat × ByteArray)} {com view : List ByteArray} {used : List Bool} {pg : List ByteArray} {F G B : Nat → Prop}

theorem sees_out (p g : Nat) (n : Int) (hn : ¬ (1 ≤ n ∧ n < 72)) (w : World) :
    Calls Try.prog 22 #[.pointer (some ⟨p, 0, none⟩), .pointer (some ⟨g, 0, none⟩), .int .i64 n] w fun e w' => e = .returned (.bool true) ∧ w = w' := by
  have C1 := hide (holds_out g n hn w)
  have C2 := hide (pused_out p n hn w)
  have C3 := pget_out p n hn w
  unfold emptyB at C3
  have C3 := hide C3
  clear hn
  go_enter Try.func22, Try.ntmps22
  go_wp2_with fail
  refine (unhide C1).mono ?_
  rintro e w' ⟨rfl, rfl⟩
  go_wp2_with fail
  refine (unhide C2).mono ?_
  rintro e w' ⟨rfl, rfl⟩
  go_wp2_with fail
  refine (unhide C3).mono ?_
  rintro e w' ⟨rfl, rfl⟩
  go_wp2_with fail
  go_ret
  exact ⟨by simp, rfl⟩

set_option maxRecDepth 100000 in
set_option maxHeartbeats 1000000 in
theorem sees_in (h : PG w p l d blk base recs op com view F G) (hb : BookAt w g used pg B) (hBp : ¬ B p) (hBG : ∀ k, B k → ¬ G k) (n : Nat) (h1 : 1 ≤ n) (hn : n < 72) :
    Calls Try.prog 22 #[.pointer (some ⟨p, 0, none⟩), .pointer (some ⟨g, 0, none⟩), .int .i64 n] w fun e w' => (∃ b, e = .returned (.bool b) ∧ (b = true ↔ Sees view used pg n)) ∧ PG w' p l d blk base recs op com view F G ∧ Only (fun k => G k ∨ k = p) w w' := by
  have hoff : ∀ k, B k → ¬ (G k ∨ k = p) := fun k hk h => by rcases h with h | h; exact hBG k hk h; exact hBp (h ▸ hk)
  have C1 := holds_in hb n h1 hn
  have C2 := pused_in h n h1 hn
  have hwt : Sees view used pg n ↔ (usedL used n = usedV view n ∧ (usedV view n = true → view.getD n emptyB = pg.getD n emptyB)) := Iff.rfl
  by_cases hq : usedL used n = usedV view n
  · rw [hq] at C1
    cases hu : usedV view n with
    | false =>
      have hS : Sees view used pg n := ⟨hq, fun e => by rw [hu] at e; cases e⟩
      rw [hu] at C1 C2
      have C1 := hide C1
      have C2 := hide C2
      have HS := hide hS
      have Hu := hide hu
      clear hS hwt hq hu
      go_enter Try.func22, Try.ntmps22
      go_wp2_with fail
      refine (unhide C1).mono ?_
      rintro e w' ⟨rfl, rfl⟩
      go_wp2_with fail
      refine (unhide C2).mono ?_
      rintro e w2 ⟨rfl, h2, ho2⟩
      have C3 := pget_free h2 n h1 hn (unhide Hu)
      unfold emptyB at C3
      have C3 := hide C3
      go_wp2_with fail
      refine (unhide C3).mono ?_
      rintro e w3 ⟨rfl, h3, ho3⟩
      go_wp2_with fail
      go_ret
      exact ⟨⟨true, by simp, fun _ => unhide HS, fun _ => rfl⟩, h3, ho2.trans ho3 (fun _ _ h => h)⟩
    | true =>
      rw [hu] at C1 C2
      have hlp := hb.lp
      have hS : Sees view used pg n ↔ view.getD n emptyB = pg.getD n emptyB := ⟨fun h => h.2 hu, fun h => ⟨hq, fun _ => h⟩⟩
      have e1 : pg.getD n emptyB = pg[n]'(by omega) := by simp [List.getD_eq_getElem?_getD, hlp, hn]
      rw [e1] at hS
      generalize hvx : view.getD n emptyB = x at *
      generalize hpx : pg[n]'(by omega) = y at *
      have C1 := hide C1
      have C2 := hide C2
      have HS := hide hS
      have Hu := hide hu
      have Hvx := hide hvx
      have Hpx := hide hpx
      clear hS hwt hq hu hvx e1 hpx
      go_enter Try.func22, Try.ntmps22
      go_wp2_with fail
      refine (unhide C1).mono ?_
      rintro e w' ⟨rfl, rfl⟩
      go_wp2_with fail
      refine (unhide C2).mono ?_
      rintro e w2 ⟨rfl, h2, ho2⟩
      have C3 := pget_used h2 n h1 hn (unhide Hu)
      rw [unhide Hvx] at C3
      have C3 := hide C3
      go_wp2_with fail
      refine (unhide C3).mono ?_
      rintro e w3 ⟨rfl, h3, ho3⟩
      have o13 := ho2.trans ho3 (fun _ _ h => h)
      obtain ⟨⟨b0, b1, g1, g2, g3, f, f0, f1⟩, lu, lp, hi⟩ := hb.keep o13 hoff
      have q1 := g1.cell 1
      have p1 := g3.cell n
      rw [strs_get _ _ (by omega), unhide Hpx] at p1
      have hn' : (n : Int) < 72 := by omega
      by_cases hxy : x = y
      · subst hxy
        go_wp2_with fail
        go_ret
        exact ⟨⟨true, by simp, fun _ => (unhide HS).2 (by first | exact rfl | trivial), fun _ => rfl⟩, h3.pg, o13⟩
      · have hne := ba_ne hxy
        go_wp2_with fail
        go_ret
        exact ⟨⟨false, by simp, fun h => (by cases h), fun h => absurd ((unhide HS).1 h) hxy⟩, h3.pg, o13⟩
  · have hne : (usedV view n != usedL used n) = true := by
      cases h1 : usedV view n <;> cases h2 : usedL used n <;> simp_all
    have hS : ¬ Sees view used pg n := fun h => hq h.1
    generalize usedV view n = a at *
    generalize usedL used n = b at *
    have HS := hide hS
    have hab : (a = false ∧ b = true) ∨ (a = true ∧ b = false) := by cases a <;> cases b <;> simp_all
    clear hS hwt hq hne
    rcases hab with ⟨rfl, rfl⟩ | ⟨rfl, rfl⟩
    all_goals
      have C1 := hide C1
      have C2 := hide C2
      go_enter Try.func22, Try.ntmps22
      go_wp2_with fail
      refine (unhide C1).mono ?_
      rintro e w' ⟨rfl, rfl⟩
      go_wp2_with fail
      refine (unhide C2).mono ?_
      rintro e w2 ⟨rfl, h2, ho2⟩
      go_wp2_with fail
      go_ret
      exact ⟨⟨false, rfl, fun h => (by cases h), fun h => absurd h (unhide HS)⟩, h2, ho2⟩

set_option maxRecDepth 100000 in
set_option maxHeartbeats 1000000 in
theorem shows_any (h : PG w p l d blk base recs op com view F G) (hb : BookAt w g used pg B) (hBp : ¬ B p) (hBG : ∀ k, B k → ¬ G k) :
    Calls Try.prog 9 #[.pointer (some ⟨p, 0, none⟩), .pointer (some ⟨g, 0, none⟩), .bool op] w fun e w' => (∃ b, e = .returned (.bool b) ∧ (b = true ↔ SeesAll view used pg)) ∧ PG w' p l d blk base recs op com view F G ∧ Only (fun k => G k ∨ k = p) w w' := by
  have hoff : ∀ k, B k → ¬ (G k ∨ k = p) := fun k hk h => by rcases h with h | h; exact hBG k hk h; exact hBp (h ▸ hk)
  have C1 := hide (pintxn_any h)
  have C2 := hide (pfreePages_any h)
  have hoo := bne_self op
  have hcc : SeesAll view used pg → cnt (usedL used) 72 = cnt (usedV view) 72 := by
    intro hs
    unfold cnt
    congr 1
    apply List.filter_congr
    intro n hn
    by_cases h0 : n = 0
    · simp [h0]
    · rw [(hs n (by omega) (List.mem_range.1 hn)).1]
  have Hcc := hide hcc
  clear hcc
  go_enter Try.func9, Try.ntmps9
  go_wp2_with fail
  refine (unhide C1).mono ?_
  rintro e w' ⟨rfl, rfl⟩
  go_wp2_with fail
  refine (unhide C2).mono ?_
  rintro e w2 ⟨rfl, h2, ho2⟩
  have C3 := hide (room_any (hb.keep ho2 hoff))
  go_wp2_with fail
  refine (unhide C3).mono ?_
  rintro e w3 ⟨rfl, rfl⟩
  by_cases hce : cnt (usedV view) 72 = cnt (usedL used) 72
  · rw [hce]
    have hcb : ((cnt (usedL used) 72 : Int) != (cnt (usedL used) 72 : Int)) = false := by simp
    generalize cnt (usedL used) 72 = c at *
    go_wp2_with fail
    go_loopw [10] (fun v wr => ∃ b : Int, -1 ≤ b ∧ b ≤ 73 ∧ v = .int .i64 b ∧ (∀ j : Nat, 1 ≤ j → (j : Int) < b → j < 72 → Sees view used pg j) ∧ PG wr p l d blk base recs op com view F G ∧ Only (fun k => G k ∨ k = p) w wr) (fun v _ => (73 - intOf v).toNat)
    case atStart => exact ⟨-1, by omega, by omega, rfl, fun j h1 h2 => by omega, h2, ho2⟩
    case round =>
      obtain ⟨b, hb0, hb1, rfl, ha, hp, ho⟩ := hrel
      have Ha := hide ha
      clear ha
      by_cases h73 : b = 73
      · subst h73
        go_wp2_with fail
        go_ret
        exact ⟨⟨true, rfl, fun _ n h1 hn => unhide Ha n h1 (by omega) hn, fun _ => rfl⟩, hp, ho⟩
      · have hble : decide (b ≤ 72) = true := by simp; omega
        by_cases hin : 1 ≤ b ∧ b < 72
        · obtain ⟨n, rfl⟩ := Int.eq_ofNat_of_zero_le (show 0 ≤ b by omega)
          have C4 := hide (sees_in hp (hb.keep ho hoff) hBp hBG n (by omega) (by omega))
          go_wp2_with fail
          refine (unhide C4).mono ?_
          rintro e w4 ⟨⟨q, rfl, hq⟩, h4, ho4⟩
          have Hq := hide hq
          clear hq
          cases q with
          | true =>
            go_wp2_with fail
            go_roundw
            case rel =>
              refine ⟨(n : Int) + 1, by omega, by omega, by go_num, fun j h1 h2 h3 => ?_, h4, ho.trans ho4 (fun _ _ h => h)⟩
              by_cases hj : j = n
              · subst hj; exact (unhide Hq).1 (by first | exact rfl | trivial)
              · exact unhide Ha j h1 (by omega) h3
            case measure => simp [intOf]; omega
          | false =>
            go_wp2_with fail
            go_ret
            exact ⟨⟨false, rfl, fun h => (by cases h), fun h => (by have := (unhide Hq).2 (h n (by omega) (by omega)); cases this)⟩, h4, ho.trans ho4 (fun _ _ h => h)⟩
        · have C4 := hide (sees_out p g b hin wr)
          go_wp2_with fail
          refine (unhide C4).mono ?_
          rintro e w4 ⟨rfl, rfl⟩
          go_wp2_with fail
          go_roundw
          case rel => exact ⟨b + 1, by omega, by omega, by go_num, fun j h1 h2 h3 => unhide Ha j h1 (by omega) h3, hp, ho⟩
          case measure => simp [intOf]; omega
  · have hcb : ((cnt (usedV view) 72 : Int) != (cnt (usedL used) 72 : Int)) = true := by simp; omega
    have hno : ¬ SeesAll view used pg := fun h => hce (unhide Hcc h).symm
    generalize cnt (usedL used) 72 = c at *
    generalize cnt (usedV view) 72 = c' at *
    have Hno := hide hno
    clear hno hce
    go_wp2_with fail
    go_ret
    exact ⟨⟨false, rfl, fun h => (by cases h), fun h => absurd h (unhide Hno)⟩, h2, ho2⟩
end
end Go.Proofs.Qxb6500411a
