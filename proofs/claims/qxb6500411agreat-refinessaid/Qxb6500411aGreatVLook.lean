/-
  OWN WORK. THE PAGER LAW's LOOKS AT PAGER AND MODEL: SameInTxn, SameFreePages, SameUsed, SameGet, Alike, Inner, Loud.
-/
import Derived.Test.Qxb6500411aGreatNPgN
import Derived.Test.Qxb6500411aGreatPgRes
import Derived.Test.Qxb6500411aGreatPgChk
namespace Go.Proofs.Qxb6500411aGreat
open Go.RowKit
set_option linter.unusedSimpArgs false
set_option linter.unusedVariables false

theorem qsameBlock_any (x y : ByteArray) (w : World) :
    Calls Tryz.prog 36 #[.string x, .string y] w fun e w' => e = .returned (.bool (x.toList == y.toList)) ∧ w = w' := by
  go_enter Tryz.func36, Tryz.ntmps36
  go_wp2_with fail
  go_ret
  exact ⟨rfl, rfl⟩
theorem qsameBlock_eq (x : ByteArray) (w : World) :
    Calls Tryz.prog 36 #[.string x, .string x] w fun e w' => e = .returned (.bool true) ∧ w = w' := by
  have := qsameBlock_any x x w
  have e1 : (x.toList == x.toList) = true := by simp
  rwa [e1] at this
theorem qsameBlock_ne (x y : ByteArray) (h : x ≠ y) (w : World) :
    Calls Tryz.prog 36 #[.string x, .string y] w fun e w' => e = .returned (.bool false) ∧ w = w' := by
  have := qsameBlock_any x y w
  rwa [ba_ne h] at this

theorem qwhole_ok (x : ByteArray) (hx : x.size = 128) (w : World) :
    Calls Tryz.prog 73 #[.string x, .int .i64 0] w fun e w' => e = .returned (.bool true) ∧ w = w' := by
  go_enter Tryz.func73, Tryz.ntmps73
  go_wp2_with fail
  go_ret
  exact ⟨rfl, rfl⟩
theorem qwhole_no (w : World) :
    Calls Tryz.prog 73 #[.string ⟨#[]⟩, .int .i64 5] w fun e w' => e = .returned (.bool true) ∧ w = w' := by
  go_enter Tryz.func73, Tryz.ntmps73
  go_wp2_with fail
  go_ret
  exact ⟨rfl, rfl⟩

section
variable {w : World} {p l d q : Nat} {blk base : List ByteArray} {recs : List (Nat × ByteArray)} {op : Bool} {com view : List ByteArray} {F G H : Nat → Prop}
variable {uc : List Bool} {pc : List ByteArray} {um : List Bool} {pm : List ByteArray} {ub : List Bool} {pb : List ByteArray} {hist : Option (List Bool × List ByteArray)}

theorem sameInTxn_any (h : PG w p l d blk base recs op com view F G) (hm : MPAt w q uc pc um pm ub pb hist op H) :
    Calls Tryz.prog 46 #[.pointer (some ⟨p, 0, none⟩), .pointer (some ⟨q, 0, none⟩)] w fun e w' => e = .returned (.bool true) ∧ w = w' := by
  have C1 := hide (pintxn_any h)
  have C2 := hide (nintxn_any hm)
  have hop : (op == op) = true := by simp
  go_enter Tryz.func46, Tryz.ntmps46
  go_wp2_with fail
  refine (unhide C1).mono ?_
  rintro e w' ⟨rfl, rfl⟩
  go_wp2_with fail
  refine (unhide C2).mono ?_
  rintro e w' ⟨rfl, rfl⟩
  go_wp2_with fail
  go_ret
  exact ⟨by first | exact rfl | simp, rfl⟩

set_option maxRecDepth 100000 in
theorem sameFreePages_any (h : PG w p l d blk base recs op com view F G) (hm : MPAt w q uc pc um pm ub pb hist op H) (hoff : ∀ k, H k → ¬ (G k ∨ k = p)) :
    Calls Tryz.prog 47 #[.pointer (some ⟨p, 0, none⟩), .pointer (some ⟨q, 0, none⟩)] w fun e w' => e = .returned (.bool ((cnt (usedV view) 72 : Int) == (cnt (usedL uc) 72 : Int))) ∧ PG w' p l d blk base recs op com view F G ∧ Only (fun k => G k ∨ k = p) w w' := by
  have C1 := pfreePages_any h
  have C2 := fun (w1 : World) (hm1 : MPAt w1 q uc pc um pm ub pb hist op H) => nfreePages_any hm1
  generalize cnt (usedV view) 72 = c at *
  generalize cnt (usedL uc) 72 = c' at *
  have C1 := hide C1
  have C2 := hide C2
  go_enter Tryz.func47, Tryz.ntmps47
  go_wp2_with fail
  refine (unhide C1).mono ?_
  rintro e w1 ⟨rfl, h1, ho1⟩
  go_wp2_with fail
  refine (unhide C2 _ (hm.keep ho1 hoff)).mono ?_
  rintro e w2 ⟨rfl, rfl⟩
  go_wp2_with fail
  go_ret
  exact ⟨rfl, h1, ho1⟩

theorem sameUsed_out (n : Int) (hn : ¬ (1 ≤ n ∧ n < 72)) :
    Calls Tryz.prog 45 #[.pointer (some ⟨p, 0, none⟩), .pointer (some ⟨q, 0, none⟩), .int .i64 n] w fun e w' => e = .returned (.bool true) ∧ w = w' := by
  have C1 := hide (pused_out p n hn w)
  have C2 := hide (nused_out q w n hn)
  clear hn
  go_enter Tryz.func45, Tryz.ntmps45
  go_wp2_with fail
  refine (unhide C1).mono ?_
  rintro e w' ⟨rfl, rfl⟩
  go_wp2_with fail
  refine (unhide C2).mono ?_
  rintro e w' ⟨rfl, rfl⟩
  go_wp2_with fail
  go_ret
  exact ⟨rfl, rfl⟩
set_option maxRecDepth 100000 in
theorem sameUsed_in (h : PG w p l d blk base recs op com view F G) (hm : MPAt w q uc pc um pm ub pb hist op H) (hoff : ∀ k, H k → ¬ (G k ∨ k = p)) (n : Nat) (h1 : 1 ≤ n) (hn : n < 72) :
    Calls Tryz.prog 45 #[.pointer (some ⟨p, 0, none⟩), .pointer (some ⟨q, 0, none⟩), .int .i64 n] w fun e w' => e = .returned (.bool (usedV view n == usedL uc n)) ∧ PG w' p l d blk base recs op com view F G ∧ Only (fun k => G k ∨ k = p) w w' := by
  have C1 := pused_in h n h1 hn
  have C2 := fun (w1 : World) (hm1 : MPAt w1 q uc pc um pm ub pb hist op H) => nused_in hm1 n h1 hn
  generalize usedV view n = a at *
  generalize usedL uc n = b at *
  have C1 := hide C1
  have C2 := hide C2
  go_enter Tryz.func45, Tryz.ntmps45
  go_wp2_with fail
  refine (unhide C1).mono ?_
  rintro e w1 ⟨rfl, h2, ho1⟩
  go_wp2_with fail
  refine (unhide C2 _ (hm.keep ho1 hoff)).mono ?_
  rintro e w2 ⟨rfl, rfl⟩
  go_wp2_with fail
  go_ret
  exact ⟨rfl, h2, ho1⟩

theorem sameGet_out (n : Int) (hn : ¬ (1 ≤ n ∧ n < 72)) (see : Bool) :
    Calls Tryz.prog 43 #[.pointer (some ⟨p, 0, none⟩), .pointer (some ⟨q, 0, none⟩), .int .i64 n, .bool see] w fun e w' => e = .returned (.bool true) ∧ w = w' := by
  have C1 := pget_out p n hn w
  have C2 := nget_out q w n hn
  unfold emptyB at C1 C2
  have C1 := hide C1
  have C2 := hide C2
  have C3 := hide (qsameBlock_eq ⟨#[]⟩ w)
  have C4 := hide (qwhole_no w)
  clear hn
  go_enter Tryz.func43, Tryz.ntmps43
  go_wp2_with fail
  refine (unhide C1).mono ?_
  rintro e w' ⟨rfl, rfl⟩
  go_wp2_with fail
  refine (unhide C2).mono ?_
  rintro e w' ⟨rfl, rfl⟩
  go_wp2_with fail
  refine (unhide C3).mono ?_
  rintro e w' ⟨rfl, rfl⟩
  go_wp2_with fail
  refine (unhide C4).mono ?_
  rintro e w' ⟨rfl, rfl⟩
  go_wp2_with fail
  go_ret
  exact ⟨rfl, rfl⟩

set_option maxRecDepth 100000 in
theorem sameGet_free (h : PG w p l d blk base recs op com view F G) (hm : MPAt w q uc pc um pm ub pb hist op H) (hoff : ∀ k, H k → ¬ (G k ∨ k = p)) (n : Nat) (h1 : 1 ≤ n) (hn : n < 72) (hu : usedV view n = false) (hl : usedL uc n = false) (see : Bool) :
    Calls Tryz.prog 43 #[.pointer (some ⟨p, 0, none⟩), .pointer (some ⟨q, 0, none⟩), .int .i64 n, .bool see] w fun e w' => e = .returned (.bool true) ∧ PG w' p l d blk base recs op com view F G ∧ Only (fun k => G k ∨ k = p) w w' := by
  have C1 := pget_free h n h1 hn hu
  unfold emptyB at C1
  have C1 := hide C1
  have Hl := hide hl
  clear hu hl
  go_enter Tryz.func43, Tryz.ntmps43
  go_wp2_with fail
  refine (unhide C1).mono ?_
  rintro e w1 ⟨rfl, h2, ho1⟩
  have C2 := nget_free (hm.keep ho1 hoff) n h1 hn (unhide Hl)
  unfold emptyB at C2
  have C2 := hide C2
  have C3 := hide (qsameBlock_eq ⟨#[]⟩ w1)
  have C4 := hide (qwhole_no w1)
  go_wp2_with fail
  refine (unhide C2).mono ?_
  rintro e w' ⟨rfl, rfl⟩
  go_wp2_with fail
  refine (unhide C3).mono ?_
  rintro e w' ⟨rfl, rfl⟩
  go_wp2_with fail
  refine (unhide C4).mono ?_
  rintro e w' ⟨rfl, rfl⟩
  go_wp2_with fail
  go_ret
  exact ⟨rfl, h2, ho1⟩

set_option maxRecDepth 100000 in
set_option maxHeartbeats 1000000 in
theorem sameGet_used (h : PG w p l d blk base recs op com view F G) (hm : MPAt w q uc pc um pm ub pb hist op H) (hoff : ∀ k, H k → ¬ (G k ∨ k = p)) (n : Nat) (h1 : 1 ≤ n) (hn : n < 72) (hu : usedV view n = true) (hl : usedL uc n = true) (see : Bool) :
    Calls Tryz.prog 43 #[.pointer (some ⟨p, 0, none⟩), .pointer (some ⟨q, 0, none⟩), .int .i64 n, .bool see] w fun e w' => (∃ b, e = .returned (.bool b) ∧ (b = true ↔ view.getD n emptyB = pc.getD n emptyB)) ∧ PG w' p l d blk base recs op com view F G ∧ Only (fun k => G k ∨ k = p) w w' := by
  have C1 := pget_used h n h1 hn hu
  have hsz := h.sz n hn
  generalize hvx : view.getD n emptyB = x at *
  have C1 := hide C1
  have Hl := hide hl
  clear hu hl hvx
  generalize hpx : pc.getD n emptyB = y at *
  have Hpx := hide hpx
  clear hpx
  go_enter Tryz.func43, Tryz.ntmps43
  go_wp2_with fail
  refine (unhide C1).mono ?_
  rintro e w1 ⟨rfl, h2, ho1⟩
  have C2 := nget_used (hm.keep ho1 hoff) n h1 hn (unhide Hl)
  rw [unhide Hpx] at C2
  have C2 := hide C2
  go_wp2_with fail
  refine (unhide C2).mono ?_
  rintro e w' ⟨rfl, rfl⟩
  by_cases hxy : x = y
  · subst hxy
    have C3 := hide (qsameBlock_eq x w1)
    have C4 := hide (qwhole_ok x hsz w1)
    have C5 := hide (front_any h2)
    go_wp2_with fail
    refine (unhide C3).mono ?_
    rintro e w' ⟨rfl, rfl⟩
    go_wp2_with fail
    refine (unhide C4).mono ?_
    rintro e w' ⟨rfl, rfl⟩
    cases see with
    | false =>
      go_wp2_with fail
      go_ret
      refine ⟨?_, h2.pg, ho1⟩
      first | exact ⟨true, rfl, fun _ => rfl, fun _ => rfl⟩ | exact rfl | simp
    | true =>
      go_wp2_with fail
      refine (unhide C5).mono ?_
      rintro e w2 ⟨rfl, ho2⟩
      go_wp2_with fail
      go_ret
      refine ⟨?_, h2.pg.quiet ho2, ho1.trans ho2 (fun _ _ h => h.elim)⟩
      first | exact ⟨true, rfl, fun _ => rfl, fun _ => rfl⟩ | exact rfl | simp
  · have C3 := hide (qsameBlock_ne x y hxy w1)
    have Hxy := hide hxy
    clear hxy
    go_wp2_with fail
    refine (unhide C3).mono ?_
    rintro e w' ⟨rfl, rfl⟩
    go_wp2_with fail
    go_ret
    exact ⟨⟨false, rfl, fun h => (by cases h), fun h => absurd h (unhide Hxy)⟩, h2.pg, ho1⟩

set_option maxRecDepth 100000 in
set_option maxHeartbeats 2000000 in
theorem alike_any (h : PG w p l d blk base recs op com view F G) (hm : MPAt w q uc pc um pm ub pb hist op H) (hoff : ∀ k, H k → ¬ (G k ∨ k = p)) :
    Calls Tryz.prog 25 #[.pointer (some ⟨p, 0, none⟩), .pointer (some ⟨q, 0, none⟩)] w fun e w' => (∃ b, e = .returned (.bool b) ∧ (b = true ↔ SeesAll view uc pc)) ∧ PG w' p l d blk base recs op com view F G ∧ Only (fun k => G k ∨ k = p) w w' := by
  have C1 := hide (sameInTxn_any h hm)
  have C2 := sameFreePages_any h hm hoff
  have hcc : SeesAll view uc pc → cnt (usedL uc) 72 = cnt (usedV view) 72 := by
    intro hs
    unfold cnt
    congr 1
    apply List.filter_congr
    intro n hn
    by_cases h0 : n = 0
    · simp [h0]
    · rw [(hs n (by omega) (List.mem_range.1 hn)).1]
  by_cases hce : cnt (usedV view) 72 = cnt (usedL uc) 72
  · have hcb : ((cnt (usedV view) 72 : Int) == (cnt (usedL uc) 72 : Int)) = true := by rw [hce]; simp
    rw [hcb] at C2
    have C2 := hide C2
    clear hcc hce hcb
    go_enter Tryz.func25, Tryz.ntmps25
    go_wp2_with fail
    refine (unhide C1).mono ?_
    rintro e w' ⟨rfl, rfl⟩
    go_wp2_with fail
    refine (unhide C2).mono ?_
    rintro e w2 ⟨rfl, h2, ho2⟩
    go_wp2_with fail
    go_loopw [5] (fun v wr => ∃ b : Int, -1 ≤ b ∧ b ≤ 73 ∧ v = .int .i64 b ∧ (∀ j : Nat, 1 ≤ j → (j : Int) < b → j < 72 → Sees view uc pc j) ∧ PG wr p l d blk base recs op com view F G ∧ Only (fun k => G k ∨ k = p) w wr) (fun v _ => (73 - intOf v).toNat)
    case atStart => exact ⟨-1, by omega, by omega, rfl, fun j h1 h2 => by omega, h2, ho2⟩
    case round =>
      clear h2 ho2
      obtain ⟨b, hb0, hb1, rfl, ha, hp, ho⟩ := hrel
      have Ha := hide ha
      clear ha
      by_cases h73 : b = 73
      · subst h73
        go_wp2_with fail
        go_ret
        exact ⟨⟨true, rfl, fun _ n h1 hn => unhide Ha n h1 (by omega) hn, fun _ => rfl⟩, hp, ho⟩
      · have hble : decide (b ≤ 72) = true := by simp; omega
        by_cases hin : 1 ≤ b ∧ b < 72
        · obtain ⟨n, rfl⟩ := Int.eq_ofNat_of_zero_le (show 0 ≤ b by omega)
          have n1 : 1 ≤ n := by omega
          have n2 : n < 72 := by omega
          have C4 := sameUsed_in hp (hm.keep ho hoff) hoff n n1 n2
          by_cases hq : usedV view n = usedL uc n
          · have hqb : (usedV view n == usedL uc n) = true := by rw [hq]; simp
            rw [hqb] at C4
            have C4 := hide C4
            have Hq := hide hq
            clear hq hqb
            go_wp2_with fail
            refine (unhide C4).mono ?_
            rintro e w4 ⟨rfl, h4, ho4⟩
            have hm4 := hm.keep (ho.trans ho4 (fun _ _ h => h)) hoff
            have C5 : Calls Tryz.prog 43 #[.pointer (some ⟨p, 0, none⟩), .pointer (some ⟨q, 0, none⟩), .int .i64 n, .bool true] w4 fun e w' => (∃ b, e = .returned (.bool b) ∧ (b = true ↔ Sees view uc pc n)) ∧ PG w' p l d blk base recs op com view F G ∧ Only (fun k => G k ∨ k = p) w4 w' := by
              cases hu : usedV view n with
              | false =>
                refine (sameGet_free h4 hm4 hoff n n1 n2 hu (by rw [← unhide Hq]; exact hu) true).mono ?_
                rintro e w' ⟨rfl, a, b⟩
                exact ⟨⟨true, rfl, fun _ => ⟨(unhide Hq).symm, fun h => by rw [hu] at h; cases h⟩, fun _ => rfl⟩, a, b⟩
              | true =>
                refine (sameGet_used h4 hm4 hoff n n1 n2 hu (by rw [← unhide Hq]; exact hu) true).mono ?_
                rintro e w' ⟨⟨b, rfl, hb⟩, a, c⟩
                exact ⟨⟨b, rfl, fun h => ⟨(unhide Hq).symm, fun _ => hb.1 h⟩, fun h => hb.2 (h.2 hu)⟩, a, c⟩
            have C5 := hide C5
            go_wp2_with fail
            refine (unhide C5).mono ?_
            rintro e w5 ⟨⟨bb, rfl, hbb⟩, h5, ho5⟩
            have Hbb := hide hbb
            clear hbb
            have ho15 := (ho.trans ho4 (fun _ _ h => h)).trans ho5 (fun _ _ h => h)
            cases bb with
            | true =>
              go_wp2_with fail
              go_roundw
              case rel =>
                refine ⟨(n : Int) + 1, by omega, by omega, by go_num, fun j h1 h2 h3 => ?_, h5, ho15⟩
                by_cases hj : j = n
                · subst hj; exact (unhide Hbb).1 (by first | exact rfl | trivial)
                · exact unhide Ha j h1 (by omega) h3
              case measure => simp [intOf]; omega
            | false =>
              go_wp2_with fail
              go_ret
              exact ⟨⟨false, rfl, fun h => (by cases h), fun h => (by have := (unhide Hbb).2 (h n n1 n2); cases this)⟩, h5, ho15⟩
          · have hqb : (usedV view n == usedL uc n) = false := by simpa using hq
            rw [hqb] at C4
            have C4 := hide C4
            have Hq := hide hq
            clear hq hqb
            go_wp2_with fail
            refine (unhide C4).mono ?_
            rintro e w4 ⟨rfl, h4, ho4⟩
            go_wp2_with fail
            go_ret
            exact ⟨⟨false, rfl, fun h => (by cases h), fun h => absurd (h n n1 n2).1.symm (unhide Hq)⟩, h4, ho.trans ho4 (fun _ _ h => h)⟩
        · have C4 := hide (sameUsed_out (p := p) (q := q) (w := wr) b hin)
          have C5 := hide (sameGet_out (p := p) (q := q) (w := wr) b hin true)
          go_wp2_with fail
          refine (unhide C4).mono ?_
          rintro e w4 ⟨rfl, rfl⟩
          go_wp2_with fail
          refine (unhide C5).mono ?_
          rintro e w4 ⟨rfl, rfl⟩
          go_wp2_with fail
          go_roundw
          case rel => exact ⟨b + 1, by omega, by omega, by go_num, fun j h1 h2 h3 => unhide Ha j h1 (by omega) h3, hp, ho⟩
          case measure => simp [intOf]; omega
  · have hcb : ((cnt (usedV view) 72 : Int) == (cnt (usedL uc) 72 : Int)) = false := ne_int (by omega)
    rw [hcb] at C2
    have C2 := hide C2
    have Hno := hide (fun h : SeesAll view uc pc => hce (hcc h).symm)
    clear hcc hce hcb
    go_enter Tryz.func25, Tryz.ntmps25
    go_wp2_with fail
    refine (unhide C1).mono ?_
    rintro e w' ⟨rfl, rfl⟩
    go_wp2_with fail
    refine (unhide C2).mono ?_
    rintro e w2 ⟨rfl, h2, ho2⟩
    go_wp2_with fail
    go_ret
    exact ⟨⟨false, rfl, fun h => (by cases h), fun h => (unhide Hno h).elim⟩, h2, ho2⟩

theorem inner_any (h : PG w p l d blk base recs op com view F G) (hk : MapOk (view.getD 0 emptyB)) :
    Calls Tryz.prog 23 #[.pointer (some ⟨p, 0, none⟩)] w fun e w' => e = .returned (.bool true) ∧ Only (fun _ => False) w w' := by
  have C1 := hide (pcheck_any h hk)
  go_enter Tryz.func23, Tryz.ntmps23
  go_wp2_with fail
  refine (unhide C1).mono ?_
  rintro e w1 ⟨rfl, ho1⟩
  have C2 := hide (small_any (h.quiet ho1))
  go_wp2_with fail
  refine (unhide C2).mono ?_
  rintro e w2 ⟨rfl, ho2⟩
  go_wp2_with fail
  go_ret
  exact ⟨rfl, ho1.trans ho2 (fun _ _ h => h)⟩

theorem loud_any (h : PG w p l d blk base recs op com view F G) (hm : MPAt w q uc pc um pm ub pb hist op H) (hoff : ∀ k, H k → ¬ (G k ∨ k = p)) (hk : MapOk (view.getD 0 emptyB)) (hs : SeesAll view uc pc) :
    Calls Tryz.prog 14 #[.pointer (some ⟨p, 0, none⟩), .pointer (some ⟨q, 0, none⟩)] w fun e w' => e = .returned (.bool true) ∧ PG w' p l d blk base recs op com view F G ∧ Only (fun k => G k ∨ k = p) w w' := by
  have C1 := hide (inner_any h hk)
  go_enter Tryz.func14, Tryz.ntmps14
  go_wp2_with fail
  refine (unhide C1).mono ?_
  rintro e w1 ⟨rfl, ho1⟩
  have C2 := hide (alike_any (h.quiet ho1) (hm.quiet ho1) hoff)
  go_wp2_with fail
  refine (unhide C2).mono ?_
  rintro e w2 ⟨⟨b, rfl, hb⟩, h2, ho2⟩
  obtain rfl : b = true := hb.2 hs
  have C3 := hide (inner_any h2 hk)
  clear hb
  go_wp2_with fail
  refine (unhide C3).mono ?_
  rintro e w3 ⟨rfl, ho3⟩
  go_wp2_with fail
  go_ret
  exact ⟨rfl, h2.quiet ho3, ((ho1.mono (fun _ _ h => h.elim)).trans ho2 (fun _ _ h => h)).trans ho3 (fun _ _ h => h.elim)⟩
end
end Go.Proofs.Qxb6500411aGreat
