/-
  OWN WORK. THE LAW's COMPARISONS: what looks at both sides.
-/
import Derived.Test.Qxb6500415aMLogN
import Derived.Test.Qxb6500415aWalInv
namespace Go.Proofs.Qxb6500415a
open Go.RowKit
set_option linter.unusedSimpArgs false
set_option linter.unusedVariables false

section
variable {w : World} {l d m : Nat} {op : Bool} {es : List (Nat × ByteArray)} {F G H : Nat → Prop} {blk base : List ByteArray} {recs : List (Nat × ByteArray)} {com cur : List ByteArray} {dirty : List Bool} {n : Nat} {mbase : List ByteArray} {hist : Option (List ByteArray)}

theorem beq_bb (b : Bool) : (b == b) = true := by cases b <;> rfl

theorem sameInTxn_any (hl : LogAt w l d op es G) (hm : MLogAt w m com cur dirty n op mbase hist H) :
    Calls Try.prog 55 #[.pointer (some ⟨l, 0, none⟩), .pointer (some ⟨m, 0, none⟩)] w fun e w' => e = .returned (.bool true) ∧ w = w' := by
  have C1 := hide (wintxn_any l d op es G w hl)
  have C2 := hide (mintxn_any hm)
  have hb := beq_bb op
  go_enter Try.func55, Try.ntmps55
  go_wp2_with fail
  refine (unhide C1).mono ?_
  rintro e w' ⟨rfl, rfl⟩
  go_wp2_with fail
  refine (unhide C2).mono ?_
  rintro e w' ⟨rfl, rfl⟩
  go_wp2_with fail
  go_ret
  exact ⟨by simp, rfl⟩

theorem samePending_any (hl : LogAt w l d op es G) (hm : MLogAt w m com cur dirty es.length op mbase hist H) :
    Calls Try.prog 56 #[.pointer (some ⟨l, 0, none⟩), .pointer (some ⟨m, 0, none⟩)] w fun e w' => e = .returned (.bool true) ∧ w = w' := by
  have C1 := hide (wpending_any l d op es G w hl)
  have C2 := hide (mpending_any hm)
  go_enter Try.func56, Try.ntmps56
  go_wp2_with fail
  refine (unhide C1).mono ?_
  rintro e w' ⟨rfl, rfl⟩
  go_wp2_with fail
  refine (unhide C2).mono ?_
  rintro e w' ⟨rfl, rfl⟩
  go_wp2_with fail
  go_ret
  exact ⟨by simp, rfl⟩

theorem sameDirty_any (hl : LogAt w l d op es G) (hm : MLogAt w m com cur dirty n op mbase hist H) (ht : Tells dirty es) (b : Int) :
    Calls Try.prog 58 #[.pointer (some ⟨l, 0, none⟩), .pointer (some ⟨m, 0, none⟩), .int .i64 b] w fun e w' => e = .returned (.bool true) ∧ w = w' := by
  have C1 := wdirty_any l d op es G b w hl
  have C2 : Calls Try.prog 76 #[.pointer (some ⟨m, 0, none⟩), .int .i64 b] w fun e w' => e = .returned (.bool (at? es b).isSome) ∧ w = w' := by
    by_cases hin : 0 ≤ b ∧ b < 80
    · obtain ⟨k, rfl⟩ := Int.eq_ofNat_of_zero_le hin.1
      have := mdirty_in hm k (by omega)
      rw [ht.dirt k (by omega)] at this
      exact this
    · have := mdirty_out m w b hin
      rw [at?_out ht.inn hin]
      exact this
  generalize (at? es b).isSome = q at *
  have C1 := hide C1
  have C2 := hide C2
  have hb := beq_bb q
  go_enter Try.func58, Try.ntmps58
  go_wp2_with fail
  refine (unhide C1).mono ?_
  rintro e w' ⟨rfl, rfl⟩
  go_wp2_with fail
  refine (unhide C2).mono ?_
  rintro e w' ⟨rfl, rfl⟩
  go_wp2_with fail
  go_ret
  exact ⟨by simp, rfl⟩

theorem whole_ok (x : ByteArray) (w : World) (hx : x.size = 128) :
    Calls Try.prog 75 #[.string x, .int .i64 0] w fun e w' => e = .returned (.bool true) ∧ w = w' := by
  have hx' : ((x.size : Int) == 128) = true := by simp [hx]
  go_enter Try.func75, Try.ntmps75
  go_wp2
  go_ret
  exact ⟨by simp [hx], rfl⟩

theorem whole_no (w : World) :
    Calls Try.prog 75 #[.string ⟨#[]⟩, .int .i64 1] w fun e w' => e = .returned (.bool true) ∧ w = w' := by
  go_enter Try.func75, Try.ntmps75
  go_wp2
  go_ret
  exact ⟨by simp, rfl⟩

theorem sameBlock_eq (x : ByteArray) (w : World) :
    Calls Try.prog 63 #[.string x, .string x] w fun e w' => e = .returned (.bool true) ∧ w = w' := by
  go_enter Try.func63, Try.ntmps63
  go_wp2
  go_ret
  exact ⟨by simp, rfl⟩

theorem sameRead_eq (hl : LogAt w l d op es G) (hd : DiskAt w d blk base recs F) (hm : MLogAt w m com cur dirty n op mbase hist H) (b : Nat) (hb : b < 80) (he : shown blk es b = cur.getD b emptyB) (hs : (shown blk es b).size = 128) :
    Calls Try.prog 57 #[.pointer (some ⟨l, 0, none⟩), .pointer (some ⟨m, 0, none⟩), .int .i64 b] w fun e w' => e = .returned (.bool true) ∧ w = w' := by
  have C1 := wread_in l d op es G blk base recs F b w hl hd hb
  have C2 := mread_in hm b hb
  rw [← he] at C2
  generalize shown blk es b = x at *
  have C1 := hide C1
  have C2 := hide C2
  have C3 := hide (whole_ok x w hs)
  have Hs := hide hs
  clear he hs
  go_enter Try.func57, Try.ntmps57
  go_wp2_with fail
  refine (unhide C1).mono ?_
  rintro e w' ⟨rfl, rfl⟩
  go_wp2_with fail
  refine (unhide C2).mono ?_
  rintro e w' ⟨rfl, rfl⟩
  go_wp2_with fail
  refine (unhide C3).mono ?_
  rintro e w' ⟨rfl, rfl⟩
  go_wp2_with fail
  go_ret
  exact ⟨by simp, rfl⟩

theorem sameRead_ne (hl : LogAt w l d op es G) (hd : DiskAt w d blk base recs F) (hm : MLogAt w m com cur dirty n op mbase hist H) (b : Nat) (hb : b < 80) (he : shown blk es b ≠ cur.getD b emptyB) :
    Calls Try.prog 57 #[.pointer (some ⟨l, 0, none⟩), .pointer (some ⟨m, 0, none⟩), .int .i64 b] w fun e w' => e = .returned (.bool false) ∧ w = w' := by
  have C1 := wread_in l d op es G blk base recs F b w hl hd hb
  have C2 := mread_in hm b hb
  generalize shown blk es b = x at *
  generalize cur.getD b emptyB = y at *
  have hq' := ba_ne he
  have C1 := hide C1
  have C2 := hide C2
  clear he
  go_enter Try.func57, Try.ntmps57
  go_wp2_with fail
  refine (unhide C1).mono ?_
  rintro e w' ⟨rfl, rfl⟩
  go_wp2_with fail
  refine (unhide C2).mono ?_
  rintro e w' ⟨rfl, rfl⟩
  go_wp2_with fail
  go_ret
  exact ⟨by simp, rfl⟩

theorem sameRead_out (l m : Nat) (w : World) (b : Int) (hb : ¬ (0 ≤ b ∧ b < 80)) :
    Calls Try.prog 57 #[.pointer (some ⟨l, 0, none⟩), .pointer (some ⟨m, 0, none⟩), .int .i64 b] w fun e w' => e = .returned (.bool true) ∧ w = w' := by
  have C1 := wread_out l b w hb
  have C2 := mread_out m w b hb
  unfold emptyB at C1 C2
  have C1 := hide C1
  have C2 := hide C2
  have C3 := hide (whole_no w)
  clear hb
  go_enter Try.func57, Try.ntmps57
  go_wp2_with fail
  refine (unhide C1).mono ?_
  rintro e w' ⟨rfl, rfl⟩
  go_wp2_with fail
  refine (unhide C2).mono ?_
  rintro e w' ⟨rfl, rfl⟩
  go_wp2_with fail
  refine (unhide C3).mono ?_
  rintro e w' ⟨rfl, rfl⟩
  go_wp2_with fail
  go_ret
  exact ⟨by simp, rfl⟩

set_option maxRecDepth 100000 in
set_option maxHeartbeats 1000000 in
theorem alike_any (hl : LogAt w l d op es G) (hd : DiskAt w d blk base recs F) (hm : MLogAt w m com cur dirty es.length op mbase hist H) (ht : Tells dirty es) (hs : ∀ b, b < 80 → (shown blk es b).size = 128) :
    Calls Try.prog 26 #[.pointer (some ⟨l, 0, none⟩), .pointer (some ⟨m, 0, none⟩)] w fun e w' => e = .returned (.bool (gotB blk es cur)) ∧ w = w' := by
  have C1 := hide (sameInTxn_any hl hm)
  have C2 := hide (samePending_any hl hm)
  have Ht := hide ht
  have Hs := hide hs
  clear ht hs
  go_enter Try.func26, Try.ntmps26
  go_wp2_with fail
  refine (unhide C1).mono ?_
  rintro e w' ⟨rfl, rfl⟩
  go_wp2_with fail
  refine (unhide C2).mono ?_
  rintro e w' ⟨rfl, rfl⟩
  go_wp2_with fail
  go_loop [5] (fun v => ∃ b : Int, -1 ≤ b ∧ b ≤ 81 ∧ v = .int .i64 b ∧ ∀ j : Nat, (j : Int) < b → j < 80 → shown blk es j = cur.getD j emptyB) (fun v => (81 - intOf v).toNat)
  case atStart => exact ⟨-1, by omega, by omega, rfl, fun j hj => by omega⟩
  case round =>
    obtain ⟨b, hb0, hb1, rfl, ha⟩ := hrel
    have Ha := hide ha
    clear ha
    have C3 := hide (sameDirty_any hl hm (unhide Ht) b)
    by_cases h81 : b = 81
    · subst h81
      have hfin : gotB blk es cur = true := by
        rw [gotB_iff]
        intro j hj
        exact unhide Ha j (by omega) hj
      have Hfin := hide hfin
      clear hfin
      go_wp2_with fail
      go_ret
      exact ⟨by rw [unhide Hfin]; rfl, rfl⟩
    · have hb80 : decide (b ≤ 80) = true := by simp; omega
      have C4 : (∃ _ : (∀ j : Nat, (j : Int) < b + 1 → j < 80 → shown blk es j = cur.getD j emptyB), Calls Try.prog 57 #[.pointer (some ⟨l, 0, none⟩), .pointer (some ⟨m, 0, none⟩), .int .i64 b] w fun e w' => e = .returned (.bool true) ∧ w = w') ∨
          (gotB blk es cur = false ∧ Calls Try.prog 57 #[.pointer (some ⟨l, 0, none⟩), .pointer (some ⟨m, 0, none⟩), .int .i64 b] w fun e w' => e = .returned (.bool false) ∧ w = w') := by
        by_cases hin : 0 ≤ b ∧ b < 80
        · obtain ⟨k, rfl⟩ := Int.eq_ofNat_of_zero_le hin.1
          have hk : k < 80 := by omega
          by_cases he : shown blk es k = cur.getD k emptyB
          · refine .inl ⟨fun j hj hj8 => ?_, sameRead_eq hl hd hm k hk he (unhide Hs k hk)⟩
            by_cases hjk : j = k
            · subst hjk; exact he
            · exact unhide Ha j (by omega) hj8
          · refine .inr ⟨?_, sameRead_ne hl hd hm k hk he⟩
            rw [← Bool.not_eq_true]
            intro h
            exact he ((gotB_iff _ _ _).1 h k hk)
        · exact .inl ⟨fun j hj hj8 => unhide Ha j (by omega) hj8, sameRead_out l m w b hin⟩
      rcases C4 with ⟨hnext, C4⟩ | ⟨hfin, C4⟩
      · have C4 := hide C4
        have Hnext := hide hnext
        clear hnext
        go_wp2_with fail
        refine (unhide C4).mono ?_
        rintro e w' ⟨rfl, rfl⟩
        go_wp2_with fail
        refine (unhide C3).mono ?_
        rintro e w' ⟨rfl, rfl⟩
        go_wp2_with fail
        go_round
        case rel => exact ⟨b + 1, by omega, by omega, by go_num, unhide Hnext⟩
        case measure => simp [intOf]; omega
      · have C4 := hide C4
        have Hfin := hide hfin
        clear hfin
        go_wp2_with fail
        refine (unhide C4).mono ?_
        rintro e w' ⟨rfl, rfl⟩
        go_wp2_with fail
        go_ret
        exact ⟨by rw [unhide Hfin]; rfl, rfl⟩
end

end Go.Proofs.Qxb6500415a
