/-
  OWN WORK. THE LAW's Play by kind; Quiet; Same.
-/
import Derived.Test.Qxb6500415aRPlay
import Derived.BigQuiet
import Derived.Deep.QuietTactic
namespace Go.Proofs.Qxb6500415a
open Go.RowKit
set_option linter.unusedSimpArgs false
set_option linter.unusedVariables false

section
variable {w : World} {l d m : Nat} {blk base : List ByteArray} {recs : List (Nat × ByteArray)} {op : Bool} {es : List (Nat × ByteArray)} {com cur : List ByteArray} {dirty : List Bool} {mbase : List ByteArray} {F G H : Nat → Prop}

set_option maxRecDepth 100000 in
set_option maxHeartbeats 1000000 in
theorem play_any (kind a b c : Int) (s t : ByteArray) (hs : s.size ≤ maxLen) (j0 : JM w l d m blk base recs op es com cur dirty mbase none F G H) (hrc : recs.length ≤ 100) :
    Calls Try.prog 28 #[.pointer (some ⟨l, 0, none⟩), .pointer (some ⟨m, 0, none⟩), .agg #[.int .i64 kind, .int .i64 a, .int .i64 b, .int .i64 c, .string s, .string t]] w fun e w' =>
      e = .returned (.bool true) ∧ RPost w l d m base mbase F G H blk recs op es com cur kind w' := by
  have o1 : Only (fun _ => False) w (w.alloc (.cells #[.int .i64 kind, .int .i64 a, .int .i64 b, .int .i64 c, .string s, .string t] 37)) := (Only.refl _ w).alloc _
  have j1 := j0.keep o1
  have J0 := hide j0
  clear j0
  by_cases hk : 1 ≤ kind ∧ kind ≤ 9
  · have hc : kind = 1 ∨ kind = 2 ∨ kind = 3 ∨ kind = 4 ∨ kind = 5 ∨ kind = 6 ∨ kind = 7 ∨ kind = 8 ∨ kind = 9 := by omega
    clear hk
    rcases hc with rfl | rfl | rfl | rfl | rfl | rfl | rfl | rfl | rfl
    · have C1 := hide (sameBegin_any (kind := 1) j1 (fun h => by omega))
      clear j1
      go_enter Try.func28, Try.ntmps28
      go_wp2_with fail
      refine (unhide C1).mono ?_
      rintro e w1 ⟨rfl, h1⟩
      go_wp2_with fail
      go_ret
      exact ⟨rfl, h1.pre o1⟩
    · have C1 := hide (sameRead_any a j1)
      clear j1
      go_enter Try.func28, Try.ntmps28
      go_wp2_with fail
      refine (unhide C1).mono ?_
      rintro e w1 ⟨rfl, rfl⟩
      go_wp2_with fail
      go_ret
      exact ⟨rfl, (unhide J0).same o1 (fun h => by omega)⟩
    · have C1 := hide (sameWrite_any (kind := 3) a s hs j1 (fun h => by omega))
      clear j1
      go_enter Try.func28, Try.ntmps28
      go_wp2_with fail
      refine (unhide C1).mono ?_
      rintro e w1 ⟨rfl, h1⟩
      go_wp2_with fail
      go_ret
      exact ⟨rfl, h1.pre o1⟩
    · have C1 := hide (sameCommit_any j1 hrc)
      clear j1
      go_enter Try.func28, Try.ntmps28
      go_wp2_with fail
      refine (unhide C1).mono ?_
      rintro e w1 ⟨rfl, h1⟩
      go_wp2_with fail
      go_ret
      exact ⟨rfl, h1.pre o1⟩
    · have C1 := hide (sameAbort_any (kind := 5) j1 (fun h => by omega))
      clear j1
      go_enter Try.func28, Try.ntmps28
      go_wp2_with fail
      refine (unhide C1).mono ?_
      rintro e w1 ⟨rfl, h1⟩
      go_wp2_with fail
      go_ret
      exact ⟨rfl, h1.pre o1⟩
    · have C1 := hide (sameDirty_any j1.lg j1.md j1.inv.tells a)
      clear j1
      go_enter Try.func28, Try.ntmps28
      go_wp2_with fail
      refine (unhide C1).mono ?_
      rintro e w1 ⟨rfl, rfl⟩
      go_wp2_with fail
      go_ret
      exact ⟨rfl, (unhide J0).same o1 (fun h => by omega)⟩
    · have C1 := hide (sameInTxn_any j1.lg j1.md)
      clear j1
      go_enter Try.func28, Try.ntmps28
      go_wp2_with fail
      refine (unhide C1).mono ?_
      rintro e w1 ⟨rfl, rfl⟩
      go_wp2_with fail
      go_ret
      exact ⟨rfl, (unhide J0).same o1 (fun h => by omega)⟩
    · have C1 := hide (samePending_any j1.lg j1.md)
      clear j1
      go_enter Try.func28, Try.ntmps28
      go_wp2_with fail
      refine (unhide C1).mono ?_
      rintro e w1 ⟨rfl, rfl⟩
      go_wp2_with fail
      go_ret
      exact ⟨rfl, (unhide J0).same o1 (fun h => by omega)⟩
    · have C1 := hide (wcheck_any l d op es G blk base recs F _ j1.lg j1.dk j1.inv.sz j1.inv.zero j1.inv.good)
      clear j1
      go_enter Try.func28, Try.ntmps28
      go_wp2_with fail
      refine (unhide C1).mono ?_
      rintro e w1 ⟨rfl, ho1⟩
      go_wp2_with fail
      go_ret
      exact ⟨rfl, (unhide J0).same (o1.trans ho1 (fun _ _ h => h)) (fun h => by omega)⟩
  · have k1 : (kind == 1) = false := ne_int (by omega)
    have k2 : (kind == 2) = false := ne_int (by omega)
    have k3 : (kind == 3) = false := ne_int (by omega)
    have k4 : (kind == 4) = false := ne_int (by omega)
    have k5 : (kind == 5) = false := ne_int (by omega)
    have k6 : (kind == 6) = false := ne_int (by omega)
    have k7 : (kind == 7) = false := ne_int (by omega)
    have k8 : (kind == 8) = false := ne_int (by omega)
    have k9 : (kind == 9) = false := ne_int (by omega)
    have hk4 : kind = 4 → op = false := fun h => by omega
    clear hk j1
    go_enter Try.func28, Try.ntmps28
    go_wp2_with fail
    go_ret
    exact ⟨rfl, (unhide J0).same o1 hk4⟩

theorem commitAll_len (h72 : es.length ≤ 72) (hin : ∀ e ∈ es, e.1 < 80) (hne : es ≠ []) : (commitAll blk es).length = 2 * es.length + 2 := by
  unfold commitAll
  rw [if_neg hne, commitRecs, List.length_append, installRecs, logged_header _ (by simpa using h72) (by intro n hn; simp only [List.mem_map] at hn; obtain ⟨e, he, rfl⟩ := hn; exact hin e he)]
  simp [headRecs]
  omega

set_option maxRecDepth 100000 in
set_option maxHeartbeats 1000000 in
theorem quiet_any (kind a b c : Int) (s t : ByteArray) (n : Nat) (hn : n ≤ 100) (hd : DiskAt w d blk base recs F) (hq : (kind = 4 ∧ 0 < n ∧ recs.length = 2 * n + 2) ∨ (¬ (kind = 4 ∧ 0 < n) ∧ recs.length = 0)) :
    Calls Try.prog 30 #[.agg #[.pointer (some ⟨d, 0, none⟩)], .agg #[.int .i64 kind, .int .i64 a, .int .i64 b, .int .i64 c, .string s, .string t], .int .i64 n] w fun e w' =>
      e = .returned (.bool true) ∧ Only (fun _ => False) w w' := by
  have o1 : Only (fun _ => False) w ((w.alloc (.cells #[.pointer (some ⟨d, 0, none⟩)] 29)).alloc (.cells #[.int .i64 kind, .int .i64 a, .int .i64 b, .int .i64 c, .string s, .string t] 37)) := ((Only.refl _ w).alloc _).alloc _
  have C1 := steps_any d blk base recs F _ (hd.keep o1 (fun _ _ h => h))
  have hlt : w.heap.size < w.heap.size + 1 := by omega
  rcases hq with ⟨rfl, h0, hr⟩ | ⟨hno, hr⟩
  · rw [hr] at C1
    have C1 := hide C1
    clear hr
    go_enter Try.func30, Try.ntmps30
    go_wp2_with fail
    refine (unhide C1).mono ?_
    rintro e w1 ⟨rfl, ho1⟩
    go_wp2_with fail
    go_ret
    exact ⟨by simp, o1.trans ho1 (fun _ _ h => h)⟩
  · rw [hr] at C1
    have C1 := hide C1
    clear hr
    by_cases h4 : kind = 4
    · subst h4
      obtain rfl : n = 0 := by omega
      clear hno
      go_enter Try.func30, Try.ntmps30
      go_wp2_with fail
      refine (unhide C1).mono ?_
      rintro e w1 ⟨rfl, ho1⟩
      go_wp2_with fail
      go_ret
      exact ⟨by simp, o1.trans ho1 (fun _ _ h => h)⟩
    · have h4' : (kind == 4) = false := ne_int h4
      clear h4 hno
      go_enter Try.func30, Try.ntmps30
      go_wp2_with fail
      refine (unhide C1).mono ?_
      rintro e w1 ⟨rfl, ho1⟩
      go_wp2_with fail
      go_ret
      exact ⟨by simp, o1.trans ho1 (fun _ _ h => h)⟩
end

set_option maxRecDepth 100000 in
set_option maxHeartbeats 1000000 in
theorem same_any {w : World} {d d' : Nat} {blk base base' : List ByteArray} {recs recs' : List (Nat × ByteArray)} {F F' : Nat → Prop} (hd : DiskAt w d blk base recs F) (hd' : DiskAt w d' blk base' recs' F') :
    Calls Try.prog 31 #[.agg #[.pointer (some ⟨d, 0, none⟩)], .agg #[.pointer (some ⟨d', 0, none⟩)]] w fun e w' => e = .returned (.bool true) ∧ Only (fun _ => False) w w' := by
  have o1 : Only (fun _ => False) w ((w.alloc (.cells #[.pointer (some ⟨d, 0, none⟩)] 29)).alloc (.cells #[.pointer (some ⟨d', 0, none⟩)] 29)) := ((Only.refl _ w).alloc _).alloc _
  have e1 := hd.keep o1 (fun _ _ h => h)
  have e2 := hd'.keep o1 (fun _ _ h => h)
  have k1 := (Has.new w #[.pointer (some ⟨d, 0, none⟩)] 29).alloc (.cells #[.pointer (some ⟨d', 0, none⟩)] 29)
  have k2 : Has ((w.alloc (.cells #[.pointer (some ⟨d, 0, none⟩)] 29)).alloc (.cells #[.pointer (some ⟨d', 0, none⟩)] 29)) (w.heap.size + 1) #[.pointer (some ⟨d', 0, none⟩)] 29 := Has.new' _ _ _ _ (by simp)
  have c1 := k1.cell 0
  have c2 := k2.cell 0
  go_enter Try.func31, Try.ntmps31
  go_wp2_with fail
  generalize ((w.alloc (.cells #[.pointer (some ⟨d, 0, none⟩)] 29)).alloc (.cells #[.pointer (some ⟨d', 0, none⟩)] 29)) = w1 at *
  go_loop [5] (fun v => ∃ k : Nat, k ≤ 153 ∧ v = .int .i64 k) (fun v => (153 - intOf v).toNat)
  case atStart => exact ⟨0, by omega, rfl⟩
  case round =>
    obtain ⟨k, hk, rfl⟩ := hrel
    by_cases hk8 : k < 153
    · have C1 := dread_any d blk base recs F k w1 e1 hk8
      have C2 := dread_any d' blk base' recs' F' k w1 e2 hk8
      generalize blk.getD k emptyB = x at *
      have C1 := hide C1
      have C2 := hide C2
      have C3 := hide (sameBlock_eq x w1)
      go_wp2_with fail
      refine (unhide C1).mono ?_
      rintro e w' ⟨rfl, rfl⟩
      go_wp2_with fail
      refine (unhide C2).mono ?_
      rintro e w' ⟨rfl, rfl⟩
      go_wp2_with fail
      refine (unhide C3).mono ?_
      rintro e w' ⟨rfl, rfl⟩
      go_wp2_with fail
      go_round
      case rel => exact ⟨k + 1, by omega, by go_num⟩
      case measure => simp [intOf]; omega
    · obtain rfl : k = 153 := by omega
      go_wp2_with fail
      go_ret
      exact ⟨rfl, o1⟩

end Go.Proofs.Qxb6500415a
