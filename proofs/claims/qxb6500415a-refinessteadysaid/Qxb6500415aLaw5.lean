/-
  OWN WORK. KeepStep: the kinds that look; Abort; Commit.
-/
import Derived.Test.Qxb6500415aLaw4
import Derived.Deep.RegionWith
namespace Go.Proofs.Qxb6500415a
open Go.RowKit
set_option linter.unusedSimpArgs false
set_option linter.unusedVariables false
section
variable {w : World} {l d g : Nat} {blk base : List ByteArray} {recs : List (Nat × ByteArray)} {op : Bool} {es : List (Nat × ByteArray)} {com was cur : List ByteArray} {dirty : List Bool} {F G H : Nat → Prop}

theorem beq_self_b (b : Bool) : (b == b) = true := by cases b <;> rfl

set_option maxRecDepth 100000 in
set_option maxHeartbeats 1000000 in
theorem keep_read (a b c : Int) (s t : ByteArray) (j0 : Joint w l d g blk base recs op es com was cur dirty F G H) :
    Calls Try.prog 16 #[.pointer (some ⟨l, 0, none⟩), .pointer (some ⟨g, 0, none⟩), .agg #[.int .i64 2, .int .i64 a, .int .i64 b, .int .i64 c, .string s, .string t]] w fun e w' =>
      e = .returned (.bool true) ∧ KPost w l d g base was F G H blk recs op es com cur 2 w' := by
  have o1 : Only (fun _ => False) w (w.alloc (.cells #[.int .i64 2, .int .i64 a, .int .i64 b, .int .i64 c, .string s, .string t] 37)) := (Only.refl _ w).alloc _
  have j1 := j0.keep o1
  by_cases hin : 0 ≤ a ∧ a < 80
  · obtain ⟨n, rfl⟩ := Int.eq_ofNat_of_zero_le hin.1
    have hn : n < 80 := by omega
    have C1 := wread_in l d op es G blk base recs F n _ j1.lg j1.dk hn
    have hc := j0.inv.curs n hn
    rw [hc] at C1
    have C1 := hide C1
    have hlt := j0.gh.inn
    obtain ⟨⟨b0, b1, b2, b3, h1, h2, h3, h4, h5, n1, n2, n3, f0, f1, f2, f3, f4⟩, l0, l1, l2, l3, hi⟩ := hide j0.gh
    have q1 := (h1.alloc (.cells #[.int .i64 2, .int .i64 n, .int .i64 b, .int .i64 c, .string s, .string t] 37)).cell 2
    have q2 := (h4.alloc (.cells #[.int .i64 2, .int .i64 n, .int .i64 b, .int .i64 c, .string s, .string t] 37)).cell n
    rw [strs_get _ _ (by omega)] at q2
    have hg : cur.getD n emptyB = cur[n] := by simp [List.getD_eq_getElem?_getD, l2, hn]
    rw [hg] at C1
    have hneg : decide ((n : Int) < 0) = false := by simp
    have hge : decide (80 ≤ (n : Int)) = false := by simp; omega
    have hg1 := h1.lt
    have hg4 := h4.lt
    have hb8 : (n : Int) < 80 := by omega
    clear hc hg
    generalize cur[n] = x at *
    go_enter Try.func16, Try.ntmps16
    go_wp2_with fail
    refine (unhide C1).mono ?_
    rintro e w1 ⟨rfl, rfl⟩
    go_wp2_with fail
    go_quiet (fail)
    go_wp2_with fail
    go_ret
    exact ⟨by simp, j0.same (o1.drewN _)⟩
  · have C1 := hide (wread_out l a (w.alloc (.cells #[.int .i64 2, .int .i64 a, .int .i64 b, .int .i64 c, .string s, .string t] 37)) hin)
    by_cases h0 : a < 0
    · have h0' : decide (a < 0) = true := by simpa using h0
      go_enter Try.func16, Try.ntmps16
      go_wp2_with fail
      refine (unhide C1).mono ?_
      unfold emptyB
      rintro e w1 ⟨rfl, rfl⟩
      go_wp2_with fail
      go_ret
      exact ⟨by simp, j0.same o1⟩
    · have h0' : decide (a < 0) = false := by simpa using h0
      have h8 : 80 ≤ a := by omega
      go_enter Try.func16, Try.ntmps16
      go_wp2_with fail
      refine (unhide C1).mono ?_
      unfold emptyB
      rintro e w1 ⟨rfl, rfl⟩
      go_wp2_with fail
      go_ret
      exact ⟨by simp, j0.same o1⟩

set_option maxRecDepth 100000 in
set_option maxHeartbeats 1000000 in
theorem keep_dirty (a b c : Int) (s t : ByteArray) (j0 : Joint w l d g blk base recs op es com was cur dirty F G H) :
    Calls Try.prog 16 #[.pointer (some ⟨l, 0, none⟩), .pointer (some ⟨g, 0, none⟩), .agg #[.int .i64 6, .int .i64 a, .int .i64 b, .int .i64 c, .string s, .string t]] w fun e w' =>
      e = .returned (.bool true) ∧ KPost w l d g base was F G H blk recs op es com cur 6 w' := by
  have o1 : Only (fun _ => False) w (w.alloc (.cells #[.int .i64 6, .int .i64 a, .int .i64 b, .int .i64 c, .string s, .string t] 37)) := (Only.refl _ w).alloc _
  have j1 := j0.keep o1
  have C1 := wdirty_any l d op es G a _ j1.lg
  by_cases hin : 0 ≤ a ∧ a < 80
  · obtain ⟨n, rfl⟩ := Int.eq_ofNat_of_zero_le hin.1
    have hn : n < 80 := by omega
    have C1 := hide C1
    obtain ⟨⟨b0, b1, b2, b3, h1, h2, h3, h4, h5, n1, n2, n3, f0, f1, f2, f3, f4⟩, l0, l1, l2, l3, hi⟩ := hide j0.gh
    have q1 := (h1.alloc (.cells #[.int .i64 6, .int .i64 n, .int .i64 b, .int .i64 c, .string s, .string t] 37)).cell 3
    have q2 := (h5.alloc (.cells #[.int .i64 6, .int .i64 n, .int .i64 b, .int .i64 c, .string s, .string t] 37)).cell n
    rw [bools_get _ _ (by omega)] at q2
    have hg : dirty.getD n false = dirty[n] := by simp [List.getD_eq_getElem?_getD, l3, hn]
    have hd := j0.inv.dirt n hn
    rw [hg] at hd
    rw [hd] at q2
    have hneg : decide ((n : Int) < 0) = false := by simp
    have hge : decide (80 ≤ (n : Int)) = false := by simp; omega
    have hg1 := h1.lt
    have hg4 := h5.lt
    have hb8 : (n : Int) < 80 := by omega
    clear hd hg
    generalize (at? es (n : Int)).isSome = x at *
    have hxx := beq_self_b x
    go_enter Try.func16, Try.ntmps16
    go_wp2_with fail
    refine (unhide C1).mono ?_
    rintro e w1 ⟨rfl, rfl⟩
    go_wp2_with fail
    go_quiet (fail)
    go_wp2_with fail
    go_ret
    exact ⟨by simp, j0.same (o1.drewN _)⟩
  · rw [at?_out j0.inv.good.inn hin] at C1
    have C1 := hide C1
    by_cases h0 : a < 0
    · have h0' : decide (a < 0) = true := by simpa using h0
      go_enter Try.func16, Try.ntmps16
      go_wp2_with fail
      refine (unhide C1).mono ?_
      rintro e w1 ⟨rfl, rfl⟩
      go_wp2_with fail
      go_ret
      exact ⟨by simp, j0.same o1⟩
    · have h0' : decide (a < 0) = false := by simpa using h0
      have h8 : 80 ≤ a := by omega
      go_enter Try.func16, Try.ntmps16
      go_wp2_with fail
      refine (unhide C1).mono ?_
      rintro e w1 ⟨rfl, rfl⟩
      go_wp2_with fail
      go_ret
      exact ⟨by simp, j0.same o1⟩

set_option maxRecDepth 100000 in
set_option maxHeartbeats 1000000 in
theorem keep_intxn (a b c : Int) (s t : ByteArray) (j0 : Joint w l d g blk base recs op es com was cur dirty F G H) :
    Calls Try.prog 16 #[.pointer (some ⟨l, 0, none⟩), .pointer (some ⟨g, 0, none⟩), .agg #[.int .i64 7, .int .i64 a, .int .i64 b, .int .i64 c, .string s, .string t]] w fun e w' =>
      e = .returned (.bool true) ∧ KPost w l d g base was F G H blk recs op es com cur 7 w' := by
  have o1 : Only (fun _ => False) w (w.alloc (.cells #[.int .i64 7, .int .i64 a, .int .i64 b, .int .i64 c, .string s, .string t] 37)) := (Only.refl _ w).alloc _
  have j1 := j0.keep o1
  have C1 := hide (wintxn_any l d op es G _ j1.lg)
  obtain ⟨⟨b0, b1, b2, b3, h1, h2, h3, h4, h5, n1, n2, n3, f0, f1, f2, f3, f4⟩, l0, l1, l2, l3, hi⟩ := hide j1.gh
  have q1 := h1.cell 5
  have hxx := beq_self_b op
  go_enter Try.func16, Try.ntmps16
  go_wp2_with fail
  refine (unhide C1).mono ?_
  rintro e w1 ⟨rfl, rfl⟩
  go_wp2_with fail
  go_ret
  exact ⟨by simp, j0.same o1⟩

set_option maxRecDepth 100000 in
set_option maxHeartbeats 1000000 in
theorem keep_pend (a b c : Int) (s t : ByteArray) (j0 : Joint w l d g blk base recs op es com was cur dirty F G H) :
    Calls Try.prog 16 #[.pointer (some ⟨l, 0, none⟩), .pointer (some ⟨g, 0, none⟩), .agg #[.int .i64 8, .int .i64 a, .int .i64 b, .int .i64 c, .string s, .string t]] w fun e w' =>
      e = .returned (.bool true) ∧ KPost w l d g base was F G H blk recs op es com cur 8 w' := by
  have o1 : Only (fun _ => False) w (w.alloc (.cells #[.int .i64 8, .int .i64 a, .int .i64 b, .int .i64 c, .string s, .string t] 37)) := (Only.refl _ w).alloc _
  have j1 := j0.keep o1
  have C1 := hide (wpending_any l d op es G _ j1.lg)
  obtain ⟨⟨b0, b1, b2, b3, h1, h2, h3, h4, h5, n1, n2, n3, f0, f1, f2, f3, f4⟩, l0, l1, l2, l3, hi⟩ := hide j1.gh
  have q1 := h1.cell 4
  go_enter Try.func16, Try.ntmps16
  go_wp2_with fail
  refine (unhide C1).mono ?_
  rintro e w1 ⟨rfl, rfl⟩
  go_wp2_with fail
  go_ret
  exact ⟨by simp, j0.same o1⟩

set_option maxRecDepth 100000 in
set_option maxHeartbeats 1000000 in
theorem keep_check (a b c : Int) (s t : ByteArray) (j0 : Joint w l d g blk base recs op es com was cur dirty F G H) :
    Calls Try.prog 16 #[.pointer (some ⟨l, 0, none⟩), .pointer (some ⟨g, 0, none⟩), .agg #[.int .i64 9, .int .i64 a, .int .i64 b, .int .i64 c, .string s, .string t]] w fun e w' =>
      e = .returned (.bool true) ∧ KPost w l d g base was F G H blk recs op es com cur 9 w' := by
  have o1 : Only (fun _ => False) w (w.alloc (.cells #[.int .i64 9, .int .i64 a, .int .i64 b, .int .i64 c, .string s, .string t] 37)) := (Only.refl _ w).alloc _
  have j1 := j0.keep o1
  have C1 := hide (wcheck_any l d op es G blk base recs F _ j1.lg j1.dk j0.inv.sz j0.inv.zero j0.inv.good)
  go_enter Try.func16, Try.ntmps16
  go_wp2_with fail
  refine (unhide C1).mono ?_
  rintro e w1 ⟨rfl, ho1⟩
  go_wp2_with fail
  go_ret
  exact ⟨by simp, j0.same (o1.trans ho1 (fun _ _ h => h))⟩

set_option maxRecDepth 100000 in
set_option maxHeartbeats 1000000 in
theorem keep_other (kind a b c : Int) (s t : ByteArray) (j0 : Joint w l d g blk base recs op es com was cur dirty F G H) (hk : ¬ (1 ≤ kind ∧ kind ≤ 9)) :
    Calls Try.prog 16 #[.pointer (some ⟨l, 0, none⟩), .pointer (some ⟨g, 0, none⟩), .agg #[.int .i64 kind, .int .i64 a, .int .i64 b, .int .i64 c, .string s, .string t]] w fun e w' =>
      e = .returned (.bool true) ∧ KPost w l d g base was F G H blk recs op es com cur kind w' := by
  have o1 : Only (fun _ => False) w (w.alloc (.cells #[.int .i64 kind, .int .i64 a, .int .i64 b, .int .i64 c, .string s, .string t] 37)) := (Only.refl _ w).alloc _
  have k1 : (kind == 1) = false := ne_int (by omega)
  have k2 : (kind == 2) = false := ne_int (by omega)
  have k3 : (kind == 3) = false := ne_int (by omega)
  have k4 : (kind == 4) = false := ne_int (by omega)
  have k5 : (kind == 5) = false := ne_int (by omega)
  have k6 : (kind == 6) = false := ne_int (by omega)
  have k7 : (kind == 7) = false := ne_int (by omega)
  have k8 : (kind == 8) = false := ne_int (by omega)
  have k9 : (kind == 9) = false := ne_int (by omega)
  clear hk
  go_enter Try.func16, Try.ntmps16
  go_wp2_with fail
  go_ret
  exact ⟨by simp, j0.same o1⟩

end
end Go.Proofs.Qxb6500415a
