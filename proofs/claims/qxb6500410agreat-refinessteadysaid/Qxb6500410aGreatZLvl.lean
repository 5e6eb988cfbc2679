/-
  OWN WORK. THE B-TREE LAW: Level, OneStep, Play.
-/
import Derived.Test.Qxb6500410aGreatZThr
import Derived.Test.Qxb6500410aGreatZPl
import Derived.Test.Qxb6500410aGreatZCr
namespace Go.Proofs.Qxb6500410aGreat
open Go.RowKit Go.PlainAid
set_option linter.unusedSimpArgs false
set_option linter.unusedVariables false

section
variable {q : Gnd} {w w' : World} {op : Bool} {vw : List ByteArray} {S T U : Vu} {z : Nat} {hist : Option Vu} {H : Nat → Prop}
/-- Check answers true over every good forest, and turns no page. -/
def CheckOk : Prop := ∀ (q : Gnd) (w : World) (op : Bool) (vw : List ByteArray) (S : Vu), FW q w op vw S → Calls Tryz.prog 54 #[.pointer (some ⟨q.f, 0, none⟩)] w fun e w' => e = .returned (.bool true) ∧ FW q w' op vw S ∧ Only q.S w w'
/-- The observers that look below, or through a second handle. -/
structure LvI (q : Gnd) (w0 : World) (op : Bool) (vw : List ByteArray) (S T U : Vu) (z : Nat) (hist : Option Vu) (H : Nat → Prop) (b : Nat) (w : World) : Prop where
  a : FW q w op vw S
  m : ZAt w z S T U hist op H
  bx : Has w b #[.pointer (some ⟨q.d, 0, none⟩), .pointer (some ⟨q.p, 0, none⟩)] 31
  o : Only q.S w0 w
theorem LvI.go {w0 w1 : World} {b : Nat} (h : LvI q w0 op vw S T U z hist H b w) (sep : ∀ k, H k → ¬ q.S k) (hb : ¬ q.S b) (A : FW q w1 op vw S) (o : Only q.S w w1) : LvI q w0 op vw S T U z hist H b w1 := ⟨A, h.m.keep o sep, h.bx.keep o hb, h.o.qt o⟩
set_option maxRecDepth 100000 in
set_option maxHeartbeats 4000000 in
theorem level_any (ck : CheckOk) (A : FW q w op vw S) (Z : ZAt w z S T U hist op H) (sep : ∀ k, H k → ¬ q.S k) (quiet : Bool) : Calls Tryz.prog 22 #[gbV q.d q.p, .pointer (some ⟨q.f, 0, none⟩), .pointer (some ⟨z, 0, none⟩), .bool quiet] w fun e w' => e = .returned (.bool true) ∧ FW q w' op vw S ∧ Only q.S w w' := by
  have o0 : Only (fun _ => False) w (w.alloc (.cells #[.pointer (some ⟨q.d, 0, none⟩), .pointer (some ⟨q.p, 0, none⟩)] 31)) := (Only.refl _ w).alloc _
  have L0 : LvI q w op vw S T U z hist H w.heap.size (w.alloc (.cells #[.pointer (some ⟨q.d, 0, none⟩), .pointer (some ⟨q.p, 0, none⟩)] 31)) := ⟨A.quiet o0, Z.quiet o0, Has.new _ _ _, o0.up⟩
  have nb : ¬ q.S w.heap.size := A.nS (Nat.le_refl _)
  unfold gbV
  go_enter Tryz.func22, Tryz.ntmps22
  go_upto_region 1 with fail
  generalize w.alloc (.cells #[.pointer (some ⟨q.d, 0, none⟩), .pointer (some ⟨q.p, 0, none⟩)] 31) = w0 at *
  clear o0
  cases quiet with
  | false =>
    have C1 := hide (alikeB_any L0.a L0.m sep)
    have H0 := hide L0
    clear L0
    go_wp2_with fail
    refine (unhide C1).mono ?_
    rintro e w1 ⟨b, rfl, hb, A1, o1⟩
    obtain rfl := hb.mpr (by first | exact ⟨rfl, rfl⟩ | trivial | simp)
    have L1 := (unhide H0).go sep nb A1 o1
    have C2 := hide (ck _ _ _ _ _ L1.a)
    have H1 := hide L1
    clear L1 A1 o1 hb C1 H0
    go_wp2_with fail
    refine (unhide C2).mono ?_
    rintro e w2 ⟨rfl, A2, o2⟩
    have L2 := (unhide H1).go sep nb A2 o2
    clear A2 o2 C2 H1
    have C3 := thrift_any L2.a L2.m sep
    unfold gbV at C3
    have C3 := hide C3
    have c0 := L2.bx.cell 0
    have c1 := L2.bx.cell 1
    simp at c0 c1
    have H2 := hide L2
    clear L2
    go_wp2_with fail
    refine (unhide C3).mono ?_
    rintro e w3 ⟨rfl, A3, o3⟩
    have L3 := (unhide H2).go sep nb A3 o3
    have C4 := bracket_any L3.a L3.m
    unfold gbV at C4
    have C4 := hide C4
    clear c0 c1
    have c0 := L3.bx.cell 0
    have c1 := L3.bx.cell 1
    simp at c0 c1
    have H3 := hide L3
    clear L3 A3 o3 C3 H2
    go_wp2_with fail
    refine (unhide C4).mono ?_
    rintro e w4 ⟨rfl, o4⟩
    have L4 := (unhide H3).go sep nb ((unhide H3).a.quiet o4) o4.up
    have C5 := stateless_any L4.a L4.m sep
    unfold gbV at C5
    have C5 := hide C5
    clear c0 c1
    have c0 := L4.bx.cell 0
    have c1 := L4.bx.cell 1
    simp at c0 c1
    have H4 := hide L4
    clear L4 o4 C4 H3
    go_wp2_with fail
    refine (unhide C5).mono ?_
    rintro e w5 ⟨rfl, A5, o5⟩
    have FF := hide (And.intro A5 ((unhide H4).o.qt o5))
    clear A5 o5 C5 c0 c1
    go_wp2_with fail
    go_ret
    exact ⟨by first | rfl | trivial, unhide FF⟩
  | true =>
    have L2 := L0
    clear L0
    generalize w0 = w2 at *
    have C3 := thrift_any L2.a L2.m sep
    unfold gbV at C3
    have C3 := hide C3
    have c0 := L2.bx.cell 0
    have c1 := L2.bx.cell 1
    simp at c0 c1
    have H2 := hide L2
    clear L2
    go_wp2_with fail
    refine (unhide C3).mono ?_
    rintro e w3 ⟨rfl, A3, o3⟩
    have L3 := (unhide H2).go sep nb A3 o3
    have C4 := bracket_any L3.a L3.m
    unfold gbV at C4
    have C4 := hide C4
    clear c0 c1
    have c0 := L3.bx.cell 0
    have c1 := L3.bx.cell 1
    simp at c0 c1
    have H3 := hide L3
    clear L3 A3 o3 C3 H2
    go_wp2_with fail
    refine (unhide C4).mono ?_
    rintro e w4 ⟨rfl, o4⟩
    have L4 := (unhide H3).go sep nb ((unhide H3).a.quiet o4) o4.up
    have C5 := stateless_any L4.a L4.m sep
    unfold gbV at C5
    have C5 := hide C5
    clear c0 c1
    have c0 := L4.bx.cell 0
    have c1 := L4.bx.cell 1
    simp at c0 c1
    have H4 := hide L4
    clear L4 o4 C4 H3
    go_wp2_with fail
    refine (unhide C5).mono ?_
    rintro e w5 ⟨rfl, A5, o5⟩
    have FF := hide (And.intro A5 ((unhide H4).o.qt o5))
    clear A5 o5 C5 c0 c1
    go_wp2_with fail
    go_ret
    exact ⟨by first | rfl | trivial, unhide FF⟩
set_option maxRecDepth 100000 in
theorem oneStep_any (n : Nat) (ok oa ob oc : Int) (os ot : ByteArray) (o : Bool) (h : n = 0 ∨ (ok = 2 ∧ o = true ∧ n ≤ 146)) (w : World) : Calls Tryz.prog 26 #[.int .i64 n, .agg #[.int .i64 ok, .int .i64 oa, .int .i64 ob, .int .i64 oc, .string os, .string ot], .bool o] w fun e w' => e = .returned (.bool true) ∧ Only (fun _ => False) w w' := by
  have o0 : Only (fun _ => False) w (w.alloc (.cells #[.int .i64 ok, .int .i64 oa, .int .i64 ob, .int .i64 oc, .string os, .string ot] 42)) := (Only.refl _ w).alloc _
  by_cases h0 : n = 0
  · have b0 : ((n : Int) == 0) = true := by simp; omega
    go_enter Tryz.func26, Tryz.ntmps26
    go_wp2_with fail
    go_ret
    exact ⟨by first | rfl | trivial, o0⟩
  · have b0 : ((n : Int) == 0) = false := by simp; omega
    obtain ⟨rfl, rfl, h3⟩ : ok = 2 ∧ o = true ∧ n ≤ 146 := by
      rcases h with h | h
      · exact absurd h h0
      · exact h
    have b3 : decide ((n : Int) ≤ 146) = true := decide_eq_true (by omega)
    have CM : ∀ w, Calls Tryz.prog 71 #[] w fun e w' => e = .returned (.int .i64 146) ∧ w = w' := fun w => by
      go_enter Tryz.func71, Tryz.ntmps71
      go_wp2_with fail
      go_ret
      exact ⟨rfl, rfl⟩
    have CM := hide CM
    clear h h0
    go_enter Tryz.func26, Tryz.ntmps26
    go_wp2_with fail
    refine (unhide CM _).mono ?_
    rintro e w1 ⟨rfl, rfl⟩
    go_wp2_with fail
    go_ret
    exact ⟨by first | rfl | trivial, o0⟩
/-- Whatever the op: what it leaves. -/
def cmB (ok : Int) (op : Bool) : Bool := decide (ok = 2) && op
theorem ZSt.from {lo : Nat} {w0 : World} {cm : Bool} {q' : Gnd} {op' : Bool} {S' T' : Vu} {hist' : Option Vu} {H' : Nat → Prop} (h : ZSt lo w q z U H cm q' op' S' T' hist' H' w') (o : Only (fun _ => False) w0 w) : ZSt lo w0 q z U H cm q' op' S' T' hist' H' w' := by
  have s := o.size
  exact ⟨h.j, h.qs, h.cm, fun k hk => (h.nA k hk).imp id (fun c => by omega), fun k hk => (h.nH k hk).imp id (fun c => by omega), (o.mono (fun _ _ h => h.elim)).trans h.o (fun _ _ h => h)⟩
set_option maxRecDepth 100000 in
set_option maxHeartbeats 8000000 in
theorem play_anyB (ck : CheckOk) {lo : Nat} (J : ZJ lo w q z op S T U none H) (hrc : q.recs.length ≤ 100) (ok oa ob oc : Int) (os ot : ByteArray) : Calls Tryz.prog 25 #[.pointer (some ⟨q.f, 0, none⟩), .pointer (some ⟨z, 0, none⟩), .agg #[.int .i64 ok, .int .i64 oa, .int .i64 ob, .int .i64 oc, .string os, .string ot]] w (ZR lo w q z U H (cmB ok op)) := by
  have o0 : Only (fun _ => False) w (w.alloc (.cells #[.int .i64 ok, .int .i64 oa, .int .i64 ob, .int .i64 oc, .string os, .string ot] 42)) := (Only.refl _ w).alloc _
  have J0 := J.quiet o0
  by_cases h1 : ok = 1
  · subst h1
    have C : Calls Tryz.prog 58 #[.pointer (some ⟨q.f, 0, none⟩), .pointer (some ⟨z, 0, none⟩)] (w.alloc (.cells #[.int .i64 1, .int .i64 oa, .int .i64 ob, .int .i64 oc, .string os, .string ot] 42)) (ZR lo (w.alloc (.cells #[.int .i64 1, .int .i64 oa, .int .i64 ob, .int .i64 oc, .string os, .string ot] 42)) q z U H false) := by
      cases op with
      | true => exact sameBegin_openP J0
      | false => exact sameBegin_shutP J0
    have C := hide C
    have HO := hide o0
    clear o0 J0
    go_enter Tryz.func25, Tryz.ntmps25
    go_wp2_with fail
    refine (unhide C).mono ?_
    rintro e w1 ⟨rfl, q', op', S', T', hist', H', h1⟩
    have FF := hide h1
    clear h1 C
    go_wp2_with fail
    go_ret
    exact ⟨by first | rfl | trivial, q', op', S', T', hist', H', ((unhide FF).from (unhide HO)).wide⟩
  have b1 : (ok == 1) = false := tne h1
  by_cases h2 : ok = 2
  · subst h2
    have C : Calls Tryz.prog 59 #[.pointer (some ⟨q.f, 0, none⟩), .pointer (some ⟨z, 0, none⟩)] (w.alloc (.cells #[.int .i64 2, .int .i64 oa, .int .i64 ob, .int .i64 oc, .string os, .string ot] 42)) (ZR lo (w.alloc (.cells #[.int .i64 2, .int .i64 oa, .int .i64 ob, .int .i64 oc, .string os, .string ot] 42)) q z U H op) := by
      cases op with
      | true => exact sameCommit_openP J0 hrc
      | false => exact sameCommit_shutP J0
    have C := hide C
    have HO := hide o0
    clear o0 J0
    go_enter Tryz.func25, Tryz.ntmps25
    go_wp2_with fail
    refine (unhide C).mono ?_
    rintro e w1 ⟨rfl, q', op', S', T', hist', H', h1⟩
    have FF := hide h1
    clear h1 C
    go_wp2_with fail
    go_ret
    exact ⟨by first | rfl | trivial, q', op', S', T', hist', H', by (have e : cmB 2 op = op := by (unfold cmB; simp)); rw [e]; exact (unhide FF).from (unhide HO)⟩
  have b2 : (ok == 2) = false := tne h2
  by_cases h3 : ok = 3
  · subst h3
    have C : Calls Tryz.prog 60 #[.pointer (some ⟨q.f, 0, none⟩), .pointer (some ⟨z, 0, none⟩)] (w.alloc (.cells #[.int .i64 3, .int .i64 oa, .int .i64 ob, .int .i64 oc, .string os, .string ot] 42)) (ZR lo (w.alloc (.cells #[.int .i64 3, .int .i64 oa, .int .i64 ob, .int .i64 oc, .string os, .string ot] 42)) q z U H false) := by
      cases op with
      | true => exact sameAbort_openP J0
      | false => exact sameAbort_shutP J0
    have C := hide C
    have HO := hide o0
    clear o0 J0
    go_enter Tryz.func25, Tryz.ntmps25
    go_wp2_with fail
    refine (unhide C).mono ?_
    rintro e w1 ⟨rfl, q', op', S', T', hist', H', h1⟩
    have FF := hide h1
    clear h1 C
    go_wp2_with fail
    go_ret
    exact ⟨by first | rfl | trivial, q', op', S', T', hist', H', ((unhide FF).from (unhide HO)).wide⟩
  have b3 : (ok == 3) = false := tne h3
  by_cases h4 : ok = 4
  · subst h4
    have C : Calls Tryz.prog 61 #[.pointer (some ⟨q.f, 0, none⟩), .pointer (some ⟨z, 0, none⟩)] (w.alloc (.cells #[.int .i64 4, .int .i64 oa, .int .i64 ob, .int .i64 oc, .string os, .string ot] 42)) (ZR lo (w.alloc (.cells #[.int .i64 4, .int .i64 oa, .int .i64 ob, .int .i64 oc, .string os, .string ot] 42)) q z U H false) := by
      cases op with
      | true => exact sameCreate_openP J0
      | false => exact sameCreate_shutP J0
    have C := hide C
    have HO := hide o0
    clear o0 J0
    go_enter Tryz.func25, Tryz.ntmps25
    go_wp2_with fail
    refine (unhide C).mono ?_
    rintro e w1 ⟨rfl, q', op', S', T', hist', H', h1⟩
    have FF := hide h1
    clear h1 C
    go_wp2_with fail
    go_ret
    exact ⟨by first | rfl | trivial, q', op', S', T', hist', H', ((unhide FF).from (unhide HO)).wide⟩
  have b4 : (ok == 4) = false := tne h4
  by_cases h5 : ok = 5
  · subst h5
    have C : Calls Tryz.prog 62 #[.pointer (some ⟨q.f, 0, none⟩), .pointer (some ⟨z, 0, none⟩), .int .i64 oa] (w.alloc (.cells #[.int .i64 5, .int .i64 oa, .int .i64 ob, .int .i64 oc, .string os, .string ot] 42)) (ZR lo (w.alloc (.cells #[.int .i64 5, .int .i64 oa, .int .i64 ob, .int .i64 oc, .string os, .string ot] 42)) q z U H false) := by
      cases op with
      | true => exact sameDrop_openP J0 oa
      | false => exact sameDrop_shutP J0 oa
    have C := hide C
    have HO := hide o0
    clear o0 J0
    go_enter Tryz.func25, Tryz.ntmps25
    go_wp2_with fail
    refine (unhide C).mono ?_
    rintro e w1 ⟨rfl, q', op', S', T', hist', H', h1⟩
    have FF := hide h1
    clear h1 C
    go_wp2_with fail
    go_ret
    exact ⟨by first | rfl | trivial, q', op', S', T', hist', H', ((unhide FF).from (unhide HO)).wide⟩
  have b5 : (ok == 5) = false := tne h5
  by_cases h6 : ok = 6
  · subst h6
    have C : Calls Tryz.prog 63 #[.pointer (some ⟨q.f, 0, none⟩), .pointer (some ⟨z, 0, none⟩), .int .i64 oa, .string os, .string ot] (w.alloc (.cells #[.int .i64 6, .int .i64 oa, .int .i64 ob, .int .i64 oc, .string os, .string ot] 42)) (ZR lo (w.alloc (.cells #[.int .i64 6, .int .i64 oa, .int .i64 ob, .int .i64 oc, .string os, .string ot] 42)) q z U H false) := by
      cases op with
      | true => exact sameInsert_openP J0 oa os ot
      | false => exact sameInsert_shutP J0 oa os ot
    have C := hide C
    have HO := hide o0
    clear o0 J0
    go_enter Tryz.func25, Tryz.ntmps25
    go_wp2_with fail
    refine (unhide C).mono ?_
    rintro e w1 ⟨rfl, q', op', S', T', hist', H', h1⟩
    have FF := hide h1
    clear h1 C
    go_wp2_with fail
    go_ret
    exact ⟨by first | rfl | trivial, q', op', S', T', hist', H', ((unhide FF).from (unhide HO)).wide⟩
  have b6 : (ok == 6) = false := tne h6
  by_cases h7 : ok = 7
  · subst h7
    have C : Calls Tryz.prog 64 #[.pointer (some ⟨q.f, 0, none⟩), .pointer (some ⟨z, 0, none⟩), .int .i64 oa, .string os] (w.alloc (.cells #[.int .i64 7, .int .i64 oa, .int .i64 ob, .int .i64 oc, .string os, .string ot] 42)) (ZR lo (w.alloc (.cells #[.int .i64 7, .int .i64 oa, .int .i64 ob, .int .i64 oc, .string os, .string ot] 42)) q z U H false) := by
      cases op with
      | true => exact sameDelete_openP J0 oa os
      | false => exact sameDelete_shutP J0 oa os
    have C := hide C
    have HO := hide o0
    clear o0 J0
    go_enter Tryz.func25, Tryz.ntmps25
    go_wp2_with fail
    refine (unhide C).mono ?_
    rintro e w1 ⟨rfl, q', op', S', T', hist', H', h1⟩
    have FF := hide h1
    clear h1 C
    go_wp2_with fail
    go_ret
    exact ⟨by first | rfl | trivial, q', op', S', T', hist', H', ((unhide FF).from (unhide HO)).wide⟩
  have b7 : (ok == 7) = false := tne h7
  by_cases h8 : ok = 8
  · subst h8
    have C : Calls Tryz.prog 65 #[.pointer (some ⟨q.f, 0, none⟩), .pointer (some ⟨z, 0, none⟩), .int .i64 oa, .string os] (w.alloc (.cells #[.int .i64 8, .int .i64 oa, .int .i64 ob, .int .i64 oc, .string os, .string ot] 42)) (ZR lo (w.alloc (.cells #[.int .i64 8, .int .i64 oa, .int .i64 ob, .int .i64 oc, .string os, .string ot] 42)) q z U H false) := sameGet_jt J0 oa os
    have C := hide C
    have HO := hide o0
    clear o0 J0
    go_enter Tryz.func25, Tryz.ntmps25
    go_wp2_with fail
    refine (unhide C).mono ?_
    rintro e w1 ⟨rfl, q', op', S', T', hist', H', h1⟩
    have FF := hide h1
    clear h1 C
    go_wp2_with fail
    go_ret
    exact ⟨by first | rfl | trivial, q', op', S', T', hist', H', ((unhide FF).from (unhide HO)).wide⟩
  have b8 : (ok == 8) = false := tne h8
  by_cases h9 : ok = 9
  · subst h9
    have C : Calls Tryz.prog 66 #[.pointer (some ⟨q.f, 0, none⟩), .pointer (some ⟨z, 0, none⟩), .int .i64 oa, .string os] (w.alloc (.cells #[.int .i64 9, .int .i64 oa, .int .i64 ob, .int .i64 oc, .string os, .string ot] 42)) (ZR lo (w.alloc (.cells #[.int .i64 9, .int .i64 oa, .int .i64 ob, .int .i64 oc, .string os, .string ot] 42)) q z U H false) := sameSeek_jt J0 oa os
    have C := hide C
    have HO := hide o0
    clear o0 J0
    go_enter Tryz.func25, Tryz.ntmps25
    go_wp2_with fail
    refine (unhide C).mono ?_
    rintro e w1 ⟨rfl, q', op', S', T', hist', H', h1⟩
    have FF := hide h1
    clear h1 C
    go_wp2_with fail
    go_ret
    exact ⟨by first | rfl | trivial, q', op', S', T', hist', H', ((unhide FF).from (unhide HO)).wide⟩
  have b9 : (ok == 9) = false := tne h9
  by_cases h10 : ok = 10
  · subst h10
    have C : Calls Tryz.prog 67 #[.pointer (some ⟨q.f, 0, none⟩), .pointer (some ⟨z, 0, none⟩), .int .i64 oa, .string os] (w.alloc (.cells #[.int .i64 10, .int .i64 oa, .int .i64 ob, .int .i64 oc, .string os, .string ot] 42)) (ZR lo (w.alloc (.cells #[.int .i64 10, .int .i64 oa, .int .i64 ob, .int .i64 oc, .string os, .string ot] 42)) q z U H false) := sameNext_jt J0 oa os
    have C := hide C
    have HO := hide o0
    clear o0 J0
    go_enter Tryz.func25, Tryz.ntmps25
    go_wp2_with fail
    refine (unhide C).mono ?_
    rintro e w1 ⟨rfl, q', op', S', T', hist', H', h1⟩
    have FF := hide h1
    clear h1 C
    go_wp2_with fail
    go_ret
    exact ⟨by first | rfl | trivial, q', op', S', T', hist', H', ((unhide FF).from (unhide HO)).wide⟩
  have b10 : (ok == 10) = false := tne h10
  by_cases h11 : ok = 11
  · subst h11
    have C : Calls Tryz.prog 68 #[.pointer (some ⟨q.f, 0, none⟩), .pointer (some ⟨z, 0, none⟩), .int .i64 oa] (w.alloc (.cells #[.int .i64 11, .int .i64 oa, .int .i64 ob, .int .i64 oc, .string os, .string ot] 42)) (ZR lo (w.alloc (.cells #[.int .i64 11, .int .i64 oa, .int .i64 ob, .int .i64 oc, .string os, .string ot] 42)) q z U H false) := sameUsed_jt J0 oa
    have C := hide C
    have HO := hide o0
    clear o0 J0
    go_enter Tryz.func25, Tryz.ntmps25
    go_wp2_with fail
    refine (unhide C).mono ?_
    rintro e w1 ⟨rfl, q', op', S', T', hist', H', h1⟩
    have FF := hide h1
    clear h1 C
    go_wp2_with fail
    go_ret
    exact ⟨by first | rfl | trivial, q', op', S', T', hist', H', ((unhide FF).from (unhide HO)).wide⟩
  have b11 : (ok == 11) = false := tne h11
  by_cases h12 : ok = 12
  · subst h12
    have C : Calls Tryz.prog 69 #[.pointer (some ⟨q.f, 0, none⟩), .pointer (some ⟨z, 0, none⟩)] (w.alloc (.cells #[.int .i64 12, .int .i64 oa, .int .i64 ob, .int .i64 oc, .string os, .string ot] 42)) (ZR lo (w.alloc (.cells #[.int .i64 12, .int .i64 oa, .int .i64 ob, .int .i64 oc, .string os, .string ot] 42)) q z U H false) := sameInTxn_jt J0
    have C := hide C
    have HO := hide o0
    clear o0 J0
    go_enter Tryz.func25, Tryz.ntmps25
    go_wp2_with fail
    refine (unhide C).mono ?_
    rintro e w1 ⟨rfl, q', op', S', T', hist', H', h1⟩
    have FF := hide h1
    clear h1 C
    go_wp2_with fail
    go_ret
    exact ⟨by first | rfl | trivial, q', op', S', T', hist', H', ((unhide FF).from (unhide HO)).wide⟩
  have b12 : (ok == 12) = false := tne h12
  by_cases h13 : ok = 13
  · subst h13
    have C : Calls Tryz.prog 70 #[.pointer (some ⟨q.f, 0, none⟩), .pointer (some ⟨z, 0, none⟩)] (w.alloc (.cells #[.int .i64 13, .int .i64 oa, .int .i64 ob, .int .i64 oc, .string os, .string ot] 42)) (ZR lo (w.alloc (.cells #[.int .i64 13, .int .i64 oa, .int .i64 ob, .int .i64 oc, .string os, .string ot] 42)) q z U H false) := sameCount_jt J0
    have C := hide C
    have HO := hide o0
    clear o0 J0
    go_enter Tryz.func25, Tryz.ntmps25
    go_wp2_with fail
    refine (unhide C).mono ?_
    rintro e w1 ⟨rfl, q', op', S', T', hist', H', h1⟩
    have FF := hide h1
    clear h1 C
    go_wp2_with fail
    go_ret
    exact ⟨by first | rfl | trivial, q', op', S', T', hist', H', ((unhide FF).from (unhide HO)).wide⟩
  have b13 : (ok == 13) = false := tne h13
  by_cases h14 : ok = 14
  · subst h14
    obtain ⟨vw, A⟩ := J0.fv.vw
    have C := hide (ck _ _ _ _ _ A)
    have HO := hide o0
    have HJ := hide J0
    clear o0 J0 A
    go_enter Tryz.func25, Tryz.ntmps25
    go_wp2_with fail
    refine (unhide C).mono ?_
    rintro e w1 ⟨rfl, A1, o1⟩
    have FF := hide ((unhide HJ).pure A1.fv o1)
    clear A1 o1 C
    go_wp2_with fail
    go_ret
    exact ⟨by first | rfl | trivial, _, _, _, _, _, _, ((unhide FF).from (unhide HO)).wide⟩
  have b14 : (ok == 14) = false := tne h14
  have FF := hide (((J0.pure J0.fv (Only.refl _ _)).from o0).wide (cm := cmB ok op))
  clear o0 J0 J h1 h2 h3 h4 h5 h6 h7 h8 h9 h10 h11 h12 h13 h14
  go_enter Tryz.func25, Tryz.ntmps25
  go_wp2_with fail
  go_ret
  exact ⟨by first | rfl | trivial, _, _, _, _, _, _, unhide FF⟩
end
end Go.Proofs.Qxb6500410aGreat
