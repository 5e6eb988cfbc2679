/-
  OWN WORK. THE TABLE LAW: Level, OneStep.
-/
import Derived.Test.Qxb6500413aGreatYL7
namespace Go.Proofs.Qxb6500413aGreat
open Go.RowKit Go.PlainAid
set_option linter.unusedSimpArgs false
set_option linter.unusedVariables false

section
variable {q : Gnd} {w : World} {x z : Nat} {op opz : Bool} {S : Vu} {T : List (Tb × Hd)} {D Tz U : Db} {hist : Option Db} {Hz : Nat → Prop}
structure LvY (q : Gnd) (w0 : World) (op : Bool) (S : Vu) (x z : Nat) (D Tz U : Db) (hist : Option Db) (opz : Bool) (Hz : Nat → Prop) (kb : Nat) (w : World) : Prop where
  st : ST q w x op S
  y : YAt w z D Tz U hist opz Hz
  bx : Has w kb #[.pointer (some ⟨q.d, 0, none⟩), .pointer (some ⟨q.f, 0, none⟩)] 30
  o : Only q.S w0 w
  nb : ¬ q.S kb
  sep : ∀ k, Hz k → ¬ q.S k
theorem LvY.go {w0 w1 : World} {kb : Nat} (h : LvY q w0 op S x z D Tz U hist opz Hz kb w) (A : FV q w1 op S) (o : Only q.S w w1) : LvY q w0 op S x z D Tz U hist opz Hz kb w1 := ⟨h.st.turn A o, h.y.keep o h.sep, h.bx.keep o h.nb, h.o.ss o, h.nb, h.sep⟩
theorem LvY.cells {w0 : World} {kb : Nat} (h : LvY q w0 op S x z D Tz U hist opz Hz kb w) : w.cell? ⟨kb, 0, none⟩ = some (.pointer (some ⟨q.d, 0, none⟩)) ∧ w.cell? ⟨kb, 1, none⟩ = some (.pointer (some ⟨q.f, 0, none⟩)) := ⟨by rw [h.bx.cell]; rfl, by rw [h.bx.cell]; rfl⟩
def LvP (w : World) (q : Gnd) (x : Nat) (op opz : Bool) (S : Vu) (A D : Db) (e : Ending) (w' : World) : Prop := ∃ b, e = .returned (.bool b) ∧ (b = true ↔ A = D ∧ op = opz) ∧ ST q w' x op S ∧ Only q.S w w'
set_option maxRecDepth 100000 in
set_option maxHeartbeats 8000000 in
theorem level_any (H : ST q w x op S) (L : Lay S T) (Y : YAt w z D Tz U hist opz Hz) (sep : ∀ k, Hz k → ¬ q.S k) (quiet : Bool) : Calls Tryz.prog 23 #[jbV q.d q.f, .pointer (some ⟨x, 0, none⟩), .pointer (some ⟨z, 0, none⟩), .bool quiet] w (LvP w q x op opz S (dbOf T) D) := by
  obtain ⟨o0, B0, A0, nb⟩ := H.fv.box
  unfold jbC at o0 B0 A0
  have L0 : LvY q w op S x z D Tz U hist opz Hz w.heap.size (w.alloc (.cells #[.pointer (some ⟨q.d, 0, none⟩), .pointer (some ⟨q.f, 0, none⟩)] 30)) := ⟨H.quiet o0, Y.quiet o0, B0, o0.toS, nb, sep⟩
  have HLay := hide L
  have HL := hide L0
  clear o0 B0 A0 nb L0 H L Y sep
  unfold jbV jbC
  go_enter Tryz.func23, Tryz.ntmps23
  go_upto_region 1 with fail
  generalize w.alloc (.cells #[.pointer (some ⟨q.d, 0, none⟩), .pointer (some ⟨q.f, 0, none⟩)] 30) = w0 at *
  generalize w.heap.size = kb at *
  have C1 := thrift_any (unhide HL).st.fv (unhide HLay) (unhide HL).y (unhide HL).sep
  unfold jbV jbC at C1
  have C1 := hide C1
  obtain ⟨c0, c1⟩ := (unhide HL).cells
  go_wp2_with fail
  refine (unhide C1).mono ?_
  rintro e w1 ⟨b1, rfl, hb1, A1, o1⟩
  have HL1 := hide ((unhide HL).go A1 o1)
  have HB1 := hide hb1
  clear A1 o1 hb1 C1 c0 c1 HL
  cases b1 with
  | false =>
    have HP := hide (show LvP w q x op opz S (dbOf T) D (.returned (.bool false)) w1 from ⟨false, rfl, ⟨(fun e => by cases e), fun e => unhide HB1 e.1⟩, (unhide HL1).st, (unhide HL1).o⟩)
    go_wp2_with fail
    go_ret
    exact unhide HP
  | true =>
  have C2 := binTxn_any (unhide HL1).st.fv
  unfold jbV jbC at C2
  have C2 := hide C2
  obtain ⟨c0, c1⟩ := (unhide HL1).cells
  go_wp2_with fail
  refine (unhide C2).mono ?_
  rintro e w2 ⟨rfl, A2, o2⟩
  have HL2 := hide ((unhide HL1).go A2 o2)
  have C3 := hide (yintxn_any (unhide HL2).y)
  clear A2 o2 C2 c0 c1 HL1 HB1
  go_wp2_with fail
  refine (unhide C3).mono ?_
  rintro e w3 ⟨rfl, rfl⟩
  clear C3
  by_cases hop : op = opz
  rotate_left
  · have d1 : (op != opz) = true := by simpa using hop
    have d1' : (op == opz) = false := by simpa using hop
    have d1x : (!op == opz) = true := by rw [d1']; rfl
    have HP := hide (show LvP w q x op opz S (dbOf T) D (.returned (.bool false)) w2 from ⟨false, rfl, ⟨(fun e => by cases e), fun e => absurd e.2 hop⟩, (unhide HL2).st, (unhide HL2).o⟩)
    clear hop
    go_wp2_with fail
    go_ret
    exact unhide HP
  have d1 : (op != opz) = false := by rw [hop]; simp
  have d1' : (op == opz) = true := by rw [hop]; simp
  have d1x : (!op == opz) = false := by rw [d1']; rfl
  clear hop
  have C4 := stateless_any (unhide HL2).st.fv (unhide HLay) (unhide HL2).y (unhide HL2).sep
  unfold jbV jbC at C4
  have C4 := hide C4
  obtain ⟨c0, c1⟩ := (unhide HL2).cells
  go_wp2_with fail
  refine (unhide C4).mono ?_
  rintro e w3 ⟨b4, rfl, hb4, A4, o4⟩
  have HL3 := hide ((unhide HL2).go A4 o4)
  have HB4 := hide hb4
  clear A4 o4 hb4 C4 c0 c1 HL2 d1 d1' d1x
  cases b4 with
  | false =>
    have HP := hide (show LvP w q x op opz S (dbOf T) D (.returned (.bool false)) w3 from ⟨false, rfl, unhide HB4, (unhide HL3).st, (unhide HL3).o⟩)
    go_wp2_with fail
    go_ret
    exact unhide HP
  | true =>
  have HEQ := hide ((unhide HB4).mp rfl)
  clear HB4
  cases quiet with
  | true =>
    have HP := hide (show LvP w q x op opz S (dbOf T) D (.returned (.bool true)) w3 from ⟨true, rfl, ⟨fun _ => unhide HEQ, fun _ => rfl⟩, (unhide HL3).st, (unhide HL3).o⟩)
    go_wp2_with fail
    go_ret
    exact unhide HP
  | false =>
  have C5 := hide (alike_any (unhide HL3).st (unhide HLay) (unhide HL3).y (unhide HL3).sep)
  go_wp2_with fail
  refine (unhide C5).mono ?_
  rintro e w4 ⟨b5, rfl, hb5, st5, o5⟩
  obtain rfl := hb5.mpr (unhide HEQ)
  have HL4 := hide (And.intro st5 ((unhide HL3).o.ss o5))
  have C6 := hide (echeck_any st5 (unhide HLay))
  clear st5 o5 C5 hb5
  go_wp2_with fail
  refine (unhide C6).mono ?_
  rintro e w5 ⟨rfl, st6, o6⟩
  have HP := hide (show LvP w q x op opz S (dbOf T) D (.returned (.bool true)) w5 from ⟨true, rfl, ⟨fun _ => unhide HEQ, fun _ => rfl⟩, st6, (unhide HL4).2.ss o6⟩)
  clear st6 o6 C6
  go_wp2_with fail
  go_ret
  exact unhide HP
end
set_option maxRecDepth 100000 in
theorem oneStep_any (n : Nat) (ok oa ob oc : Int) (os ot : ByteArray) (o : Bool) (h : n = 0 ∨ (ok = 2 ∧ o = true ∧ n ≤ 146)) (w : World) : Calls Tryz.prog 27 #[.int .i64 n, .agg #[.int .i64 ok, .int .i64 oa, .int .i64 ob, .int .i64 oc, .string os, .string ot], .bool o] w fun e w' => e = .returned (.bool true) ∧ Only (fun _ => False) w w' := by
  have o0 : Only (fun _ => False) w (w.alloc (.cells #[.int .i64 ok, .int .i64 oa, .int .i64 ob, .int .i64 oc, .string os, .string ot] 41)) := (Only.refl _ w).alloc _
  by_cases h0 : n = 0
  · have b0 : ((n : Int) == 0) = true := by simp; omega
    go_enter Tryz.func27, Tryz.ntmps27
    go_wp2_with fail
    go_ret
    exact ⟨by first | rfl | trivial, o0⟩
  · have b0 : ((n : Int) == 0) = false := by simp; omega
    obtain ⟨rfl, rfl, h3⟩ : ok = 2 ∧ o = true ∧ n ≤ 146 := by
      rcases h with h | h
      · exact absurd h h0
      · exact h
    have b3 : decide ((n : Int) ≤ 146) = true := decide_eq_true (by omega)
    have CM : ∀ w, Calls Tryz.prog 89 #[] w fun e w' => e = .returned (.int .i64 146) ∧ w = w' := fun w => by
      go_enter Tryz.func89, Tryz.ntmps89
      go_wp2_with fail
      go_ret
      exact ⟨rfl, rfl⟩
    have CM := hide CM
    clear h h0
    go_enter Tryz.func27, Tryz.ntmps27
    go_wp2_with fail
    refine (unhide CM _).mono ?_
    rintro e w1 ⟨rfl, rfl⟩
    go_wp2_with fail
    go_ret
    exact ⟨by first | rfl | trivial, o0⟩
end Go.Proofs.Qxb6500413aGreat
