/-
  OWN WORK. KeepStep: Write.
-/
import Derived.Test.Qxb6500415aLaw6
namespace Go.Proofs.Qxb6500415a
open Go.RowKit
set_option linter.unusedSimpArgs false
set_option linter.unusedVariables false
section
variable {w : World} {l d g : Nat} {blk base : List ByteArray} {recs : List (Nat × ByteArray)} {op : Bool} {es : List (Nat × ByteArray)} {com was cur : List ByteArray} {dirty : List Bool} {F G H : Nat → Prop}

theorem Has.drewN {w : World} {k : Nat} {c : Array Value} {t : TypeId} (h : Has w k c t) (n : Nat) : Has (w.drewN n) k c t := h

set_option maxRecDepth 100000 in
/-- A refused Write. -/
theorem keep_write_no (a b c : Int) (s t : ByteArray) (q : Int) (j0 : Joint w l d g blk base recs op es com was cur dirty F G H) (hq : (q == 0) = false) (hdue : due op dirty es.length a = q)
    (hw : ∀ w1, Joint w1 l d g blk base recs op es com was cur dirty F G H → Calls Try.prog 40 #[.pointer (some ⟨l, 0, none⟩), .int .i64 a, .string s] w1 fun e w' => e = .returned (.int .i64 q) ∧ w1 = w') :
    Calls Try.prog 16 #[.pointer (some ⟨l, 0, none⟩), .pointer (some ⟨g, 0, none⟩), .agg #[.int .i64 3, .int .i64 a, .int .i64 b, .int .i64 c, .string s, .string t]] w fun e w' =>
      e = .returned (.bool true) ∧ KPost w l d g base was F G H blk recs op es com cur 3 w' := by
  have o1 : Only (fun _ => False) w (w.alloc (.cells #[.int .i64 3, .int .i64 a, .int .i64 b, .int .i64 c, .string s, .string t] 37)) := (Only.refl _ w).alloc _
  have j1 := j0.keep o1
  have C1 := due_any g com was cur dirty es.length op H a _ j1.gh
  rw [hdue] at C1
  have C1 := hide C1
  have C2 := hide (hw _ j1)
  have hqq : (q != q) = false := by simp
  clear hw hdue
  go_enter Try.func16, Try.ntmps16
  go_wp2_with fail
  refine (unhide C1).mono ?_
  rintro e w1 ⟨rfl, rfl⟩
  go_wp2_with fail
  refine (unhide C2).mono ?_
  rintro e w1 ⟨rfl, rfl⟩
  go_wp2_with fail
  go_ret
  exact ⟨by simp, j0.same o1⟩

set_option maxRecDepth 100000 in
set_option maxHeartbeats 2000000 in
theorem keep_write_old (n i : Nat) (b c : Int) (s t : ByteArray) (j0 : Joint w l d g blk base recs true es com was cur dirty F G H) (hn : n < 80) (hat : at? es n = some i) (hs : s.size ≤ maxLen) :
    Calls Try.prog 16 #[.pointer (some ⟨l, 0, none⟩), .pointer (some ⟨g, 0, none⟩), .agg #[.int .i64 3, .int .i64 n, .int .i64 b, .int .i64 c, .string s, .string t]] w fun e w' =>
      e = .returned (.bool true) ∧ KPost w l d g base was F G H blk recs true es com cur 3 w' := by
  have o1 : Only (fun _ => False) w (w.alloc (.cells #[.int .i64 3, .int .i64 n, .int .i64 b, .int .i64 c, .string s, .string t] 37)) := (Only.refl _ w).alloc _
  have kb := Has.new w #[.int .i64 3, .int .i64 n, .int .i64 b, .int .i64 c, .string s, .string t] 37
  have j1 := j0.keep o1
  have C1 := due_any g com was cur dirty es.length true H n _ j1.gh
  rw [j0.inv.due_old hn hat] at C1
  have C1 := hide C1
  have C2 := hide (wwrite_old l d es G n i s _ j1.lg hn hat hs)
  have hnd := j0.inv.dirt n hn
  rw [hat] at hnd
  have Hnd := hide hnd
  have Hat := hide hat
  have hGi := j0.lg.inn
  clear hnd hat
  go_enter Try.func16, Try.ntmps16
  go_wp2_with fail
  refine (unhide C1).mono ?_
  rintro e w1 ⟨rfl, rfl⟩
  go_wp2_with fail
  refine (unhide C2).mono ?_
  rintro e w1 ⟨rfl, hl1, ho1⟩
  have g1 := j1.gh.keep ho1 (fun k hk hg => j0.GH k hg hk)
  have d1 := j1.dk.keep ho1 (fun k hk hg => j0.FG k hk hg)
  have kb1 := kb.keep ho1 (fun hg => by have := hGi _ hg; omega)
  obtain ⟨⟨b0, b1, b2, b3, h1, h2, h3, h4, h5, n1, n2, n3, f0, f1, f2, f3, f4⟩, l0, l1, l2, l3, hi⟩ := hide g1
  have q2 := h1.cell 2
  have q3 := h1.cell 3
  have p3 := h5.cell n
  rw [bools_get _ _ (by omega)] at p3
  have hg : dirty.getD n false = dirty[n] := by simp [List.getD_eq_getElem?_getD, l3, hn]
  have hd := unhide Hnd
  rw [hg] at hd
  rw [hd] at p3
  have p4 := h4.cell n
  rw [strs_get _ _ (by omega)] at p4
  have p5 := h4.free n
  have r1 := kb1.cell 1
  have r4 := kb1.cell 4
  have hb8 : (n : Int) < 80 := by omega
  have m2 := h1.ne h4 (by decide)
  have m5 := h5.ne h4 (by decide)
  clear hg hd
  go_wp2_with fail
  go_quiet (fail)
  go_wp2_with fail
  go_region_with (go_at_call 41; refine (blockOf_any s _ hs).mono ?_; rintro e w2 ⟨rfl, rfl⟩)
  all_goals
    go_wp2_with fail
    go_ret
    have hx := blockOf_size s
    have o3 : Only H w1 (w1.setCell ⟨b2, n, none⟩ (.string (blockOf s))) := (Only.refl H w1).setCell (p := ⟨b2, n, none⟩) (fun _ => f3) _
    have o4 : Only H w1 ((w1.setCell ⟨b2, n, none⟩ (.string (blockOf s))).drewN nq).drew := (o3.drewN nq).drew
    refine ⟨by simp, j0.post (op' := true) (es' := es.set i (n, blockOf s)) (cur' := cur.set n (blockOf s)) (dirty' := dirty) ⟨d1.keep o4 (fun k hk hh => j0.FH k hk hh), hl1.keep o4 (fun k hk hh => j0.GH k hk hh), ?_, j0.inv.write_old hn hx (unhide Hat), j0.FG, j0.FH, j0.GH⟩ ?_⟩
    · refine ⟨⟨b0, b1, b2, b3, ?_, h2.setCell_other n2 _, h3.setCell_other n3 _, ?_, h5.setCell_other m5 _, n1, n2, n3, f0, f1, f2, f3, f4⟩, l0, l1, by simpa using l2, l3, fun k hk => by simpa using hi k hk⟩
      · rw [List.length_set]
        exact h1.setCell_other m2 _
      · have := h4.setCell n (.string (blockOf s))
        rw [strs_set] at this
        exact this
    · exact ((o1.mono (fun _ _ h => h.elim)).trans ho1 (fun _ _ h => .inr (.inl h))).trans o4 (fun _ _ h => .inr (.inr h))

set_option maxRecDepth 100000 in
set_option maxHeartbeats 2000000 in
theorem keep_write_new (n : Nat) (b c : Int) (s t : ByteArray) (j0 : Joint w l d g blk base recs true es com was cur dirty F G H) (hn : n < 80) (hat : at? es n = none) (hlt : es.length < 72) (hs : s.size ≤ maxLen) :
    Calls Try.prog 16 #[.pointer (some ⟨l, 0, none⟩), .pointer (some ⟨g, 0, none⟩), .agg #[.int .i64 3, .int .i64 n, .int .i64 b, .int .i64 c, .string s, .string t]] w fun e w' =>
      e = .returned (.bool true) ∧ KPost w l d g base was F G H blk recs true es com cur 3 w' := by
  have o1 : Only (fun _ => False) w (w.alloc (.cells #[.int .i64 3, .int .i64 n, .int .i64 b, .int .i64 c, .string s, .string t] 37)) := (Only.refl _ w).alloc _
  have kb := Has.new w #[.int .i64 3, .int .i64 n, .int .i64 b, .int .i64 c, .string s, .string t] 37
  have j1 := j0.keep o1
  have C1 := due_any g com was cur dirty es.length true H n _ j1.gh
  rw [j0.inv.due_new hn hat hlt] at C1
  have C1 := hide C1
  have C2 := hide (wwrite_new l d es G n s _ j1.lg hn hat hlt hs)
  have hnd := j0.inv.dirt n hn
  rw [hat] at hnd
  have Hnd := hide hnd
  have Hat := hide hat
  have hGi := j0.lg.inn
  have hHi := j0.gh.inn
  clear hnd hat
  go_enter Try.func16, Try.ntmps16
  go_wp2_with fail
  refine (unhide C1).mono ?_
  rintro e w1 ⟨rfl, rfl⟩
  go_wp2_with fail
  refine (unhide C2).mono ?_
  rintro e w1 ⟨rfl, hl1, ho1⟩
  have g1 := j1.gh.keep ho1 (fun k hk hg => j0.GH k hg hk)
  have d1 := j1.dk.keep ho1 (fun k hk hg => j0.FG k hk hg)
  have kb1 := kb.keep ho1 (fun hg => by have := hGi _ hg; omega)
  obtain ⟨⟨b0, b1, b2, b3, h1, h2, h3, h4, h5, n1, n2, n3, f0, f1, f2, f3, f4⟩, l0, l1, l2, l3, hi⟩ := hide g1
  have q3 := h1.cell 3
  have p3 := h5.cell n
  rw [bools_get _ _ (by omega)] at p3
  have p6 := h5.free n
  have hg : dirty.getD n false = dirty[n] := by simp [List.getD_eq_getElem?_getD, l3, hn]
  have hd := unhide Hnd
  rw [hg] at hd
  rw [hd] at p3
  have r1 := kb1.cell 1
  have hb8 : (n : Int) < 80 := by omega
  have m2 := h1.ne h4 (by decide)
  have m3 := h1.ne h5 (by decide)
  have m5 := h5.ne h4 (by decide)
  have m6 := h5.ne h2 (by decide)
  have m7 := h5.ne h3 (by decide)
  have m8 := h1.ne h2 (by decide)
  have m9 := h1.ne h3 (by decide)
  have q2 := h1.cell 2
  have q4 := h1.cell 4
  have z4 := h1.free 4
  have p4 := h4.cell n
  rw [strs_get _ _ (by omega)] at p4
  have p5 := h4.free n
  have r4 := kb1.cell 4
  have w3 : w.heap.size ≠ b3 := fun e => by have := hHi _ f4; omega
  have wg : w.heap.size ≠ g := fun e => by have := hHi _ f0; omega
  have ow : ∀ q, Only H w1 ((((w1.drewN (q + 1)).setCell ⟨b3, n, none⟩ (.bool true)).setCell ⟨g, 4, none⟩ (.int .i64 ((es.length : Int) + 1))).setCell ⟨b2, n, none⟩ (.string (blockOf s))).drew := fun q =>
    (((((Only.refl H w1).drewN (q + 1)).setCell (p := ⟨b3, n, none⟩) (fun _ => f4) _).setCell (p := ⟨g, 4, none⟩) (fun _ => f0) _).setCell (p := ⟨b2, n, none⟩) (fun _ => f3) _).drew
  have gw : ∀ q, GhostAt ((((w1.drewN (q + 1)).setCell ⟨b3, n, none⟩ (.bool true)).setCell ⟨g, 4, none⟩ (.int .i64 ((es.length : Int) + 1))).setCell ⟨b2, n, none⟩ (.string (blockOf s))).drew g com was (cur.set n (blockOf s)) (dirty.set n true) (es ++ [(n, blockOf s)]).length true H := by
    intro q
    refine ⟨⟨b0, b1, b2, b3, ?_, ?_, ?_, ?_, ?_, n1, n2, n3, f0, f1, f2, f3, f4⟩, l0, l1, by simpa using l2, by simpa using l3, fun k hk => by simpa using hi k hk⟩
    · have := (((h1.drewN (q + 1)).setCell_other (p := ⟨b3, n, none⟩) m3 (.bool true)).setCell 4 (.int .i64 ((es.length : Int) + 1))).setCell_other (p := ⟨b2, n, none⟩) m2 (.string (blockOf s))
      simpa using this.drew
    · exact ((((h2.drewN (q + 1)).setCell_other (p := ⟨b3, n, none⟩) m6.symm (.bool true)).setCell_other (p := ⟨g, 4, none⟩) m8.symm (.int .i64 ((es.length : Int) + 1))).setCell_other (p := ⟨b2, n, none⟩) n2 (.string (blockOf s))).drew
    · exact ((((h3.drewN (q + 1)).setCell_other (p := ⟨b3, n, none⟩) m7.symm (.bool true)).setCell_other (p := ⟨g, 4, none⟩) m9.symm (.int .i64 ((es.length : Int) + 1))).setCell_other (p := ⟨b2, n, none⟩) n3 (.string (blockOf s))).drew
    · have := ((((h4.drewN (q + 1)).setCell_other (p := ⟨b3, n, none⟩) m5.symm (.bool true)).setCell_other (p := ⟨g, 4, none⟩) m2.symm (.int .i64 ((es.length : Int) + 1))).setCell n (.string (blockOf s))).drew
      rw [strs_set] at this
      exact this
    · have := ((((h5.drewN (q + 1)).setCell n (.bool true)).setCell_other (p := ⟨g, 4, none⟩) m3.symm (.int .i64 ((es.length : Int) + 1))).setCell_other (p := ⟨b2, n, none⟩) m5 (.string (blockOf s))).drew
      rw [bools_set] at this
      exact this
  have hll : (es.length : Int) < 72 := by omega
  have Gw := hide gw
  have Ow := hide ow
  clear hg hd gw ow
  go_wp2_with fail
  go_quiet (fail)
  go_wp2_with fail
  go_region
  go_wp2_with fail
  go_region_with (go_at_call 41; refine (blockOf_any s _ hs).mono ?_; rintro e w2 ⟨rfl, rfl⟩)
  all_goals
    go_wp2_with fail
    go_ret
    have hx := blockOf_size s
    refine ⟨by simp, j0.post (op' := true) (es' := es ++ [(n, blockOf s)]) (cur' := cur.set n (blockOf s)) (dirty' := dirty.set n true) ⟨d1.keep (unhide Ow nq) (fun k hk hh => j0.FH k hk hh), hl1.keep (unhide Ow nq) (fun k hk hh => j0.GH k hk hh), unhide Gw nq, j0.inv.write_new hn hx (unhide Hat) hlt, j0.FG, j0.FH, j0.GH⟩ ?_⟩
    exact ((o1.mono (fun _ _ h => h.elim)).trans ho1 (fun _ _ h => .inr (.inl h))).trans (unhide Ow nq) (fun _ _ h => .inr (.inr h))
end
end Go.Proofs.Qxb6500415a
