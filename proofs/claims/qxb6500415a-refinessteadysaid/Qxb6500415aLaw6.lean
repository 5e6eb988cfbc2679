/-
  OWN WORK. KeepStep: Abort, Commit, Write.
-/
import Derived.Test.Qxb6500415aLaw5
namespace Go.Proofs.Qxb6500415a
open Go.RowKit
set_option linter.unusedSimpArgs false
set_option linter.unusedVariables false
section
variable {w : World} {l d g : Nat} {blk base : List ByteArray} {recs : List (Nat × ByteArray)} {op : Bool} {es : List (Nat × ByteArray)} {com was cur : List ByteArray} {dirty : List Bool} {F G H : Nat → Prop}

set_option maxRecDepth 100000 in
set_option maxHeartbeats 1000000 in
theorem keep_abort (a b c : Int) (s t : ByteArray) (j0 : Joint w l d g blk base recs op es com was cur dirty F G H) :
    Calls Try.prog 16 #[.pointer (some ⟨l, 0, none⟩), .pointer (some ⟨g, 0, none⟩), .agg #[.int .i64 5, .int .i64 a, .int .i64 b, .int .i64 c, .string s, .string t]] w fun e w' =>
      e = .returned (.bool true) ∧ KPost w l d g base was F G H blk recs op es com cur 5 w' := by
  have o1 : Only (fun _ => False) w (w.alloc (.cells #[.int .i64 5, .int .i64 a, .int .i64 b, .int .i64 c, .string s, .string t] 37)) := (Only.refl _ w).alloc _
  have j1 := j0.keep o1
  cases op with
  | false =>
    have C1 := hide (wabort_shut l d es G _ j1.lg)
    obtain ⟨⟨b0, b1, b2, b3, h1, h2, h3, h4, h5, n1, n2, n3, f0, f1, f2, f3, f4⟩, l0, l1, l2, l3, hi⟩ := hide j1.gh
    have q1 := h1.cell 5
    go_enter Try.func16, Try.ntmps16
    go_wp2_with fail
    refine (unhide C1).mono ?_
    rintro e w1 ⟨rfl, rfl⟩
    go_wp2_with fail
    go_ret
    exact ⟨by simp, j0.same o1⟩
  | true =>
    have C1 := hide (wabort_open l d es G _ j1.lg)
    go_enter Try.func16, Try.ntmps16
    go_wp2_with fail
    refine (unhide C1).mono ?_
    rintro e w1 ⟨rfl, hl1, ho1⟩
    have g1 := j1.gh.keep ho1 (fun k hk hg => j0.GH k hg hk)
    have d1 := j1.dk.keep ho1 (fun k hk hg => j0.FG k hk hg)
    obtain ⟨⟨b0, b1, b2, b3, h1, h2, h3, h4, h5, n1, n2, n3, f0, f1, f2, f3, f4⟩, l0, l1, l2, l3, hi⟩ := hide g1
    have q0 := h1.cell 0
    have q2 := h1.cell 2
    have q5 := h1.cell 5
    have m2 := h1.ne h4 (by decide)
    have m5 := h5.ne h4 (by decide)
    go_wp2_with fail
    go_region_with (go_at_call 15; refine (lay_any b2 b0 cur com _ ?_ ?_ n2.symm l2 l0).mono ?_; exact h4.drew; exact h2.drew; rintro e w2 ⟨rfl, hb2, ho2⟩)
    all_goals
      have ho2' : Only (fun k => k = b2) w1 w2 := (Only.refl (fun k => k = b2) w1).drew.trans ho2 (fun _ _ h => h)
      have g2 : GhostAt w2 g com was com dirty es.length true H := ⟨⟨b0, b1, b2, b3, h1.keep ho2' m2, h2.keep ho2' n2, h3.keep ho2' n3, hb2, h5.keep ho2' m5, n1, n2, n3, f0, f1, f2, f3, f4⟩, l0, l1, l0, l3, fun k hk => Nat.lt_of_lt_of_le (hi k hk) ho2'.size⟩
      have ho3 : Only H w1 w2 := ho2'.mono (fun k _ e => by subst e; exact f3)
      have C2 := hide (shut_any g com was com dirty es.length true H w2 g2)
      go_wp2_with fail
      refine (unhide C2).mono ?_
      rintro e w3 ⟨rfl, g3, ho4⟩
      go_wp2_with fail
      go_ret
      have ho5 : Only H w1 w3 := ho3.trans ho4 (fun _ _ h => h)
      refine ⟨by simp, j0.post (op' := false) (es' := []) (cur' := com) (dirty' := nots 80) ⟨d1.keep ho5 (fun k hk hh => j0.FH k hk hh), hl1.keep ho5 (fun k hk hh => j0.GH k hk hh), g3, j0.inv.abort_, j0.FG, j0.FH, j0.GH⟩ ?_⟩
      exact ((o1.mono (fun _ _ h => h.elim)).trans ho1 (fun _ _ h => .inr (.inl h))).trans ho5 (fun _ _ h => .inr (.inr h))

set_option maxRecDepth 100000 in
set_option maxHeartbeats 1000000 in
theorem keep_commit (a b c : Int) (s t : ByteArray) (j0 : Joint w l d g blk base recs op es com was cur dirty F G H) (hrc : recs.length ≤ 100) :
    Calls Try.prog 16 #[.pointer (some ⟨l, 0, none⟩), .pointer (some ⟨g, 0, none⟩), .agg #[.int .i64 4, .int .i64 a, .int .i64 b, .int .i64 c, .string s, .string t]] w fun e w' =>
      e = .returned (.bool true) ∧ KPost w l d g base was F G H blk recs op es com cur 4 w' := by
  have o1 : Only (fun _ => False) w (w.alloc (.cells #[.int .i64 4, .int .i64 a, .int .i64 b, .int .i64 c, .string s, .string t] 37)) := (Only.refl _ w).alloc _
  have j1 := j0.keep o1
  cases op with
  | false =>
    have C1 := hide (wcommit_shut l d es G _ j1.lg)
    obtain ⟨⟨b0, b1, b2, b3, h1, h2, h3, h4, h5, n1, n2, n3, f0, f1, f2, f3, f4⟩, l0, l1, l2, l3, hi⟩ := hide j1.gh
    have q1 := h1.cell 5
    go_enter Try.func16, Try.ntmps16
    go_wp2_with fail
    refine (unhide C1).mono ?_
    rintro e w1 ⟨rfl, rfl⟩
    go_wp2_with fail
    go_ret
    exact ⟨by simp, j0.same o1⟩
  | true =>
    have C1 := hide (wcommit_open l d es G blk base recs F _ j1.lg j1.dk (fun k hk hf => j0.FG k hf hk) j0.inv.sz j0.inv.good hrc)
    go_enter Try.func16, Try.ntmps16
    go_wp2_with fail
    refine (unhide C1).mono ?_
    rintro e w1 ⟨rfl, hd1, hl1, ho1⟩
    have g1 := j1.gh.keep ho1 (fun k hk hg => by rcases hg with hg | hg; exact j0.FH k hg hk; exact j0.GH k hg hk)
    obtain ⟨⟨b0, b1, b2, b3, h1, h2, h3, h4, h5, n1, n2, n3, f0, f1, f2, f3, f4⟩, l0, l1, l2, l3, hi⟩ := hide g1
    have q0 := h1.cell 0
    have q2 := h1.cell 2
    have q5 := h1.cell 5
    have m2 := h1.ne h2 (by decide)
    have m5 := h5.ne h2 (by decide)
    go_wp2_with fail
    go_region_with (go_at_call 15; refine (lay_any b0 b2 com cur _ ?_ ?_ n2 l0 l2).mono ?_; exact h2.drew; exact h4.drew; rintro e w2 ⟨rfl, hb2, ho2⟩)
    all_goals
      have ho2' : Only (fun k => k = b0) w1 w2 := (Only.refl (fun k => k = b0) w1).drew.trans ho2 (fun _ _ h => h)
      have g2 : GhostAt w2 g cur was cur dirty es.length true H := ⟨⟨b0, b1, b2, b3, h1.keep ho2' m2, hb2, h3.keep ho2' n1.symm, h4.keep ho2' n2.symm, h5.keep ho2' m5, n1, n2, n3, f0, f1, f2, f3, f4⟩, l2, l1, l2, l3, fun k hk => Nat.lt_of_lt_of_le (hi k hk) ho2'.size⟩
      have ho3 : Only H w1 w2 := ho2'.mono (fun k _ e => by subst e; exact f1)
      have C2 := hide (shut_any g cur was cur dirty es.length true H w2 g2)
      go_wp2_with fail
      refine (unhide C2).mono ?_
      rintro e w3 ⟨rfl, g3, ho4⟩
      go_wp2_with fail
      go_ret
      have ho5 : Only H w1 w3 := ho3.trans ho4 (fun _ _ h => h)
      have hall : Only (fun k => F k ∨ G k ∨ H k) w w3 := ((o1.mono (fun _ _ h => h.elim)).trans ho1 (fun _ _ h => by rcases h with h | h; exact .inl h; exact .inr (.inl h))).trans ho5 (fun _ _ h => .inr (.inr h))
      have hHi := j0.gh.inn
      have hGi := j0.lg.inn
      refine ⟨by simp, replay blk (commitAll blk es), recs ++ commitAll blk es, false, [], cur, cur, nots 80, ⟨?_, hl1.keep ho5 (fun k hk hh => j0.GH k hk hh), g3, j0.inv.commit_, Ext.off j0.FG hGi, Ext.off j0.FH hHi, j0.GH⟩, hall, .inr ⟨rfl, rfl, rfl, rfl, rfl⟩⟩
      have hs1 := ho5.size
      refine (hd1.keep ho5 ?_).mono ?_ (Ext.in j0.dk.inn hall.size)
      · intro k hk hh; rcases hk with hk | hk
        · exact j0.FH k hk hh
        · have := hHi k hh; simp at hk; omega
      · intro k hk; rcases hk with hk | hk
        · exact .inl hk
        · simp at hk; exact .inr ⟨by omega, by omega⟩

end
end Go.Proofs.Qxb6500415a
