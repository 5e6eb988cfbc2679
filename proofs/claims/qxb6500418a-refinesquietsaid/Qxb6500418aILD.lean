/-
  OWN WORK. THE LAW OF THE INDEX: Alike; the walk's state.
-/
import Derived.Test.Qxb6500418aILC
import Derived.Test.Qxb6500418aICheck
import Derived.Test.Qxb6500418aOpsDef
namespace Go.Proofs.Qxb6500418a
open Go.RowKit Go.PlainAid
set_option linter.unusedSimpArgs false
set_option linter.unusedVariables false

section
variable {w : World} {x m : Nat} {L : List Fl} {H : Nat → Prop}
set_option maxRecDepth 100000 in
set_option maxHeartbeats 1000000 in
theorem ilalike_any (h : JX w x m L H) (s : ByteArray) :
    Calls Try.prog 10 #[.pointer (some ⟨x, 0, none⟩), .pointer (some ⟨m, 0, none⟩), .string s] w fun e w' => e = .returned (.bool true) ∧ Only (fun _ => False) w w' := by
  have hcnt := h.ix.cnt
  have C1 := hide (icheck_any h.ix)
  have C2 := hide (fun W1 (hW : Only (fun _ => False) w W1) => sameList_any (h.quiet hW) true)
  have C3 := hide (fun W1 (hW : Only (fun _ => False) w W1) => xlist_any (h.xa.quiet hW) (by omega))
  have C4 := hide (fun W1 (hW : Only (fun _ => False) w W1) (p : ByteArray) => sameGet_any (h.quiet hW) p)
  clear h
  go_enter Try.func10, Try.ntmps10
  go_wp2_with fail
  refine (unhide C1).mono ?_
  rintro e w1 ⟨rfl, ho1⟩
  go_wp2_with fail
  refine (unhide C2 _ ho1).mono ?_
  rintro e w2 ⟨rfl, ho2⟩
  have ho2 := ho1.trans ho2 (fun _ _ h => h)
  go_wp2_with fail
  refine (unhide C3 _ ho2).mono ?_
  rintro e w3 ⟨v, rfl, hv, hvb, ho3⟩
  have ho3 := ho2.trans ho3 (fun _ _ h => h)
  obtain ⟨a, cap, rfl, hc⟩ := hv.in_
  have Hc := hide hc
  clear C1 C2 C3 ho1 ho2 hv hvb hc
  go_wp2_with fail
  go_loopw [8, 10] (fun sv iv wr => ∃ i : Nat, i ≤ L.length ∧ iv = .int .i64 i ∧ sv = .bool true ∧ Only (fun _ => False) w3 wr) (fun _ iv _ => L.length - (intOf iv).toNat)
  case atStart => exact ⟨0, by omega, rfl, rfl, Only.refl _ _⟩
  case round =>
    obtain ⟨i, hi, rfl, rfl, ho⟩ := hrel
    have hoo := ho3.trans ho (fun _ _ h => h)
    by_cases hil : i < L.length
    · obtain ⟨g, rfl, hg, c0, _, _⟩ := files_at (unhide Hc) ho i hil
      have a1 : decide ((i : Int) < (L.length : Int)) = true := by simp; omega
      have a2 : (i : Int) < (L.length : Int) := by omega
      have C5 := hide (unhide C4 _ hoo L[i].path)
      have HO := hide ho
      clear ho hoo
      generalize L[i].path = ph at *
      go_wp2_with fail
      refine (unhide C5).mono ?_
      rintro e w4 ⟨rfl, ho4⟩
      go_wp2_with fail
      go_roundw
      case rel => exact ⟨i + 1, by omega, by go_num, rfl, (unhide HO).trans ho4 (fun _ _ h => h)⟩
      case measure => simp [intOf]; omega
    · have a1 : decide ((i : Int) < (L.length : Int)) = false := by simp; omega
      have a1' : ¬ (i : Int) < (L.length : Int) := by omega
      have C5 := hide (unhide C4 _ hoo s)
      go_wp2_with fail
      refine (unhide C5).mono ?_
      rintro e w4 ⟨rfl, ho4⟩
      go_wp2_with fail
      go_ret
      exact ⟨rfl, hoo.trans ho4 (fun _ _ h => h)⟩
end

/-- What holds at every round's head. -/
structure LWI (w : World) (x m : Nat) (L : List Fl) (H : Nat → Prop) (hv : Value) (lh : List Fl) (kv : Value) (lw : List Fl) (wr : World) : Prop where
  j : JX wr x m L H
  hh : OwnF wr hv lh
  hk : OwnF wr kv lw
  l1 : lh.length ≤ 9
  l2 : lw.length ≤ 9
  s1 : ∀ y, hv.ownBlock = some y → w.heap.size ≤ y ∧ y ≠ x ∧ ¬ H y
  s2 : ∀ y, kv.ownBlock = some y → w.heap.size ≤ y ∧ y ≠ x ∧ ¬ H y
  d : ∀ y, hv.ownBlock = some y → kv.ownBlock ≠ some y
  hx : w.heap.size ≤ x
  hH : ∀ k, H k → w.heap.size ≤ k
  bel : Below w.heap.size w wr
section
variable {w wr w' : World} {x m : Nat} {L lh lw : List Fl} {H : Nat → Prop} {hv kv : Value}
theorem LWI.quiet (h : LWI w x m L H hv lh kv lw wr) (ho : Only (fun _ => False) wr w') : LWI w x m L H hv lh kv lw w' :=
  ⟨h.j.quiet ho, h.hh.keep ho (fun _ _ h => h), h.hk.keep ho (fun _ _ h => h), h.l1, h.l2, h.s1, h.s2, h.d, h.hx, h.hH, Only.bel h.bel ho (fun _ h => h.elim)⟩
theorem LWI.op (h : LWI w x m L H hv lh kv lw wr) (hp : JP wr w' x m H) : ∃ L' H', LWI w x m L' H' hv lh kv lw w' := by
  obtain ⟨⟨L', H', hj, hH'⟩, ho⟩ := hp
  have hs := h.bel.size
  have b1 := own_lt h.hh
  have b2 := own_lt h.hk
  have hx := h.hx
  have key : ∀ y, y < wr.heap.size → ¬ H y → ¬ H' y := by
    intro y hy hn h'
    rcases hH' y h' with e | e
    · exact hn e
    · omega
  refine ⟨L', H', hj, h.hh.keep ho (fun k hk e => ?_), h.hk.keep ho (fun k hk e => ?_), h.l1, h.l2, fun y hy => ?_, fun y hy => ?_, h.d, h.hx, fun k hk => ?_, Only.bel h.bel ho (fun k e => ?_)⟩
  · have := h.s1 k hk
    rcases e with e | e
    · exact this.2.1 e
    · exact this.2.2 e
  · have := h.s2 k hk
    rcases e with e | e
    · exact this.2.1 e
    · exact this.2.2 e
  · have := h.s1 y hy
    exact ⟨this.1, this.2.1, key y (b1 y hy) this.2.2⟩
  · have := h.s2 y hy
    exact ⟨this.1, this.2.1, key y (b2 y hy) this.2.2⟩
  · rcases hH' k hk with e | e
    · exact h.hH k e
    · omega
  · rcases e with e | e
    · omega
    · exact h.hH k e
theorem LWI.no1 (h : LWI w x m L H hv lh kv lw wr) : LWI w x m L H (.slice none 0 0) [] kv lw wr :=
  ⟨h.j, OwnF.nil _, h.hk, by simp, h.l2, fun y hy => by simp [Value.ownBlock] at hy, h.s2, fun y hy => by simp [Value.ownBlock] at hy, h.hx, h.hH, h.bel⟩
theorem LWI.no2 (h : LWI w x m L H hv lh kv lw wr) : LWI w x m L H hv lh (.slice none 0 0) [] wr :=
  ⟨h.j, h.hh, OwnF.nil _, h.l1, by simp, h.s1, fun y hy => by simp [Value.ownBlock] at hy, fun y hy => by simp [Value.ownBlock], h.hx, h.hH, h.bel⟩
theorem LWI.swap (h : LWI w x m L H hv lh kv lw wr) : LWI w x m L H kv lw hv lh wr :=
  ⟨h.j, h.hk, h.hh, h.l2, h.l1, h.s2, h.s1, fun y hy e => h.d y e hy, h.hx, h.hH, h.bel⟩
theorem LWI.row {o : Obj} {v' : Value} {n : Nat} (h : LWI w x m L H hv lh kv lw wr) (hl : lh.length ≤ 8) (f : Fl) (hown : w'.ownsRow 0 40 3 v' n (flCells lh ++ [.string f.path, .string f.data, .int .i64 f.mode])) (hn : n = lh.length + 1)
    (hgrow : (wr.alloc o).grownBy w' hv.ownBlock) (hwhere : ∀ k, v'.ownBlock = some k → hv.ownBlock = some k ∨ k = wr.heap.size + 1) : LWI w x m L H v' (lh ++ [f]) kv lw w' := by
  subst hn
  have ho : Only (fun k => hv.ownBlock = some k) wr w' := ((Only.refl _ wr).alloc o).grown hgrow (fun b hb _ => hb)
  have hs := h.bel.size
  have hs' := ho.size
  have hxl := h.j.ix.lt
  refine ⟨⟨h.j.ix.keep ho (fun e => (h.s1 x e).2.1 rfl), h.j.xa.keep ho (fun k hk e => (h.s1 k e).2.2 hk), h.j.nx⟩, OwnF.push hown, h.hk.keep ho (fun k hk e => h.d k e hk), by simp; omega, h.l2, fun y hy => ?_, h.s2, fun y hy e => ?_, h.hx, h.hH, Only.bel h.bel ho (fun k e => (h.s1 k e).1)⟩
  · rcases hwhere y hy with e | e
    · exact h.s1 y e
    · exact ⟨by omega, by omega, fun hh => by have := h.j.xa.inn y hh; omega⟩
  · rcases hwhere y hy with e' | e'
    · exact h.d y e' e
    · have := own_lt h.hk y e; omega
theorem LWI.op_keep (h : LWI w x m L H hv lh kv lw wr) (hp : JP wr w' x m H) {ob : Nat} {oc : Array Value} (ko : Has wr ob oc 37) (h1 : ob ≠ x) (h2 : ¬ H ob) : Has w' ob oc 37 :=
  ko.keep hp.ho (fun e => by rcases e with e | e; exact h1 e; exact h2 e)
end
end Go.Proofs.Qxb6500418a
