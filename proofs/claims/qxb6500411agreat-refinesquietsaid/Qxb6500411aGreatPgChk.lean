/-
  OWN WORK. THE PAGER's frameFine, peek, mapFine, Check.
-/
import Derived.Test.Qxb6500411aGreatPgOrd
import Derived.Deep.RegionWith
import Derived.Deep.DeepCutAuto
namespace Go.Proofs.Qxb6500411aGreat
open Go.RowKit
set_option linter.unusedSimpArgs false
set_option linter.unusedVariables false

theorem psame_any (x y : ByteArray) (w : World) :
    Calls Tryz.prog 106 #[.string x, .string y] w fun e w' => e = .returned (.bool (x.toList == y.toList)) ∧ w = w' := by
  go_enter Tryz.func106, Tryz.ntmps106
  go_wp2_with fail
  go_ret
  exact ⟨rfl, rfl⟩
theorem psame_eq (x : ByteArray) (w : World) :
    Calls Tryz.prog 106 #[.string x, .string x] w fun e w' => e = .returned (.bool true) ∧ w = w' := by
  have := psame_any x x w
  have e1 : (x.toList == x.toList) = true := by simp
  rwa [e1] at this

set_option maxRecDepth 100000 in
set_option maxHeartbeats 2000000 in
theorem pframe_any {w : World} {p l d : Nat} {op : Bool} {fr : List Frame} {ord : List Nat} {blk base : List ByteArray} {recs : List (Nat × ByteArray)} {com cur view : List ByteArray} {F G : Nat → Prop} (h : PAt w p l op fr ord) (hl : LG w l d blk base recs op com cur F G) (hi : PInv fr ord op cur view) (f : Nat) (hf : f < 5) :
    Calls Tryz.prog 82 #[.pointer (some ⟨p, 0, Option.none⟩), .int .i64 f] w fun e w' => e = .returned (.bool true) ∧ Only (fun _ => False) w w' := by
  have hpl := h.has.lt
  obtain ⟨q0, q1, q2, q3, _⟩ := h.cells4 f hf
  have hf' : (f : Int) < 5 := by omega
  have hnew : p ≠ w.heap.size := by omega
  have a0 : decide ((f : Int) < 0) = false := by simp
  cases hv : (fa fr f).valid with
  | false =>
    have hn := hi.nul f hv
    rw [hn] at q0 q1 q2 q3
    simp only [Frame.none, emptyB] at q0 q1 q2 q3
    have C1 := hide (fun w => psame_eq ⟨#[]⟩ w)
    clear hv hn hi hl
    go_enter Tryz.func82, Tryz.ntmps82
    go_wp2_with fail
    refine (unhide C1 _).mono ?_
    rintro e w1 ⟨rfl, rfl⟩
    go_wp2_with fail
    go_ret
    exact ⟨rfl, (Only.refl _ w).alloc _⟩
  | true =>
    obtain ⟨h1, h2, h3⟩ := hi.page f hv
    have hu : ∀ j, (fa fr j).valid = true → (fa fr j).page = (fa fr f).page → j = f := fun j hj he => hi.uniq j f hj hv he
    have hdo := hi.dop f hv
    have hcl := hi.clean f hv
    have Hu := hide hu
    have Hdo := hide hdo
    have Hcl := hide hcl
    rw [hv] at q1
    clear hu hdo hcl hi h3 hv
    generalize (fa fr f).page = pg at *
    generalize (fa fr f).dirty = dt at *
    generalize (fa fr f).data = x at *
    have a1 : decide ((pg : Int) < 0) = false := by simp
    have a2 : decide (72 ≤ (pg : Int)) = false := by simp; omega
    have a3 : ((x.size : Int) != 128) = false := by rw [h2]; rfl
    rw [h2] at a3
    have oA : Only (fun _ => False) w (w.alloc (.cells #[.int .i64 (pg : Int), .bool true, .bool dt, .string x] 76)) := (Only.refl _ w).alloc _
    have kA := Has.new w #[.int .i64 (pg : Int), .bool true, .bool dt, .string x] 76
    go_enter Tryz.func82, Tryz.ntmps82
    go_wp2_with fail
    go_loopw [6] (fun v wx => ∃ j : Nat, f < j ∧ j ≤ 5 ∧ v = .int .i64 j ∧ Only (fun _ => False) (w.alloc (.cells #[.int .i64 (pg : Int), .bool true, .bool dt, .string x] 76)) wx) (fun v _ => (5 - intOf v).toNat)
    case atStart => exact ⟨f + 1, by omega, by omega, by go_num, Only.refl _ _⟩
    case round =>
      obtain ⟨j, hj1, hj, rfl, ho⟩ := hrel
      have ho' := oA.trans ho (fun _ _ h => h)
      have g1 := h.keep ho' (fun h => h)
      have gl := hl.quiet ho'
      have kB := kA.keep ho (fun h => h)
      have k0 := kB.cell 0
      have k2 := kB.cell 2
      have k3 := kB.cell 3
      by_cases hj5 : j < 5
      · obtain ⟨s0, s1, _⟩ := g1.cells4 j hj5
        have hne : (fa fr j).valid = true → (fa fr j).page ≠ pg := fun hv he => by have := unhide Hu j hv he; omega
        generalize (fa fr j).valid = vj at *
        generalize (fa fr j).page = pj at *
        have hj' : (j : Int) < 5 := by omega
        cases vj with
        | false =>
          clear hne
          go_wp2_with fail
          go_quiet (fail)
          go_wp2_with fail
          go_roundw
          case rel => exact ⟨j + 1, by omega, by omega, by go_num, ho.drewN' _⟩
          case measure => simp [intOf]; omega
        | true =>
          have hne' : ((pj : Int) == (pg : Int)) = false := ne_int (by have := hne rfl; omega)
          clear hne
          go_wp2_with fail
          go_quiet (fail)
          go_wp2_with fail
          go_roundw
          case rel => exact ⟨j + 1, by omega, by omega, by go_num, ho.drewN' _⟩
          case measure => simp [intOf]; omega
      · obtain ⟨u0, u1, _⟩ := g1.head
        cases dt with
        | true =>
          obtain rfl : op = true := unhide Hdo rfl
          go_wp2_with fail
          go_ret
          exact ⟨rfl, ho'⟩
        | false =>
          have hc := unhide Hcl rfl
          have C1 := lread_any (gl.quiet ((Only.refl (fun _ => False) wr).drew)) pg (by omega)
          rw [hc] at C1
          have C1 := hide C1
          have C2 := hide (fun w => psame_eq x w)
          clear hc
          go_wp2_with fail
          go_region_with (go_at_call 60; refine (unhide C1).mono ?_; rintro e w2 ⟨rfl, rfl⟩)
          all_goals
            go_wp2_with fail
            refine (unhide C2 _).mono ?_
            rintro e w3 ⟨rfl, rfl⟩
            go_wp2_with fail
            go_ret
            exact ⟨rfl, ho'.drew⟩

theorem PG.peekD {w : World} {p l d : Nat} {op : Bool} {fr : List Frame} {ord : List Nat} {cur view : List ByteArray} (hi : PInv fr ord op cur view) (n : Nat) (hn : n < 72) : (∀ i, frameOf fr n = some i → (fa fr i).data = view.getD n emptyB) ∧ (frameOf fr n = none → cur.getD n emptyB = view.getD n emptyB) := by
  refine ⟨fun i h => ?_, fun h => (hi.miss n hn (frameOf_no h)).symm⟩
  obtain ⟨_, hv, hp⟩ := frameOf_hit h
  have := (hi.page i hv).2.2
  rw [hp] at this
  exact this.symm

set_option maxRecDepth 100000 in
theorem ppeek_any {w : World} {p l d : Nat} {op : Bool} {fr : List Frame} {ord : List Nat} {blk base : List ByteArray} {recs : List (Nat × ByteArray)} {com cur view : List ByteArray} {F G : Nat → Prop} (h : PAt w p l op fr ord) (hl : LG w l d blk base recs op com cur F G) (hi : PInv fr ord op cur view) :
    Calls Tryz.prog 107 #[.pointer (some ⟨p, 0, Option.none⟩), .int .i64 0] w fun e w' => e = .returned (.string (view.getD 0 emptyB)) ∧ w = w' := by
  have C1 := pfind_any h 0
  obtain ⟨hA, hB⟩ := PG.peekD (w := w) (p := p) (l := l) (d := d) hi 0 (by omega)
  obtain ⟨g0, _, _⟩ := h.head
  have C2 := lread_any hl 0 (by omega)
  cases hfo : frameOf fr (0 : Nat) with
  | some i =>
    obtain ⟨hi5, hv, hp⟩ := frameOf_hit hfo
    rw [hi.lf] at hi5
    have e1 := hA i hfo
    have hfo' : frameOf fr (0 : Int) = some i := hfo
    rw [hfo'] at C1
    simp only [fidx] at C1
    have C1 := hide C1
    obtain ⟨_, _, _, q3, _⟩ := h.cells4 i hi5
    rw [e1] at q3
    generalize view.getD 0 emptyB = m at *
    have hpos : decide (0 ≤ (i : Int)) = true := by simp
    have hi' : (i : Int) < 5 := by omega
    clear hfo hfo' hv hp hA hB C2 e1 hi
    go_enter Tryz.func107, Tryz.ntmps107
    go_wp2_with fail
    refine (unhide C1).mono ?_
    rintro e w1 ⟨rfl, rfl⟩
    go_wp2_with fail
    go_ret
    exact ⟨rfl, rfl⟩
  | none =>
    have e1 := hB hfo
    have hfo' : frameOf fr (0 : Int) = none := hfo
    rw [hfo'] at C1
    simp only [fidx] at C1
    have C1 := hide C1
    rw [e1] at C2
    have C2 := hide C2
    generalize view.getD 0 emptyB = m at *
    clear hfo hfo' hA hB e1 hi
    go_enter Tryz.func107, Tryz.ntmps107
    go_wp2_with fail
    refine (unhide C1).mono ?_
    rintro e w1 ⟨rfl, rfl⟩
    go_wp2_with fail
    refine (unhide C2).mono ?_
    rintro e w1 ⟨rfl, rfl⟩
    go_wp2_with fail
    go_ret
    exact ⟨rfl, rfl⟩

/-- The bitmap's form: bit 0 clear, all behind the bits zero. -/
def MapOk (m : ByteArray) : Prop := m.size = 128 ∧ bitOf m 0 = false ∧ m.extract 9 128 = zeroB.extract 9 128

set_option maxRecDepth 100000 in
theorem pmap_any {w : World} {p l d : Nat} {op : Bool} {fr : List Frame} {ord : List Nat} {blk base : List ByteArray} {recs : List (Nat × ByteArray)} {com cur view : List ByteArray} {F G : Nat → Prop} (h : PAt w p l op fr ord) (hl : LG w l d blk base recs op com cur F G) (hi : PInv fr ord op cur view) (hm : MapOk (view.getD 0 emptyB)) :
    Calls Tryz.prog 83 #[.pointer (some ⟨p, 0, Option.none⟩)] w fun e w' => e = .returned (.bool true) ∧ Only (fun _ => False) w w' := by
  have C1 := hide (ppeek_any h hl hi)
  generalize view.getD 0 emptyB = m at *
  obtain ⟨m1, m2, m3⟩ := hm
  have C2 : ∀ w, Calls Tryz.prog 104 #[.string m, .int .i64 0] w fun e w' => e = .returned (.bool false) ∧ Only (fun _ => False) w w' := fun w => by
    have := bit_any m 0 m1 (by omega) w
    rw [m2] at this
    exact this
  have C2 := hide C2
  have hz := zeroB_size
  clear m2
  go_enter Tryz.func83, Tryz.ntmps83
  go_wp2_with fail
  refine (unhide C1).mono ?_
  rintro e w1 ⟨rfl, rfl⟩
  go_wp2_with fail
  refine (unhide C2 _).mono ?_
  rintro e w2 ⟨rfl, ho2⟩
  go_wp2_with fail
  go_quiet (fail)
  go_wp2_with fail
  go_ret
  refine ⟨?_, ho2.drewN' _⟩
  show Ending.returned (.bool ((zeroB.extract 9 128).toList == (zeroB.extract 9 128).toList)) = _
  have e1 : ((zeroB.extract 9 128).toList == (zeroB.extract 9 128).toList) = true := by simp
  rw [e1]

section
variable {w : World} {p l d : Nat} {blk base : List ByteArray} {recs : List (Nat × ByteArray)} {op : Bool} {com view : List ByteArray} {F G : Nat → Prop}

set_option maxRecDepth 100000 in
theorem pcheck_any (h : PG w p l d blk base recs op com view F G) (hm : MapOk (view.getD 0 emptyB)) :
    Calls Tryz.prog 48 #[.pointer (some ⟨p, 0, Option.none⟩)] w fun e w' => e = .returned (.bool true) ∧ Only (fun _ => False) w w' := by
  obtain ⟨⟨fr, ord, cur, h1, h2, h3⟩, a, b⟩ := h
  obtain ⟨g0, g1, _⟩ := h1.head
  have C1 : Calls Tryz.prog 58 #[.pointer (some ⟨l, 0, none⟩)] w fun e w' => e = .returned (.bool op) ∧ w = w' := by
    obtain ⟨⟨es, dirty, k1, k2, k3⟩, _, _⟩ := h2
    exact wintxn_any l d op es G w k1
  have C1 := hide C1
  have C2 := hide (porder_any h1 h3)
  have hop : (op != op) = false := by cases op <;> rfl
  go_enter Tryz.func48, Tryz.ntmps48
  go_wp2_with fail
  refine (unhide C1).mono ?_
  rintro e w1 ⟨rfl, rfl⟩
  go_wp2_with fail
  refine (unhide C2).mono ?_
  rintro e w2 ⟨rfl, ho2⟩
  go_wp2_with fail
  go_loopw [4] (fun v wx => ∃ j : Nat, j ≤ 5 ∧ v = .int .i64 j ∧ Only (fun _ => False) w wx) (fun v _ => (5 - intOf v).toNat)
  case atStart => exact ⟨0, by omega, rfl, ho2⟩
  case round =>
    clear ho2
    obtain ⟨j, hj, rfl, ho⟩ := hrel
    have k1 := h1.keep ho (fun h => h)
    have k2 := h2.quiet ho
    by_cases hj5 : j < 5
    · have C3 := hide (pframe_any k1 k2 h3 j hj5)
      have hj' : (j : Int) < 5 := by omega
      go_wp2_with fail
      refine (unhide C3).mono ?_
      rintro e w3 ⟨rfl, ho3⟩
      go_wp2_with fail
      go_roundw
      case rel => exact ⟨j + 1, by omega, by go_num, ho.trans ho3 (fun _ _ h => h)⟩
      case measure => simp [intOf]; omega
    · have C3 := hide (pmap_any k1 k2 h3 hm)
      have hj' : decide ((j : Int) < 5) = false := by simp; omega
      go_wp2_with fail
      refine (unhide C3).mono ?_
      rintro e w3 ⟨rfl, ho3⟩
      go_wp2_with fail
      go_ret
      exact ⟨rfl, ho.trans ho3 (fun _ _ h => h)⟩
end
end Go.Proofs.Qxb6500411aGreat
