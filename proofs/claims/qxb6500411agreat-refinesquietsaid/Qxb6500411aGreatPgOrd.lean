/-
  OWN WORK. THE PAGER's orderFine.
-/
import Derived.Test.Qxb6500411aGreatPgSee
namespace Go.Proofs.Qxb6500411aGreat
open Go.RowKit
set_option linter.unusedSimpArgs false
set_option linter.unusedVariables false

def seenOf (ord : List Nat) (k : Nat) : List Bool := (List.range 5).map (fun j => decide (j ∈ ord.take k))
theorem seenOf_length (ord : List Nat) (k : Nat) : (seenOf ord k).length = 5 := by simp [seenOf]
theorem seenOf_get (ord : List Nat) (k j : Nat) (h : j < (seenOf ord k).length) : (seenOf ord k)[j] = decide (j ∈ ord.take k) := by simp [seenOf]
theorem seenOf_succ (ord : List Nat) (k : Nat) (hk : k < ord.length) (hf : ord[k] < 5) : seenOf ord (k + 1) = (seenOf ord k).set ord[k] true := by
  apply List.ext_getElem (by simp [seenOf_length])
  intro j h1 h2
  rw [List.getElem_set, seenOf_get, List.take_succ_eq_append_getElem hk]
  by_cases e : ord[k] = j
  · rw [if_pos e, e]; exact decide_eq_true (List.mem_append.2 (.inr (List.mem_singleton.2 rfl)))
  · rw [if_neg e, seenOf_get]
    refine decide_eq_decide.2 ⟨fun h => ?_, fun h => List.mem_append.2 (.inl h)⟩
    rcases List.mem_append.1 h with h | h
    · exact h
    · exact absurd (List.mem_singleton.1 h).symm e

set_option maxRecDepth 100000 in
set_option maxHeartbeats 1000000 in
theorem porder_any {w : World} {p l : Nat} {op : Bool} {fr : List Frame} {ord : List Nat} {cur view : List ByteArray} (h : PAt w p l op fr ord) (hi : PInv fr ord op cur view) :
    Calls Tryz.prog 81 #[.pointer (some ⟨p, 0, Option.none⟩)] w fun e w' => e = .returned (.bool true) ∧ Only (fun _ => False) w w' := by
  have lo := h.lo
  have hpl := h.has.lt
  have hin := hi.oin
  have hnd := hi.ond
  have hpw := hi.opw
  clear hi
  go_enter Tryz.func81, Tryz.ntmps81
  go_wp2_with fail
  go_loopw [4] (fun i wr => ∃ k : Nat, k ≤ 5 ∧ i = .int .i64 k ∧ Has wr w.heap.size (bools (seenOf ord k)) 106 ∧ Only (fun _ => False) w wr) (fun i _ => (5 - intOf i).toNat)
  case atStart => exact ⟨0, by omega, rfl, Has.new w _ _, (Only.refl _ w).alloc _⟩
  case round =>
    obtain ⟨k, hk, rfl, hs, ho⟩ := hrel
    have hsz := ho.size
    by_cases hk5 : k < 5
    · have h1 := h.keep ho (fun h => h)
      have q0 := h1.has.cell (22 + k)
      rw [pcells_ord k h1.lf h1.lo hk5] at q0
      have hf5 : ord[k]'(by omega) < 5 := hin _ (List.getElem_mem _)
      have hnew : ord[k]'(by omega) ∉ ord.take k := by
        intro hm
        obtain ⟨j, hj, he⟩ := List.mem_iff_getElem.1 hm
        have hj' : j < k := by simp at hj; omega
        rw [List.getElem_take] at he
        exact (List.pairwise_iff_getElem.1 hnd) j k (by omega) (by omega) hj' he
      have hsucc := seenOf_succ ord k (by omega) hf5
      have c1 := hs.cell (ord[k]'(by omega))
      rw [bools_get _ _ (by rw [seenOf_length]; exact hf5), seenOf_get] at c1
      have hdec : decide (ord[k]'(by omega) ∈ ord.take k) = false := by simpa using hnew
      rw [hdec] at c1
      generalize ord[k]'(by omega) = f at *
      have z1 := hs.free f
      have g1 := hs.setCell f (.bool true)
      rw [bools_set, ← hsucc] at g1
      have Hg := hide g1
      clear hsucc hnew hdec g1 hin hnd hpw
      have a1 : decide ((f : Int) < 0) = false := by simp
      have a2 : decide (5 ≤ (f : Int)) = false := by simp; omega
      have a3 : (f : Int) < 5 := by omega
      go_wp2_with fail
      go_roundw
      case rel => exact ⟨k + 1, by omega, by go_num, unhide Hg, ho.setCell (p := ⟨w.heap.size, f, none⟩) (fun hlt => absurd hlt (Nat.lt_irrefl _)) _⟩
      case measure => simp [intOf]; omega
    · go_wp2_with fail
      have h1 := h.keep ho (fun h => h)
      clear hs
      clear hsz
      generalize hww : wr = wr0 at *
      clear hww
      go_loopw [6] (fun v wx => ∃ j : Nat, 1 ≤ j ∧ j ≤ 5 ∧ v = .int .i64 j ∧ Only (fun _ => False) w wx) (fun v _ => (5 - intOf v).toNat)
      case atStart => exact ⟨1, by omega, by omega, rfl, ho⟩
      case round =>
        clear h1 ho
        obtain ⟨j, hj1, hj, rfl, ho⟩ := hrel
        have h1 := h.keep ho (fun h => h)
        by_cases hj5 : j < 5
        · obtain ⟨i, rfl⟩ : ∃ i, j = i + 1 := ⟨j - 1, by omega⟩
          have q0 := h1.has.cell (22 + (i + 1))
          rw [pcells_ord (i + 1) h1.lf h1.lo hj5] at q0
          have q1 := h1.has.cell (22 + i)
          rw [pcells_ord i h1.lf h1.lo (by omega)] at q1
          have hfa : ord[i + 1]'(by omega) < 5 := hin _ (List.getElem_mem _)
          have hfb : ord[i]'(by omega) < 5 := hin _ (List.getElem_mem _)
          have himp := (List.pairwise_iff_getElem.1 hpw) i (i + 1) (by omega) (by omega) (by omega)
          generalize ord[i + 1]'(by omega) = fa1 at *
          generalize ord[i]'(by omega) = fb1 at *
          obtain ⟨_, r1, _⟩ := h1.cells4 fa1 hfa
          obtain ⟨_, r2, _⟩ := h1.cells4 fb1 hfb
          generalize (fa fr fa1).valid = va at *
          generalize (fa fr fb1).valid = vb at *
          have e1 : ((i + 1 : Nat) : Int) - 1 = (i : Int) := by omega
          have a1 : ((i + 1 : Nat) : Int) < 5 := by omega
          have a2 : (i : Int) < 5 := by omega
          have a3 : (fa1 : Int) < 5 := by omega
          have a4 : (fb1 : Int) < 5 := by omega
          clear hpw hin hnd
          cases va with
          | false =>
            go_wp2_with fail
            go_quiet (fail)
            go_wp2_with fail
            go_roundw
            case rel => exact ⟨i + 1 + 1, by omega, by omega, by go_num, ho.drewN' _⟩
            case measure => simp [intOf]; omega
          | true =>
            obtain rfl : vb = true := himp rfl
            go_wp2_with fail
            go_quiet (fail)
            go_wp2_with fail
            go_roundw
            case rel => exact ⟨i + 1 + 1, by omega, by omega, by go_num, ho.drewN' _⟩
            case measure => simp [intOf]; omega
        · go_wp2_with fail
          go_ret
          exact ⟨rfl, ho⟩
end Go.Proofs.Qxb6500411aGreat
