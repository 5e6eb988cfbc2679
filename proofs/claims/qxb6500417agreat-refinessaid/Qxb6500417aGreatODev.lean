/-
  OWN WORK. THE DEVICE: its memory; Read, Steps, Mark, New.
-/
import Derived.Test.Qxb6500417aGreatOTab
import Derived.BigRegion
import Derived.BigQuiet
import Derived.Deep.QuietTactic
import Derived.Deep.RegionHeld3
import Derived.Deep.AppendLies
namespace Go.Proofs.Qxb6500417aGreat
open Go.RowKit
set_option linter.unusedSimpArgs false
set_option linter.unusedVariables false

abbrev Rec := Nat × (Nat → Nat)
def recAt (recs : List Rec) : List Value := recs.map (fun r => .int .i64 (r.1 : Int))
def recDat (recs : List Rec) : List Value := recs.flatMap (fun r => (List.range 64).map (u8f r.2))

structure DevAt (w : World) (d : Nat) (D B : Nat → Nat) (recs : List Rec) (F : Nat → Prop) : Prop where
  ex : ∃ b0 b1 av dv, Has w d #[.slice (some ⟨b0, 0, none⟩) 9280 9280, .slice (some ⟨b1, 0, none⟩) 9280 9280, av, dv] 93 ∧ Has w b0 (tabV 9280 (u8f D)) 5 ∧ Has w b1 (tabV 9280 (u8f B)) 5 ∧
    w.ownsRow 0 3 1 av recs.length (recAt recs) ∧ w.ownsRow 0 5 1 dv (64 * recs.length) (recDat recs) ∧ b0 ≠ b1 ∧ F d ∧ F b0 ∧ F b1 ∧ (∀ k, av.ownBlock = some k → F k) ∧ (∀ k, dv.ownBlock = some k → F k ∧ k ≠ b0 ∧ k ≠ b1)
  inn : ∀ k, F k → k < w.heap.size

section
variable {w : World} {d : Nat} {D B : Nat → Nat} {recs : List Rec} {F : Nat → Prop}

theorem DevAt.keep {S : Nat → Prop} {w' : World} (h : DevAt w d D B recs F) (ho : Only S w w') (hS : ∀ k, F k → ¬ S k) : DevAt w' d D B recs F := by
  obtain ⟨⟨b0, b1, av, dv, h1, h2, h3, h4, h5, n1, f, f0, f1, fa, fd⟩, hi⟩ := h
  exact ⟨⟨b0, b1, av, dv, h1.keep ho (hS _ f), h2.keep ho (hS _ f0), h3.keep ho (hS _ f1), ownsRow_keep h4 ho (fun k hk => hS k (fa k hk)), ownsRow_keep h5 ho (fun k hk => hS k (fd k hk).1), n1, f, f0, f1, fa, fd⟩, fun k hk => Nat.lt_of_lt_of_le (hi k hk) ho.size⟩
theorem DevAt.quiet {w' : World} (h : DevAt w d D B recs F) (ho : Only (fun _ => False) w w') : DevAt w' d D B recs F := h.keep ho (fun _ _ h => h)
theorem DevAt.mono {G : Nat → Prop} (h : DevAt w d D B recs F) (hG : ∀ k, F k → G k) (hi' : ∀ k, G k → k < w.heap.size) : DevAt w d D B recs G := by
  obtain ⟨⟨b0, b1, av, dv, h1, h2, h3, h4, h5, n1, f, f0, f1, fa, fd⟩, hi⟩ := h
  exact ⟨⟨b0, b1, av, dv, h1, h2, h3, h4, h5, n1, hG _ f, hG _ f0, hG _ f1, fun k hk => hG _ (fa k hk), fun k hk => ⟨hG _ (fd k hk).1, (fd k hk).2⟩⟩, hi'⟩

theorem dvsteps_any (h : DevAt w d D B recs F) :
    Calls Tryz.prog 35 #[.pointer (some ⟨d, 0, none⟩)] w fun e w' => e = .returned (.int .i64 recs.length) ∧ w = w' := by
  obtain ⟨⟨b0, b1, av, dv, h1, h2, h3, h4, h5, n1, f, f0, f1, fa, fd⟩, hi⟩ := h
  obtain ⟨a, cap, rfl⟩ := ownsRow_shape h4
  have c2 := h1.cell 2
  generalize recs.length = n at *
  go_enter Tryz.func35, Tryz.ntmps35
  go_wp2
  go_ret
  exact ⟨rfl, rfl⟩

def blkF (D : Nat → Nat) (b : Nat) : Nat → Nat := fun j => D (b * 64 + j)

set_option maxRecDepth 100000 in
set_option maxHeartbeats 1000000 in
theorem dvread_in (h : DevAt w d D B recs F) (b : Nat) (hb : b < 145) :
    Calls Tryz.prog 125 #[.pointer (some ⟨d, 0, none⟩), .int .i64 b] w fun e w' => e = .returned (.tuple #[.slice (some ⟨w.heap.size, 0, none⟩) 64 64, .int .i64 0]) ∧ Has w' w.heap.size (tabV 64 (u8f (blkF D b))) 5 ∧ Only (fun _ => False) w w' := by
  obtain ⟨⟨b0, b1, av, dv, h1, h2, h3, h4, h5, n1, f, f0, f1, fa, fd⟩, hi⟩ := h
  have hm : (Instr.makeSlice 90 (.int .i64 64) (.int .i64 64)).run Tryz.prog w = .ok (.slice (some ⟨w.heap.size, 0, none⟩) 64 64) (w.alloc (.cells (tabV 64 (u8f (fun _ => 0))) 5)) := run_make_bytes w 64 (by omega)
  have hdl := h1.lt
  have hbl := h2.lt
  have a0 : decide ((b : Int) < 0) = false := by simp
  have a1 : decide (145 ≤ (b : Int)) = false := by simp; omega
  clear h3 h4 h5 fa fd hi
  go_enter Tryz.func125, Tryz.ntmps125
  go_wp2_with fail
  go_loopw [7] (fun v wr => ∃ k : Nat, k ≤ 64 ∧ v = .int .i64 k ∧ Has wr w.heap.size (tabV 64 (u8f (fun j => if j < k then blkF D b j else 0))) 5 ∧ Only (fun _ => False) w wr) (fun v _ => (64 - intOf v).toNat)
  case atStart => exact ⟨0, by omega, rfl, by simpa using Has.new w (tabV 64 (u8f (fun _ => 0))) 5, (Only.refl _ w).alloc _⟩
  case round =>
    obtain ⟨k, hk, rfl, hs, ho⟩ := hrel
    have g1 := h1.keep ho (fun h => h)
    have g2 := h2.keep ho (fun h => h)
    have c0 := g1.cell 0
    by_cases hk6 : k < 64
    · have c1 := g2.cell (b * 64 + k)
      rw [u8_get _ _ _ (by omega)] at c1
      have c2 := hs.cell k
      rw [u8_get _ _ _ hk6] at c2
      have z2 := hs.free k
      have s1 := hs.setCell k (.int .u8 (D (b * 64 + k) : Int))
      rw [u8_set] at s1
      have e1 : tabV 64 (u8f (fun j => if j = k then D (b * 64 + k) else if j < k then blkF D b j else 0)) = tabV 64 (u8f (fun j => if j < k + 1 then blkF D b j else 0)) := by
        apply u8_congr
        intro j hj
        unfold blkF
        by_cases e : j = k
        · subst e; rw [if_pos rfl, if_pos (by omega)]
        · rw [if_neg e]
          by_cases e' : j < k
          · rw [if_pos e', if_pos (by omega)]
          · rw [if_neg e', if_neg (by omega)]
      rw [e1] at s1
      have Hs := hide s1
      clear s1 e1
      generalize D (b * 64 + k) = y at *
      generalize (if k < k then blkF D b k else 0) = z at *
      have i2 : (b : Int) * 64 + (k : Int) < 9280 := by omega
      have i3 : (0 : Int) ≤ (b : Int) * 64 + (k : Int) := by omega
      have hk' : (k : Int) < 64 := by omega
      go_wp2_with fail
      go_roundw
      case rel => exact ⟨k + 1, by omega, by go_num, unhide Hs, ho.setCell (p := ⟨w.heap.size, k, none⟩) (fun hlt => absurd hlt (Nat.lt_irrefl _)) _⟩
      case measure => simp [intOf]; omega
    · obtain rfl : k = 64 := by omega
      have e1 : tabV 64 (u8f (fun j => if j < 64 then blkF D b j else 0)) = tabV 64 (u8f (blkF D b)) := u8_congr _ (fun j hj => by rw [if_pos hj])
      rw [e1] at hs
      have Hs := hide hs
      clear hs e1
      go_wp2_with fail
      go_ret2
      exact ⟨rfl, unhide Hs, ho⟩
end
end Go.Proofs.Qxb6500417aGreat
