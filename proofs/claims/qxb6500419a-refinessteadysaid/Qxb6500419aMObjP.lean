/-
  OWN WORK. THE OBJECT MODEL: plain.
-/
import Derived.Test.Qxb6500419aMObj
namespace Go.Proofs.Qxb6500419a
open Go.RowKit
set_option linter.unusedSimpArgs false
set_option linter.unusedVariables false

def mzero (rt : Nat) : Nat → Value := mcell (fun _ => MS.zero) rt (.pointer none) (.slice none 0 0)
theorem mstore_zero : Try.zeroCells53 = tabV 150 (mcell (fun _ => MS.zero) 0 (.pointer none) (.slice none 0 0)) := by kernel_rfl
theorem mstore_new (rt : Nat) : Try.zeroCells53.setIfInBounds 147 (.int .i64 (rt : Int)) = tabV 150 (mcell (fun _ => MS.zero) rt (.pointer none) (.slice none 0 0)) := by
  rw [mstore_zero, tabV_set]
  apply tabV_congr
  intro j hj
  by_cases e : j = 147
  · subst e; rfl
  · rw [if_neg e]; exact mcell_eq j hj (fun _ _ _ _ _ => rfl) (fun h => absurd h e) (fun _ => rfl) (fun _ => rfl)

theorem bytesAt_ofP {w : World} {g n : Nat} {x : Nat → Nat} (h : Has w g (tabV n (u8f x)) 5) : BytesAt w (.slice (some ⟨g, 0, none⟩) n n) n x := by
  refine ⟨_, _, rfl, fun hn => ⟨g, rfl, fun j hj => ?_⟩⟩
  rw [h.cell, u8_get _ _ _ hj]
/-- What plain's loop has copied. -/
structure PlI (w : World) (c : Nat) (ob : Nat → Ob) (rt k : Nat) (wr : World) : Prop where
  ex : ∃ sl, MM wr c sl rt (.pointer none) (.slice none 0 0) ∧ ∀ i, In i → i < k → (sl i).st = (ob i).st ∧ (sl i).kd = (ob i).kd ∧ BytesAt wr (sl i).v (ob i).dat.length (dF (ob i).dat) ∧ ∀ g, (sl i).v.ownBlock = some g → c < g ∧ g < wr.heap.size
  ho : Only (fun _ => False) w wr

section
variable {w : World} {m : Nat} {ob : Nat → Ob} {rt : Nat} {hist : Value} {H : Nat → Prop}

set_option maxRecDepth 100000 in
set_option maxHeartbeats 4000000 in
theorem mplain_any (h : MAt w m ob rt hist H) :
    Calls Try.prog 25 #[.pointer (some ⟨m, 0, none⟩)] w fun e w' => e = .returned (.pointer (some ⟨w.heap.size, 0, none⟩)) ∧ MAt w' w.heap.size ob rt (.slice none 0 0) (Ext (fun _ => False) w w') ∧ Only (fun _ => False) w w' := by
  obtain ⟨⟨sl, base, hm, hi⟩, ho1, hn⟩ := h
  have cr := hm.root.1
  have hml := Has.lt hm
  have hz : MM (w.alloc (.cells (Try.zeroCells53.setIfInBounds 147 (.int .i64 (rt : Int))) 53)) w.heap.size (fun _ => MS.zero) rt (.pointer none) (.slice none 0 0) := by
    have := Has.new w (Try.zeroCells53.setIfInBounds 147 (.int .i64 (rt : Int))) 53
    exact (congrArg (fun a => Has (w.alloc (.cells (Try.zeroCells53.setIfInBounds 147 (.int .i64 (rt : Int))) 53)) w.heap.size a 53) (mstore_new rt)).mp this
  have hI0 : PlI w w.heap.size ob rt 1 (w.alloc (.cells (Try.zeroCells53.setIfInBounds 147 (.int .i64 (rt : Int))) 53)) := ⟨⟨_, hz, fun i hin hlt => by have := hin.1; omega⟩, (Only.refl _ w).alloc _⟩
  have HI0 := hide hI0
  have HM := hide hm
  have Hi := hide hi
  clear hI0 hz hm hi
  go_enter Try.func25, Try.ntmps25
  go_wp2_with fail
  generalize w.alloc (.cells (Try.zeroCells53.setIfInBounds 147 (.int .i64 (rt : Int))) 53) = w0 at *
  generalize Try.zeroCells53.setIfInBounds 147 (.int .i64 (rt : Int)) = zc at *
  generalize hcc : w.heap.size = c at *
  have Hcc := hide hcc
  clear hcc
  go_loopw [4] (fun kv wr => ∃ k : Nat, 1 ≤ k ∧ k ≤ 49 ∧ kv = .int .i64 k ∧ PlI w c ob rt k wr) (fun kv _ => (49 - intOf kv).toNat)
  case atStart => exact ⟨1, by omega, by omega, rfl, unhide HI0⟩
  case round =>
    clear HI0
    obtain ⟨k, hk1, hk, rfl, ⟨sc, hC, hcp⟩, ho⟩ := hrel
    by_cases hk8 : k < 49
    · have hin : In k := ⟨hk1, by omega⟩
      have hM := (unhide HM).keep ho (fun h => h)
      have a1 : decide ((k : Int) ≤ 48) = true := by simp; omega
      have a2 : (k : Int) < 49 := by omega
      have z0 := (hM.state k hk8).1
      have z1 := (hM.slot k 1 hk8 (by omega)).1
      have z2 := (hM.slot k 2 hk8 (by omega)).1
      obtain ⟨i1, i2, i180, i3, i4⟩ := (unhide Hi) k hin
      simp only [msCell] at z1 z2
      rw [i1] at z0
      rw [i2] at z1
      have y0 := hC.state k hk8
      have y1 := hC.slot k 1 hk8 (by omega)
      have y2 := hC.slot k 2 hk8 (by omega)
      simp only [msCell] at y1 y2
      have hcl := Has.lt hC
      have hmw := Has.lt hM
      have hcm : c ≠ m := by have := unhide Hcc; omega
      have b3 := i3.keep ho (fun _ _ h => h)
      have C1 := hide (fun (wx : World) (hx : Only (fun _ => False) wr wx) => copyBytes_any (sl k).v (ob k).dat.length (dF (ob k).dat) (b3.keep hx (fun _ _ h => h)) (by omega))
      have HC := hide hC
      have Hcp := hide hcp
      clear hC hcp hM i1 i2 i3 i4 b3
      generalize (sl k).v = v at *
      generalize hst : (ob k).st = st at *
      generalize hkd : (ob k).kd = kd at *
      generalize hnn : (ob k).dat.length = n at *
      have Hst := hide hst.symm
      have Hkd := hide hkd.symm
      have Hnn := hide hnn
      clear hst hkd hnn
      generalize (sc k).st = s0 at *
      generalize (sc k).kd = s1 at *
      generalize (sc k).v = s2 at *
      have hP : PlI w c ob rt (k + 1) (((((wr.setCell ⟨c, k * 3, none⟩ (.int .i64 (st : Int))).setCell ⟨c, k * 3 + 1, none⟩ (.int .i64 (kd : Int))).setCell ⟨c, k * 3 + 2, none⟩ (.slice (some ⟨wr.heap.size, 0, none⟩) n n)).alloc (.cells (tabV n (u8f (dF (ob k).dat))) 5)).drew) := by
        have hwz := ho.size
        have hcw : ¬ c < w.heap.size := by have := unhide Hcc; omega
        have e1 := (unhide HC).putSlot k hk8 ⟨st, kd, .slice (some ⟨wr.heap.size, 0, none⟩) n n⟩
        have o1 : Only (fun x => x = c) wr _ := (((Only.refl (fun x => x = c) wr).setCell (p := ⟨c, k * 3, none⟩) (fun _ => rfl) (.int .i64 (st : Int))).setCell (p := ⟨c, k * 3 + 1, none⟩) (fun _ => rfl) (.int .i64 (kd : Int))).setCell (p := ⟨c, k * 3 + 2, none⟩) (fun _ => rfl) (.slice (some ⟨wr.heap.size, 0, none⟩) n n)
        have o2 := (o1.alloc (.cells (tabV n (u8f (dF (ob k).dat))) 5)).drew
        refine ⟨⟨updT sc k ⟨st, kd, .slice (some ⟨wr.heap.size, 0, none⟩) n n⟩, Has.drew (Has.alloc e1 _), fun i hin2 hlt => ?_⟩, ho.trans o2 (fun y hy e => absurd (e ▸ hy) hcw)⟩
        by_cases e : i = k
        · subst e
          rw [updT_same, unhide Hnn]
          refine ⟨unhide Hst, unhide Hkd, ?_, ?_⟩
          · exact bytesAt_ofP (Has.drew (Has.new' _ _ _ wr.heap.size (by simp)))
          · intro g hg
            have : wr.heap.size = g := by simpa [Value.ownBlock] using hg
            subst this
            exact ⟨hcl, by simp⟩
        · rw [updT_other _ _ _ _ e]
          obtain ⟨q1, q2, q3, q4⟩ := (unhide Hcp) i hin2 (by omega)
          refine ⟨q1, q2, q3.keep o2 (fun g hg e => by have := (q4 g hg).1; omega), fun g hg => ⟨(q4 g hg).1, ?_⟩⟩
          have := (q4 g hg).2
          have := o2.size
          omega
      have HP := hide hP
      clear hP
      go_wp2_with fail
      go_region_with (go_at_call 48; refine ((unhide C1) _ ?_).mono ?_; exact (Only.refl (fun _ => False) _).drew; rintro e w2 ⟨rfl, rfl⟩)
      all_goals
        go_wp2_with fail
        go_roundw
        case rel => exact ⟨k + 1, by omega, by omega, by go_num, unhide HP⟩
        case measure => simp [intOf]; omega
    · obtain rfl : k = 49 := by omega
      go_wp2_with fail
      go_ret
      have hc := unhide Hcc
      have hwz := ho.size
      rw [hc]
      refine ⟨rfl, ⟨⟨sc, _, hC, fun i hin => ?_⟩, .inr ⟨by omega, Has.lt hC⟩, fun y hy => ?_⟩, ho⟩
      · obtain ⟨q1, q2, q3, q4⟩ := hcp i hin (by have := hin.2; omega)
        exact ⟨q1, q2, ((unhide Hi) i hin).2.2.1, q3, fun g hg => ⟨.inr ⟨by have := (q4 g hg).1; omega, (q4 g hg).2⟩, by have := (q4 g hg).1; omega⟩⟩
      · rcases hy with hy | hy
        · exact hy.elim
        · exact hy.2
end
end Go.Proofs.Qxb6500419a
