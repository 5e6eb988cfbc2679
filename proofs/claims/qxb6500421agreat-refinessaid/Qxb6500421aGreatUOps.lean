/-
  OWN WORK. THE TREE MODEL: Abort, Mark, Clone, Crashed, New.
-/
import Derived.Test.Qxb6500421aGreatUPln
namespace Go.Proofs.Qxb6500421aGreat
open Go.RowKit Go.PlainAid
set_option linter.unusedSimpArgs false
set_option linter.unusedVariables false

section
variable {w : World} {m : Nat} {J : Nat → Sl} {rt : Nat} {hist : Value} {H : Nat → Prop}

set_option maxRecDepth 100000 in
set_option maxHeartbeats 2000000 in
theorem uabort_any (h : UAt w m J rt hist H) :
    Calls Tryz.prog 31 #[.pointer (some ⟨m, 0, none⟩)] w fun e w' => e = .returned (.tuple #[]) ∧ UAt w' m (fun i => abortS (J i)) rt hist H ∧ Only (fun k => k = m) w w' := by
  have h0 : UAt w m (upS abortS J 1) rt hist H := h.ext (fun i hin => by
    have := hin.1
    unfold upS
    rw [if_neg (by omega)]
    try rfl)
  have H0 := hide h0
  clear h h0
  go_enter Tryz.func31, Tryz.ntmps31
  go_wp2_with fail
  go_loopw [2] (fun kv wr => ∃ k : Nat, 1 ≤ k ∧ k ≤ 49 ∧ kv = .int .i64 k ∧ UAt wr m (upS abortS J k) rt hist H ∧ Only (fun k => k = m) w wr) (fun kv _ => (49 - intOf kv).toNat)
  case atStart => exact ⟨1, by omega, by omega, rfl, unhide H0, Only.refl _ _⟩
  case round =>
    clear H0
    obtain ⟨k, hk1, hk, rfl, hM, ho⟩ := hrel
    by_cases hk8 : k < 49
    · have hin : In k := ⟨hk1, by omega⟩
      have a1 : decide ((k : Int) ≤ 48) = true := by simp; omega
      have a2 : (k : Int) < 49 := by omega
      obtain ⟨dv, lv, kv, hc5⟩ := hM.cells hin
      have z0 := hc5.c0
      have z1 := hc5.c1
      have z2 := hc5.c2
      have z3 := hc5.c3
      have z4 := hc5.c4
      clear hc5
      have hat := upS_at abortS J k
      have hsu := upS_succ abortS J k
      rw [hat] at z0 z1
      by_cases e1 : (J k).st = 1
      · have ea : abortS (J k) = Sl.free := by unfold abortS; rw [if_pos e1]
        rw [ea] at hsu
        have hp := hM.clear hin
        rw [← hsu] at hp
        have Hp := hide hp
        rw [e1] at z0
        clear hp hM hsu hat ea
        generalize (J k).kd = kd at *
        go_wp2_with fail
        go_roundw
        case rel => exact ⟨k + 1, by omega, by omega, by go_num, unhide Hp, only5 ho (fun _ => rfl) US.zero⟩
        case measure => simp [intOf]; omega
      · by_cases e3 : (J k).st = 3
        · have ea : abortS (J k) = stS (J k) 2 := by unfold abortS; rw [if_neg e1, if_pos e3]
          have hp := hM.setSt hin 2
          rw [hat, ← ea, ← hsu] at hp
          have Hp := hide hp
          rw [e3] at z0
          clear hp hM hsu hat ea
          generalize (J k).kd = kd at *
          go_wp2_with fail
          go_roundw
          case rel => exact ⟨k + 1, by omega, by omega, by go_num, unhide Hp, ho.setCell (p := ⟨m, k * 5, none⟩) (fun _ => rfl) _⟩
          case measure => simp [intOf]; omega
        · have ea : abortS (J k) = J k := by unfold abortS; rw [if_neg e1, if_neg e3]
          have hsame : upS abortS J (k + 1) = upS abortS J k := by
            rw [hsu, ea]
            have := updT_self (upS abortS J k) k
            rw [hat] at this
            exact this
          rw [← hsame] at hM
          have Hp := hide hM
          clear hM hsu hat ea hsame
          generalize (J k).kd = kd at *
          generalize (J k).st = st at *
          have b1 : ((st : Int) == 1) = false := ne_intO (by omega)
          have b3 : ((st : Int) == 3) = false := ne_intO (by omega)
          go_wp2_with fail
          go_roundw
          case rel => exact ⟨k + 1, by omega, by omega, by go_num, unhide Hp, ho⟩
          case measure => simp [intOf]; omega
    · obtain rfl : k = 49 := by omega
      have hM' : UAt wr m (fun i => abortS (J i)) rt hist H := hM.ext (fun i hin => by
        have := hin.2
        unfold upS
        rw [if_pos (by omega)]
        try rfl)
      have HM := hide hM'
      clear hM hM'
      go_wp2_with fail
      go_end0
      exact ⟨rfl, unhide HM, ho⟩

set_option maxRecDepth 100000 in
theorem umark_any (h : UAt w m J rt hist H) :
    Calls Tryz.prog 16 #[.pointer (some ⟨m, 0, none⟩)] w fun e w' => e = .returned (.tuple #[]) ∧ UAt w' m J rt (.slice none 0 0) H ∧ Only (fun k => k = m) w w' := by
  have C1 := hide (uplain_any h)
  have hml := h.lt
  go_enter Tryz.func16, Tryz.ntmps16
  go_wp2_with fail
  refine (unhide C1).mono ?_
  rintro e w1 ⟨rfl, h1, ho1⟩
  have C2 := hide (uabort_any h1)
  go_wp2_with fail
  refine (unhide C2).mono ?_
  rintro e w2 ⟨rfl, h2, ho2⟩
  have hA := (h.quiet ho1).keep ho2 (fun k hk e => by have := h.inn k hk; omega)
  obtain ⟨_, ⟨b, z8⟩, _⟩ := hA.rows
  have hB := hA.setBase (.pointer (some ⟨w.heap.size, 0, none⟩))
  obtain ⟨_, _, z9⟩ := hB.rows
  have hC := hB.setHist (.slice none 0 0)
  have HC := hide hC
  have o2 : Only (fun k => k = m) w w2 := (ho1.mono (fun _ _ h => h.elim)).trans ho2 (fun i hi e => by omega)
  clear hA hB hC C1 C2 h1 h2 h
  generalize w.heap.size = c at *
  go_wp2_with fail
  go_end0
  exact ⟨rfl, unhide HC, (o2.setCell (p := ⟨m, 246, none⟩) (fun _ => rfl) _).setCell (p := ⟨m, 247, none⟩) (fun _ => rfl) _⟩

theorem uclone_any (h : UAt w m J rt hist H) :
    Calls Tryz.prog 11 #[.pointer (some ⟨m, 0, none⟩)] w fun e w' => e = .returned (.pointer (some ⟨w.heap.size, 0, none⟩)) ∧ UAt w' w.heap.size J rt (.slice none 0 0) (Ext (fun _ => False) w w') ∧ Only (fun _ => False) w w' := by
  have C1 := hide (uplain_any h)
  go_enter Tryz.func11, Tryz.ntmps11
  go_wp2_with fail
  refine (unhide C1).mono ?_
  rintro e w1 ⟨rfl, h1, ho1⟩
  have C2 := hide (umark_any h1)
  have z1 := ho1.size
  go_wp2_with fail
  refine (unhide C2).mono ?_
  rintro e w2 ⟨rfl, h2, ho2⟩
  have z2 := ho2.size
  go_wp2_with fail
  go_ret
  refine ⟨rfl, h2.mono ?_ ?_, ho1.trans ho2 (fun i hi e => by omega)⟩
  · intro k hk
    rcases hk with hk | hk
    · exact hk.elim
    · exact .inr ⟨hk.1, by omega⟩
  · intro k hk
    rcases hk with hk | hk
    · exact hk.elim
    · exact hk.2

theorem ucrashed_any (h : UAt w m J rt hist H) :
    Calls Tryz.prog 20 #[.pointer (some ⟨m, 0, none⟩)] w fun e w' => e = .returned (.pointer (some ⟨w.heap.size, 0, none⟩)) ∧ UAt w' w.heap.size (fun i => abortS (J i)) rt (.slice none 0 0) (Ext (fun _ => False) w w') ∧ Only (fun _ => False) w w' := by
  have C1 := hide (uplain_any h)
  go_enter Tryz.func20, Tryz.ntmps20
  go_wp2_with fail
  refine (unhide C1).mono ?_
  rintro e w1 ⟨rfl, h1, ho1⟩
  have C2 := hide (uabort_any h1)
  have z1 := ho1.size
  go_wp2_with fail
  refine (unhide C2).mono ?_
  rintro e w2 ⟨rfl, h2, ho2⟩
  have C3 := hide (umark_any h2)
  have z2 := ho2.size
  go_wp2_with fail
  refine (unhide C3).mono ?_
  rintro e w3 ⟨rfl, h3, ho3⟩
  have z3 := ho3.size
  go_wp2_with fail
  go_ret
  refine ⟨rfl, h3.mono ?_ ?_, (ho1.trans ho2 (fun i hi e => by omega)).trans ho3 (fun i hi e => by omega)⟩
  · intro k hk
    rcases hk with hk | hk
    · exact hk.elim
    · exact .inr ⟨hk.1, by omega⟩
  · intro k hk
    rcases hk with hk | hk
    · exact hk.elim
    · exact hk.2


theorem unew_any (w : World) :
    Calls Tryz.prog 10 #[] w fun e w' => e = .returned (.pointer (some ⟨w.heap.size, 0, none⟩)) ∧ UAt w' w.heap.size (fun _ => Sl.free) 0 (.slice none 0 0) (Ext (fun _ => False) w w') ∧ Only (fun _ => False) w w' := by
  have h0 : UAt (w.alloc (.cells Tryz.zeroCells61 61)) w.heap.size (fun _ => Sl.free) 0 (.slice none 0 0) (Ext (fun _ => False) w (w.alloc (.cells Tryz.zeroCells61 61))) := by
    have hz : UM (w.alloc (.cells Tryz.zeroCells61 61)) w.heap.size (fun _ => US.zero) 0 (.pointer none) (.slice none 0 0) := by
      have := Has.new w Tryz.zeroCells61 61
      exact (congrArg (fun a => Has (w.alloc (.cells Tryz.zeroCells61 61)) w.heap.size a 61) utrees_zero).mp this
    refine ⟨⟨_, _, hz, fun i hin => ⟨UOk.free _, fun g hg => absurd hg (US.zero_blk g)⟩⟩, .inr ⟨Nat.le_refl _, by simp⟩, ?_⟩
    intro k hk
    rcases hk with hk | hk
    · exact hk.elim
    · exact hk.2
  have ho0 : Only (fun _ => False) w (w.alloc (.cells Tryz.zeroCells61 61)) := (Only.refl _ w).alloc _
  have z0 := ho0.size
  have C1 := hide (umark_any h0)
  go_enter Tryz.func10, Tryz.ntmps10
  go_wp2_with fail
  refine (unhide C1).mono ?_
  rintro e w1 ⟨rfl, h1, ho1⟩
  have z1 := ho1.size
  clear h0 C1
  go_wp2_with fail
  go_ret
  refine ⟨rfl, h1.mono ?_ ?_, ho0.trans ho1 (fun i hi e => by omega)⟩
  · intro k hk
    rcases hk with hk | hk
    · exact hk.elim
    · exact .inr ⟨hk.1, by omega⟩
  · intro k hk
    rcases hk with hk | hk
    · exact hk.elim
    · exact hk.2
end
end Go.Proofs.Qxb6500421aGreat
