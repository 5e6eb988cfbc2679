/-
  OWN WORK. THE TREE MODEL: Commit.
-/
import Derived.Test.Qxb6500421aGreatUOps
import Derived.Laws.Append
namespace Go.Proofs.Qxb6500421aGreat
open Go.RowKit Go.PlainAid
set_option linter.unusedSimpArgs false
set_option linter.unusedVariables false


theorem Tryz.infoUTP : (Tryz.prog.info? 34).map (fun i => (i.zero, i.size, i.bytes)) = some (some (.pointer none), 1, 8) := by kernel_rfl
theorem append_uhist (w : World) (c : Nat) : ∃ cap Z, ∀ ty, (Builtin.append_ #[59, 59] ty #[.slice none 0 0, .slice (some ⟨w.heap.size, 0, none⟩) 1 1]).run Tryz.prog (w.alloc (.cells #[.pointer (some ⟨c, 0, none⟩)] 34)) = .ok (.slice (some ⟨w.heap.size + 1, 0, none⟩) 1 cap) ((w.alloc (.cells #[.pointer (some ⟨c, 0, none⟩)] 34)).drew.alloc (.cells Z 34)) := by
  obtain ⟨i, hi, hz, hs, hb⟩ := info_parts Tryz.infoUTP
  refine ⟨grownCap (w.alloc (.cells #[.pointer (some ⟨c, 0, none⟩)] 34)) 1 0 34, ([Value.pointer (some ⟨c, 0, none⟩)].toArray ++ Builtin.zeroCells (Value.cells (.pointer none)) (grownCap (w.alloc (.cells #[.pointer (some ⟨c, 0, none⟩)] 34)) 1 0 34 - 1)), fun ty => ?_⟩
  have := run_append_nil (P := Tryz.prog) (w.alloc (.cells #[.pointer (some ⟨c, 0, none⟩)] 34)) 59 ty 34 i _ Tryz.underlying59 hi hz ⟨w.heap.size, 0, none⟩ 1 1 [.pointer (some ⟨c, 0, none⟩)] (by rw [hs]; rfl) (news_ok w [.pointer (some ⟨c, 0, none⟩)] 34 w.heap.size rfl) (by omega) (by omega) (by rw [hb]; omega)
  rw [this]
  simp

section
variable {w : World} {m : Nat} {J : Nat → Sl} {rt : Nat} {hist : Value} {H : Nat → Prop}

theorem ucommit_no (h : UAt w m J rt hist H) (id : Int) (h0 : id ≠ 0) (hl : liveJ J id = false) :
    Calls Tryz.prog 76 #[.pointer (some ⟨m, 0, none⟩), .int .i64 id] w fun e w' => e = .returned (.int .i64 6) ∧ w = w' := by
  have C1 := ulive_any h id
  rw [hl] at C1
  have C1 := hide C1
  have b0 : (id != 0) = true := by simpa using h0
  go_enter Tryz.func76, Tryz.ntmps76
  go_wp2_with fail
  refine (unhide C1).mono ?_
  rintro e w1 ⟨rfl, rfl⟩
  go_wp2_with fail
  go_ret
  exact ⟨rfl, rfl⟩

set_option maxRecDepth 100000 in
set_option maxHeartbeats 4000000 in
theorem ucommit_in (h : UAt w m J rt (.slice none 0 0) H) (r : Nat) (hr : r = 0 ∨ (In r ∧ liveS (J r) = true)) :
    Calls Tryz.prog 76 #[.pointer (some ⟨m, 0, none⟩), .int .i64 r] w fun e w' => e = .returned (.int .i64 0) ∧ (∃ a cap, UAt w' m (fun i => comS (J i)) r (.slice a 1 cap) H) ∧ Only (fun k => k = m) w w' := by
  have hml := h.lt
  have h0 : UAt w m (upS comS J 1) rt (.slice none 0 0) H := h.ext (fun i hin => by
    have := hin.1
    unfold upS
    rw [if_neg (by omega)]
    try rfl)
  have C1 := hide (ulive_any h r)
  have hlr : r ≠ 0 → liveJ J (r : Int) = true := by
    intro h0
    rcases hr with h | ⟨h1, h2⟩
    · exact absurd h h0
    · rw [liveJ_nat h1]; exact h2
  have Hlr := hide hlr
  have H0 := hide h0
  clear hlr h0 h
  by_cases hr0 : r = 0
  · have b0 : ((r : Int) != 0) = false := by simp; omega
    have Hr0 := hide hr0
    clear hr0 C1 Hlr
    go_enter Tryz.func76, Tryz.ntmps76
    go_wp2_with fail
    go_loopw [5] (fun kv wr => ∃ k : Nat, 1 ≤ k ∧ k ≤ 49 ∧ kv = .int .i64 k ∧ UAt wr m (upS comS J k) rt (.slice none 0 0) H ∧ Only (fun k => k = m) w wr) (fun kv _ => (49 - intOf kv).toNat)
    case atStart => exact ⟨1, by omega, by omega, rfl, unhide H0, Only.refl _ _⟩
    case round =>
      clear H0
      obtain ⟨k, hk1, hk, rfl, hM, ho⟩ := hrel
      by_cases hk8 : k < 49
      · have hin : In k := ⟨hk1, by omega⟩
        have a1 : decide ((k : Int) ≤ 48) = true := by simp; omega
        have a2 : (k : Int) < 49 := by omega
        obtain ⟨dv, lv, kv, hc5⟩ := hM.cells hin
        have z0 := hc5.c0
        have z1 := hc5.c1
        have z2 := hc5.c2
        have z3 := hc5.c3
        have z4 := hc5.c4
        clear hc5
        have hat := upS_at comS J k
        have hsu := upS_succ comS J k
        rw [hat] at z0 z1
        by_cases e1 : (J k).st = 1
        · have ea : comS (J k) = stS (J k) 2 := by unfold comS; rw [if_pos e1]
          have hp := hM.setSt hin 2
          rw [hat, ← ea, ← hsu] at hp
          have Hp := hide hp
          rw [e1] at z0
          clear hp hM hsu hat ea
          generalize (J k).kd = kd at *
          go_wp2_with fail
          go_roundw
          case rel => exact ⟨k + 1, by omega, by omega, by go_num, unhide Hp, ho.setCell (p := ⟨m, k * 5, none⟩) (fun _ => rfl) _⟩
          case measure => simp [intOf]; omega
        · by_cases e3 : (J k).st = 3
          · have ea : comS (J k) = Sl.free := by unfold comS; rw [if_neg e1, if_pos e3]
            rw [ea] at hsu
            have hp := hM.clear hin
            rw [← hsu] at hp
            have Hp := hide hp
            rw [e3] at z0
            clear hp hM hsu hat ea
            generalize (J k).kd = kd at *
            go_wp2_with fail
            go_roundw
            case rel => exact ⟨k + 1, by omega, by omega, by go_num, unhide Hp, only5 ho (fun _ => rfl) US.zero⟩
            case measure => simp [intOf]; omega
          · have ea : comS (J k) = J k := by unfold comS; rw [if_neg e1, if_neg e3]
            have hsame : upS comS J (k + 1) = upS comS J k := by
              rw [hsu, ea]
              have := updT_self (upS comS J k) k
              rw [hat] at this
              exact this
            rw [← hsame] at hM
            have Hp := hide hM
            clear hM hsu hat ea hsame
            generalize (J k).kd = kd at *
            generalize (J k).st = st at *
            have b1 : ((st : Int) == 1) = false := ne_intO (by omega)
            have b3 : ((st : Int) == 3) = false := ne_intO (by omega)
            go_wp2_with fail
            go_roundw
            case rel => exact ⟨k + 1, by omega, by omega, by go_num, unhide Hp, ho⟩
            case measure => simp [intOf]; omega
      · obtain rfl : k = 49 := by omega
        have hM' : UAt wr m (fun i => comS (J i)) rt (.slice none 0 0) H := hM.ext (fun i hin => by
          have := hin.2
          unfold upS
          rw [if_pos (by omega)]
          try rfl)
        have z7 := hM'.rows.1
        have hM2 := hM'.setRoot r
        have o2 : Only (fun k => k = m) w (wr.setCell ⟨m, 245, none⟩ (.int .i64 (r : Int))) := ho.setCell (p := ⟨m, 245, none⟩) (fun _ => rfl) _
        have hsz : (wr.setCell ⟨m, 245, none⟩ (.int .i64 (r : Int))).heap.size = wr.heap.size := by simp
        have hml2 := hM'.lt
        have HM2 := hide hM2
        have HO2 := hide o2
        have Hsz := hide hsz
        clear hM hM' hM2 o2 hsz
        go_upto_region 11 with fail
        generalize wr.setCell ⟨m, 245, none⟩ (.int .i64 (r : Int)) = w1 at *
        have hsz := unhide Hsz
        have z9 := (unhide HM2).rows.2.2
        have C2 := hide (fun (wx : World) (hx : Only (fun _ => False) w1 wx) (hs : wx.heap.size = w1.heap.size) => (show Calls Tryz.prog 24 #[.pointer (some ⟨m, 0, none⟩)] wx fun e w' => e = .returned (.pointer (some ⟨w1.heap.size, 0, none⟩)) ∧ Only (fun _ => False) w1 w' from (uplain_any ((unhide HM2).quiet hx)).mono fun e w' ⟨p, _, q⟩ => ⟨by rw [p, hs], hx.trans q (fun _ _ h => h)⟩))
        go_region_with (go_at_call 24; refine ((unhide C2) _ ?_ ?_).mono ?_; exact (Only.refl (fun _ => False) _).drew; rfl; rintro e w2 ⟨rfl, ho2⟩; obtain ⟨cap, Z, hap⟩ := append_uhist w2 w1.heap.size; have HM3 := hide ((unhide HM2).quiet ho2); have z9' := (unhide HM3).rows.2.2; have l3 := (unhide HM3).lt)
        all_goals
          go_wp2_with fail
          go_ret
          refine ⟨rfl, ⟨_, _, ((unhide HM3).setHist _).quiet ((((Only.refl (fun _ => False) _).alloc _).alloc _).drew)⟩, ?_⟩
          exact (((((unhide HO2).trans ho2 (fun _ _ h => h.elim)).setCell (p := ⟨m, 247, none⟩) (fun _ => rfl) _).alloc _).alloc _).drew
  · have b0 : ((r : Int) != 0) = true := by simp; omega
    rw [(unhide Hlr) hr0] at C1
    go_enter Tryz.func76, Tryz.ntmps76
    go_wp2_with fail
    refine (unhide C1).mono ?_
    rintro e wL ⟨rfl, rfl⟩
    go_wp2_with fail
    go_loopw [5] (fun kv wr => ∃ k : Nat, 1 ≤ k ∧ k ≤ 49 ∧ kv = .int .i64 k ∧ UAt wr m (upS comS J k) rt (.slice none 0 0) H ∧ Only (fun k => k = m) w wr) (fun kv _ => (49 - intOf kv).toNat)
    case atStart => exact ⟨1, by omega, by omega, rfl, unhide H0, Only.refl _ _⟩
    case round =>
      clear H0
      obtain ⟨k, hk1, hk, rfl, hM, ho⟩ := hrel
      by_cases hk8 : k < 49
      · have hin : In k := ⟨hk1, by omega⟩
        have a1 : decide ((k : Int) ≤ 48) = true := by simp; omega
        have a2 : (k : Int) < 49 := by omega
        obtain ⟨dv, lv, kv, hc5⟩ := hM.cells hin
        have z0 := hc5.c0
        have z1 := hc5.c1
        have z2 := hc5.c2
        have z3 := hc5.c3
        have z4 := hc5.c4
        clear hc5
        have hat := upS_at comS J k
        have hsu := upS_succ comS J k
        rw [hat] at z0 z1
        by_cases e1 : (J k).st = 1
        · have ea : comS (J k) = stS (J k) 2 := by unfold comS; rw [if_pos e1]
          have hp := hM.setSt hin 2
          rw [hat, ← ea, ← hsu] at hp
          have Hp := hide hp
          rw [e1] at z0
          clear hp hM hsu hat ea
          generalize (J k).kd = kd at *
          go_wp2_with fail
          go_roundw
          case rel => exact ⟨k + 1, by omega, by omega, by go_num, unhide Hp, ho.setCell (p := ⟨m, k * 5, none⟩) (fun _ => rfl) _⟩
          case measure => simp [intOf]; omega
        · by_cases e3 : (J k).st = 3
          · have ea : comS (J k) = Sl.free := by unfold comS; rw [if_neg e1, if_pos e3]
            rw [ea] at hsu
            have hp := hM.clear hin
            rw [← hsu] at hp
            have Hp := hide hp
            rw [e3] at z0
            clear hp hM hsu hat ea
            generalize (J k).kd = kd at *
            go_wp2_with fail
            go_roundw
            case rel => exact ⟨k + 1, by omega, by omega, by go_num, unhide Hp, only5 ho (fun _ => rfl) US.zero⟩
            case measure => simp [intOf]; omega
          · have ea : comS (J k) = J k := by unfold comS; rw [if_neg e1, if_neg e3]
            have hsame : upS comS J (k + 1) = upS comS J k := by
              rw [hsu, ea]
              have := updT_self (upS comS J k) k
              rw [hat] at this
              exact this
            rw [← hsame] at hM
            have Hp := hide hM
            clear hM hsu hat ea hsame
            generalize (J k).kd = kd at *
            generalize (J k).st = st at *
            have b1 : ((st : Int) == 1) = false := ne_intO (by omega)
            have b3 : ((st : Int) == 3) = false := ne_intO (by omega)
            go_wp2_with fail
            go_roundw
            case rel => exact ⟨k + 1, by omega, by omega, by go_num, unhide Hp, ho⟩
            case measure => simp [intOf]; omega
      · obtain rfl : k = 49 := by omega
        have hM' : UAt wr m (fun i => comS (J i)) rt (.slice none 0 0) H := hM.ext (fun i hin => by
          have := hin.2
          unfold upS
          rw [if_pos (by omega)]
          try rfl)
        have z7 := hM'.rows.1
        have hM2 := hM'.setRoot r
        have o2 : Only (fun k => k = m) w (wr.setCell ⟨m, 245, none⟩ (.int .i64 (r : Int))) := ho.setCell (p := ⟨m, 245, none⟩) (fun _ => rfl) _
        have hsz : (wr.setCell ⟨m, 245, none⟩ (.int .i64 (r : Int))).heap.size = wr.heap.size := by simp
        have hml2 := hM'.lt
        have HM2 := hide hM2
        have HO2 := hide o2
        have Hsz := hide hsz
        clear hM hM' hM2 o2 hsz
        go_upto_region 11 with fail
        generalize wr.setCell ⟨m, 245, none⟩ (.int .i64 (r : Int)) = w1 at *
        have hsz := unhide Hsz
        have z9 := (unhide HM2).rows.2.2
        have C2 := hide (fun (wx : World) (hx : Only (fun _ => False) w1 wx) (hs : wx.heap.size = w1.heap.size) => (show Calls Tryz.prog 24 #[.pointer (some ⟨m, 0, none⟩)] wx fun e w' => e = .returned (.pointer (some ⟨w1.heap.size, 0, none⟩)) ∧ Only (fun _ => False) w1 w' from (uplain_any ((unhide HM2).quiet hx)).mono fun e w' ⟨p, _, q⟩ => ⟨by rw [p, hs], hx.trans q (fun _ _ h => h)⟩))
        go_region_with (go_at_call 24; refine ((unhide C2) _ ?_ ?_).mono ?_; exact (Only.refl (fun _ => False) _).drew; rfl; rintro e w2 ⟨rfl, ho2⟩; obtain ⟨cap, Z, hap⟩ := append_uhist w2 w1.heap.size; have HM3 := hide ((unhide HM2).quiet ho2); have z9' := (unhide HM3).rows.2.2; have l3 := (unhide HM3).lt)
        all_goals
          go_wp2_with fail
          go_ret
          refine ⟨rfl, ⟨_, _, ((unhide HM3).setHist _).quiet ((((Only.refl (fun _ => False) _).alloc _).alloc _).drew)⟩, ?_⟩
          exact (((((unhide HO2).trans ho2 (fun _ _ h => h.elim)).setCell (p := ⟨m, 247, none⟩) (fun _ => rfl) _).alloc _).alloc _).drew
end
end Go.Proofs.Qxb6500421aGreat
