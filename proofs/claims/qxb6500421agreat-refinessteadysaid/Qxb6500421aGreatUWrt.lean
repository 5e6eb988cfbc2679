/-
  OWN WORK. THE TREE MODEL: WriteTree.
-/
import Derived.Test.Qxb6500421aGreatUBlW
import Derived.Test.Qxb6500421aGreatTWrt
namespace Go.Proofs.Qxb6500421aGreat
open Go.RowKit Go.PlainAid
set_option linter.unusedSimpArgs false
set_option linter.unusedVariables false

theorem blobE_live {J : Nat → Sl} {e : En} : blobE J e = true ↔ liveJ J e.id = true ∧ (J e.id.toNat).kd = 1 := by
  unfold blobE liveJ kindJ
  by_cases h : 1 ≤ e.id ∧ e.id ≤ 48
  · rw [decide_eq_true h]
    have h0 : e.id.toNat ≠ 0 := by omega
    by_cases hl : liveS (J e.id.toNat) = true
    · rw [if_pos ⟨h0, hl⟩]; simp [hl]
    · rw [if_neg (fun x => hl x.2)]; simp [hl]
  · rw [decide_eq_false h]; simp
section
variable {w : World} {m rt : Nat} {J : Nat → Sl} {hist : Value} {H : Nat → Prop}
set_option maxRecDepth 100000 in
set_option maxHeartbeats 2000000 in
theorem uwrite_any (h : UAt w m J rt hist H) (hInv : Inv J) (lv : Value) (l : List En) (hE : EntsIn w lv l) (hlv : ∀ y, lv.ownBlock = some y → y ≠ m) (hl9 : l.length ≤ 1000) :
    Calls Tryz.prog 64 #[.pointer (some ⟨m, 0, none⟩), lv] w fun e w' => e = .returned (.tuple #[.int .i64 ((wrJ J l).2.1 : Nat), .int .i64 ((wrJ J l).2.2 : Nat)]) ∧ ∃ H', UAt w' m (wrJ J l).1 rt hist H' ∧ (∀ y, H' y → H y ∨ w.heap.size ≤ y) ∧ Only (fun y => y = m) w w' := by
  have C1 := checkEntries_any lv l hE
  obtain ⟨la, lc, rfl⟩ := hE.shape
  have HU := hide h
  have HE := hide hE
  have Hlv := hide hlv
  have hml := h.lt
  by_cases hc : checkE l = 0
  · rw [hc] at C1
    have C1 : Calls Tryz.prog 92 #[.slice la l.length lc] w fun e w' => e = .returned (.int .i64 0) ∧ Only (fun _ => False) w w' := C1
    have C1 := hide C1
    have hl8 : l.length ≤ 8 := by
      unfold checkE at hc
      by_cases h8 : 8 < l.length
      · rw [if_pos h8] at hc; omega
      · omega
    have Hc := hide hc
    clear h hE hlv hc
    go_enter Tryz.func64, Tryz.ntmps64
    go_wp2_with fail
    refine (unhide C1).mono ?_
    rintro e w1 ⟨rfl, ho1⟩
    have O1 := hide ho1
    clear C1 ho1
    go_wp2_with fail
    go_loopw [7] (fun iv wr => ∃ k : Nat, iv = .int .i64 k ∧ k ≤ l.length ∧ (∀ e ∈ l.take k, blobE J e = true) ∧ Only (fun _ => False) w1 wr) (fun iv _ => l.length - (intOf iv).toNat)
    case atStart => exact ⟨0, rfl, by omega, by simp, Only.refl _ _⟩
    case round =>
      obtain ⟨k, rfl, hk, hall, ho⟩ := hrel
      have oA := (unhide O1).trans ho (fun _ _ h => h)
      have OA := hide oA
      have hE1 := (unhide HE).keep oA (fun _ _ h => h)
      have hT1 := (unhide HU).quiet oA
      have hmx := hT1.lt
      have hsz := oA.size
      by_cases hkl : k < l.length
      · obtain ⟨g, rfl, hcell⟩ := hE1.at_ (by omega)
        obtain ⟨_, c1, _⟩ := hcell k hkl
        have hgl : g < wr.heap.size := World.block_lt_of_cell? wr _ c1
        have a1 : decide ((k : Int) < (l.length : Int)) = true := decide_eq_true (by omega)
        have a1n : decide (k < l.length) = true := decide_eq_true hkl
        have a2 : (k : Int) < (l.length : Int) := by omega
        have htk : l.take (k + 1) = l.take k ++ [l[k]] := List.take_succ_eq_append_getElem hkl
        have hno : ¬ (blobE J l[k] = true) → wrJ J l = (J, 0, 6) := fun hb => by
          unfold wrJ
          rw [if_pos (unhide Hc), if_neg]
          intro hall'
          rw [List.all_eq_true] at hall'
          exact hb (hall' l[k] (List.getElem_mem hkl))
        have RR : Hid (∀ n : Nat, ∃ H', UAt (wr.drewN n) m J rt hist H' ∧ (∀ y, H' y → H y ∨ w.heap.size ≤ y) ∧ Only (fun y => y = m) w (wr.drewN n)) := hide (fun n => ⟨H, hT1.quiet ((Only.refl _ wr).drewO n), fun y hy => .inl hy, (oA.mono (T := fun y => y = m) (fun _ _ h => h.elim)).drewO n⟩)
        have hlv := fun (n : Nat) => (ulive_any (hT1.quiet ((Only.refl _ wr).drewO n)) l[k].id)
        have Hno := hide hno
        have HO := hide ho
        cases hl : liveJ J l[k].id with
        | false =>
          have CL := hide (fun (n : Nat) => (hlv n).mono (R' := fun e w' => e = .returned (.bool false) ∧ w' = wr.drewN n) (fun e w' h => ⟨by rw [h.1, hl], h.2.symm⟩))
          have Hw := hide (unhide Hno (fun e => by have := (blobE_live.1 e).1; rw [hl] at this; cases this))
          clear hT1 hlv hl hcell hE1 oA hall htk hno ho
          generalize l[k].id = ei at *
          go_upto_region 7 with fail
          go_quiet (first | (go_at_call 88; refine Calls.quiet_of_same ((unhide CL) _)))
          go_wp2_with fail
          go_ret2
          rw [unhide Hw]
          exact ⟨rfl, unhide RR _⟩
        | true =>
          obtain ⟨ei, hei, hin, hls⟩ := liveJ_in hl
          obtain ⟨dv, lv2, kv2, hc5⟩ := hT1.cells hin
          have z1 := hc5.c1.1
          have e49 : (ei : Int) < 49 := by have := hin.2; omega
          have CL := hide (fun (n : Nat) => (hlv n).mono (R' := fun e w' => e = .returned (.bool true) ∧ w' = wr.drewN n) (fun e w' h => ⟨by rw [h.1, hl], h.2.symm⟩))
          have hbe : blobE J l[k] = true ↔ (J ei).kd = 1 := by
            rw [blobE_live, hl, hei]
            simp
          by_cases hk1 : (J ei).kd = 1
          · have hb2 : ∀ e ∈ l.take (k + 1), blobE J e = true := fun e he => by
              rw [htk] at he
              rcases List.mem_append.1 he with h | h
              · exact hall e h
              · have : e = l[k] := by simpa using h
                rw [this]
                exact hbe.2 hk1
            have Hb2 := hide hb2
            rw [hk1] at z1
            rw [hei] at c1 CL
            clear hT1 hlv hl hcell hE1 oA hall htk hno ho hc5 hbe hb2 hei hk1
            go_upto_region 7 with fail
            go_quiet (first | (go_at_call 88; refine Calls.quiet_of_same ((unhide CL) _)))
            go_wp2_with fail
            go_roundw
            case rel => exact ⟨k + 1, by go_num, by omega, unhide Hb2, (unhide HO).drewO _⟩
            case measure => simp [intOf]; omega
          · have Hw := hide (unhide Hno (fun e => hk1 (hbe.1 e)))
            rw [hei] at c1 CL
            clear hT1 hlv hl hcell hE1 oA hall htk hno ho hc5 hbe hei
            generalize (J ei).kd = kd at *
            have n1 : ((kd : Int) != 1) = true := by simp; omega
            clear hk1
            go_upto_region 7 with fail
            go_quiet (first | (go_at_call 88; refine Calls.quiet_of_same ((unhide CL) _)))
            go_wp2_with fail
            go_ret2
            rw [unhide Hw]
            exact ⟨rfl, unhide RR _⟩
      · have a1 : decide ((k : Int) < (l.length : Int)) = false := decide_eq_false (by omega)
        have a1n : decide (k < l.length) = false := decide_eq_false hkl
        have ek : k = l.length := by omega
        rw [ek, List.take_length] at hall
        obtain ⟨hB, hids⟩ := blobs_all hall
        have hfine := checkE_fine (unhide Hc) hids
        have hw : wrJ J l = bld 6 J l := by
          unfold wrJ
          rw [if_pos (unhide Hc), if_pos (List.all_eq_true.2 hall)]
        have CB := hide (ubuild_any 6 wr J H (.slice la l.length lc) l hT1 hInv hE1 (unhide Hlv) hfine hfine.deep (by omega) hB)
        have Hw := hide hw
        clear hall hB hids hfine hw hE1 hT1 ek ho oA
        go_wp2_with fail
        refine (unhide CB).mono ?_
        rintro y w2 ⟨rfl, H2, hU2, hx2, ho2⟩
        have RR : Hid (∃ H', UAt w2 m (bld 6 J l).1 rt hist H' ∧ (∀ y, H' y → H y ∨ w.heap.size ≤ y) ∧ Only (fun y => y = m) w w2) := hide ⟨H2, hU2, fun y hy => by
          rcases hx2 y hy with e | e
          · exact .inl e
          · exact .inr (by omega), ((unhide OA).mono (T := fun y => y = m) (fun _ _ h => h.elim)).trans ho2 (fun _ _ h => h)⟩
        clear hU2 hx2 ho2 CB
        go_wp2_with fail
        go_ret2
        rw [unhide Hw]
        exact ⟨rfl, unhide RR⟩
  · have hw : wrJ J l = (J, 0, checkE l) := by unfold wrJ; rw [if_neg hc]
    have e1 : ((checkE l : Int) != 0) = true := by simp; omega
    have C1 := hide C1
    have Hw := hide hw
    clear h hE hlv hc hw
    generalize checkE l = ce at *
    go_enter Tryz.func64, Tryz.ntmps64
    go_wp2_with fail
    refine (unhide C1).mono ?_
    rintro e w1 ⟨rfl, ho1⟩
    have RR : Hid (∃ H', UAt w1 m J rt hist H' ∧ (∀ y, H' y → H y ∨ w.heap.size ≤ y) ∧ Only (fun y => y = m) w w1) := hide ⟨H, (unhide HU).quiet ho1, fun y hy => .inl hy, ho1.mono (fun _ _ h => h.elim)⟩
    clear ho1 C1
    go_wp2_with fail
    go_ret2
    rw [unhide Hw]
    exact ⟨rfl, unhide RR⟩
end
end Go.Proofs.Qxb6500421aGreat
