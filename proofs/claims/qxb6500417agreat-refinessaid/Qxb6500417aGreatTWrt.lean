/-
  OWN WORK. THE TREE: WriteTree.
-/
import Derived.Test.Qxb6500417aGreatTBlW
import Derived.Test.Qxb6500417aGreatTEnt2
namespace Go.Proofs.Qxb6500417aGreat
open Go.RowKit Go.PlainAid
set_option linter.unusedSimpArgs false
set_option linter.unusedVariables false

def blobE (J : Nat → Sl) (e : En) : Bool := decide (1 ≤ e.id ∧ e.id ≤ 48) && decide (kindJ J e.id.toNat = 1)
def wrJ (J : Nat → Sl) (l : List En) : (Nat → Sl) × Nat × Nat := if checkE l = 0 then (if l.all (blobE J) = true then bld 6 J l else (J, 0, 6)) else (J, 0, checkE l)
theorem blobs_all {J : Nat → Sl} {l : List En} (h : ∀ e ∈ l, blobE J e = true) : Blobs J l ∧ ∀ e ∈ l, 1 ≤ e.id ∧ e.id ≤ 48 := by
  have key : ∀ e ∈ l, (1 ≤ e.id ∧ e.id ≤ 48) ∧ kindJ J e.id.toNat = 1 := fun e he => by
    have := h e he
    unfold blobE at this
    simp only [Bool.and_eq_true, decide_eq_true_eq] at this
    exact this
  refine ⟨fun e he => ?_, fun e he => (key e he).1⟩
  obtain ⟨h1, h2⟩ := key e he
  have hin : In e.id.toNat := ⟨by omega, by omega⟩
  unfold kindJ at h2
  by_cases c : e.id.toNat ≠ 0 ∧ liveS (J e.id.toNat) = true
  · rw [if_pos c] at h2
    exact ⟨hin, c.2, h2⟩
  · rw [if_neg c] at h2; omega
section
variable {w : World} {t s d rt : Nat} {D B : Nat → Nat} {recs : List Rec} {J : Nat → Sl} {F : Nat → Prop}
set_option maxRecDepth 100000 in
set_option maxHeartbeats 2000000 in
theorem twrite_any (h : TS w t s d D B recs J rt F) (lv : Value) (l : List En) (hE : EntsIn w lv l) (hlv : ∀ y, lv.ownBlock = some y → y ≠ t ∧ y ≠ s ∧ ¬ F y) (hpot : recs.length + 3 * frJ J ≤ 900) (hl9 : l.length ≤ 1000) :
    Calls Tryz.prog 117 #[.pointer (some ⟨t, 0, none⟩), lv] w fun e w' => e = .returned (.tuple #[.int .i64 ((wrJ J l).2.1 : Nat), .int .i64 ((wrJ J l).2.2 : Nat)]) ∧ ∃ news F', Wrote w w' t s d D B recs J (wrJ J l).1 rt F news F' := by
  have C1 := checkEntries_any lv l hE
  obtain ⟨la, lc, rfl⟩ := hE.shape
  have H := hide h
  have HE := hide hE
  have Hlv := hide hlv
  have htl := Has.lt h.tab
  by_cases hc : checkE l = 0
  · rw [hc] at C1
    have C1 : Calls Tryz.prog 162 #[.slice la l.length lc] w fun e w' => e = .returned (.int .i64 0) ∧ Only (fun _ => False) w w' := C1
    have C1 := hide C1
    have hl8 : l.length ≤ 8 := by
      unfold checkE at hc
      by_cases h8 : 8 < l.length
      · rw [if_pos h8] at hc; omega
      · omega
    have Hc := hide hc
    clear h hE hlv hc
    go_enter Tryz.func117, Tryz.ntmps117
    go_wp2_with fail
    refine (unhide C1).mono ?_
    rintro e w1 ⟨rfl, ho1⟩
    have O1 := hide ho1
    clear C1 ho1
    go_wp2_with fail
    go_loopw [7] (fun iv wr => ∃ k : Nat, iv = .int .i64 k ∧ k ≤ l.length ∧ (∀ e ∈ l.take k, blobE J e = true) ∧ w1 = wr) (fun iv _ => l.length - (intOf iv).toNat)
    case atStart => exact ⟨0, rfl, by omega, by simp, rfl⟩
    case round =>
      obtain ⟨k, rfl, hk, hall, rfl⟩ := hrel
      have hE1 := (unhide HE).keep (unhide O1) (fun _ _ h => h)
      have hT1 := (unhide H).quiet (unhide O1)
      by_cases hkl : k < l.length
      · obtain ⟨_, _, he2, hE2⟩ := hE1
        obtain ⟨g, hg, hcell⟩ := hE2 (by omega)
        simp at he2
        obtain ⟨he3, he4⟩ := he2
        subst he4
        subst hg
        subst he3
        obtain ⟨_, c1, _⟩ := hcell k hkl
        have hgl : g < w1.heap.size := World.block_lt_of_cell? w1 _ c1
        have a1 : decide ((k : Int) < (l.length : Int)) = true := decide_eq_true (by omega)
        have a1n : decide (k < l.length) = true := decide_eq_true hkl
        have a2 : (k : Int) < (l.length : Int) := by omega
        have htk : l.take (k + 1) = l.take k ++ [l[k]] := List.take_succ_eq_append_getElem hkl
        have hno : blobE J l[k] = false → wrJ J l = (J, 0, 6) := fun hb => by
          unfold wrJ
          rw [if_pos (unhide Hc), if_neg]
          intro hall'
          rw [List.all_eq_true] at hall'
          have := hall' l[k] (List.getElem_mem hkl)
          rw [hb] at this
          cases this
        have RR := hide (Wrote.none (unhide H) hT1 ((unhide O1).mono (fun _ _ h => h.elim)))
        have Htk := hide htk
        have Hall := hide hall
        have Hno := hide hno
        clear hcell hE2 htk hall hno
        by_cases h1 : l[k].id < 1
        · have b1 : decide (l[k].id < 1) = true := decide_eq_true h1
          have Hw := hide (unhide Hno (by unfold blobE; rw [decide_eq_false (by omega)]; rfl))
          clear hT1 h1
          generalize l[k].id = ei at *
          go_wp2_with fail
          go_ret2
          rw [unhide Hw]
          exact ⟨rfl, _, _, unhide RR⟩
        · have b1 : decide (l[k].id < 1) = false := decide_eq_false h1
          by_cases h48 : 48 < l[k].id
          · have b2 : decide (48 < l[k].id) = true := decide_eq_true h48
            have Hw := hide (unhide Hno (by unfold blobE; rw [decide_eq_false (by omega)]; rfl))
            clear hT1 h1 h48
            generalize l[k].id = ei at *
            go_wp2_with fail
            go_ret2
            rw [unhide Hw]
            exact ⟨rfl, _, _, unhide RR⟩
          · have b2 : decide (48 < l[k].id) = false := decide_eq_false h48
            obtain ⟨ei, hei⟩ : ∃ ei : Nat, l[k].id = ei := ⟨l[k].id.toNat, by omega⟩
            have q := (hT1.tab.kind ei (by omega)).1
            have htl1 := Has.lt hT1.tab
            have e49 : (ei : Int) < 49 := by omega
            have hbe : blobE J l[k] = decide (kindJ J ei = 1) := by
              unfold blobE
              rw [hei, decide_eq_true ⟨by omega, by omega⟩]
              simp
            rw [hei] at c1 b1 b2
            by_cases hk1 : kindJ J ei = 1
            · have n1 : ((kindJ J ei : Int) != 1) = false := by rw [hk1]; rfl
              have hb2 : ∀ e ∈ l.take (k + 1), blobE J e = true := fun e he => by
                rw [unhide Htk] at he
                rcases List.mem_append.1 he with h | h
                · exact unhide Hall e h
                · have : e = l[k] := by simpa using h
                  rw [this, hbe]
                  exact decide_eq_true hk1
              have Hb2 := hide hb2
              clear hT1 h1 h48 hei hbe hk1 hb2
              generalize kindJ J ei = x at *
              go_wp2_with fail
              go_roundw
              case rel => exact ⟨k + 1, by go_num, by omega, unhide Hb2, by trivial⟩
              case measure => simp [intOf]; omega
            · have n1 : ((kindJ J ei : Int) != 1) = true := by simp; omega
              have Hw := hide (unhide Hno (by rw [hbe]; exact decide_eq_false hk1))
              clear hT1 h1 h48 hei hbe hk1
              generalize kindJ J ei = x at *
              go_wp2_with fail
              go_ret2
              rw [unhide Hw]
              exact ⟨rfl, _, _, unhide RR⟩
      · have a1 : decide ((k : Int) < (l.length : Int)) = false := decide_eq_false (by omega)
        have a1n : decide (k < l.length) = false := decide_eq_false hkl
        have ek : k = l.length := by omega
        rw [ek, List.take_length] at hall
        obtain ⟨hB, hids⟩ := blobs_all hall
        have hfine := checkE_fine (unhide Hc) hids
        have hw : wrJ J l = bld 6 J l := by
          unfold wrJ
          rw [if_pos (unhide Hc), if_pos (List.all_eq_true.2 hall)]
        have CB := hide (tbuild_any l hl8 hfine.len (.slice la l.length lc) 6 w1 D recs J F l 0 l.length [] 0 rfl hT1 hE1 (unhide Hlv) (by rw [List.drop_zero, Nat.sub_zero, List.take_length]; exact (List.map_id l).symm) (by omega) (by omega) (by simp) hfine hfine.deep (by omega) hB hpot)
        have Hw := hide hw
        clear hall hB hids hfine hw hE1 hT1 ek
        go_wp2_with fail
        refine (unhide CB).mono ?_
        rintro y w2 ⟨rfl, n2, F2, hW⟩
        have RR := hide (Wrote.first (unhide O1) hW)
        clear hW CB
        go_wp2_with fail
        go_ret2
        rw [unhide Hw]
        exact ⟨rfl, _, _, unhide RR⟩
  · have hw : wrJ J l = (J, 0, checkE l) := by unfold wrJ; rw [if_neg hc]
    have e1 : ((checkE l : Int) != 0) = true := by simp; omega
    have C1 := hide C1
    have Hw := hide hw
    have HT := hide h
    clear h hE hlv hc hw
    generalize checkE l = ce at *
    go_enter Tryz.func117, Tryz.ntmps117
    go_wp2_with fail
    refine (unhide C1).mono ?_
    rintro e w1 ⟨rfl, ho1⟩
    have RR := hide (Wrote.none (unhide H) ((unhide HT).quiet ho1) (ho1.mono (fun _ _ h => h.elim)))
    clear ho1 C1
    go_wp2_with fail
    go_ret2
    rw [unhide Hw]
    exact ⟨rfl, _, _, unhide RR⟩
end
end Go.Proofs.Qxb6500417aGreat
