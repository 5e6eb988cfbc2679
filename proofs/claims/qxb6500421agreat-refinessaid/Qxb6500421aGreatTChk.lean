/-
  OWN WORK. THE TREE: Check.
-/
import Derived.Test.Qxb6500421aGreatTSnd
namespace Go.Proofs.Qxb6500421aGreat
open Go.RowKit Go.PlainAid
set_option linter.unusedSimpArgs false
set_option linter.unusedVariables false

def wF (f : Nat → Nat) (i : Nat) : Value := .int .i64 (f i : Int)
def WantAt (w : World) (g : Nat) (f : Nat → Nat) : Prop := Has w g (tabV 49 (wF f)) 51
theorem want_zero : (List.toArray (Value.int .i64 0 :: Value.int .i64 0 :: Value.int .i64 0 :: Value.int .i64 0 :: Value.int .i64 0 :: Value.int .i64 0 :: Value.int .i64 0 :: Value.int .i64 0 :: Value.int .i64 0 :: Value.int .i64 0 :: Value.int .i64 0 :: Value.int .i64 0 :: Value.int .i64 0 :: Value.int .i64 0 :: Value.int .i64 0 :: Value.int .i64 0 :: Value.int .i64 0 :: Value.int .i64 0 :: Value.int .i64 0 :: Value.int .i64 0 :: Value.int .i64 0 :: Value.int .i64 0 :: Value.int .i64 0 :: Value.int .i64 0 :: Value.int .i64 0 :: Value.int .i64 0 :: Value.int .i64 0 :: Value.int .i64 0 :: Value.int .i64 0 :: Value.int .i64 0 :: Value.int .i64 0 :: Value.int .i64 0 :: Value.int .i64 0 :: Value.int .i64 0 :: Value.int .i64 0 :: Value.int .i64 0 :: Value.int .i64 0 :: Value.int .i64 0 :: Value.int .i64 0 :: Value.int .i64 0 :: Value.int .i64 0 :: Value.int .i64 0 :: Value.int .i64 0 :: Value.int .i64 0 :: Value.int .i64 0 :: Value.int .i64 0 :: Value.int .i64 0 :: Value.int .i64 0 :: Value.int .i64 0 :: [])) = tabV 49 (wF (fun _ => 0)) := by kernel_rfl
theorem WantAt.cell {w : World} {g : Nat} {f : Nat → Nat} (h : WantAt w g f) (i : Nat) (hi : i < 49) : w.cell? ⟨g, i, none⟩ = some (.int .i64 (f i : Int)) ∧ w.frozen? ⟨g, i, none⟩ = false := by
  refine ⟨?_, Has.free h _⟩
  rw [Has.cell h, tabV_get _ _ _ hi]; rfl
theorem WantAt.inc {w : World} {g : Nat} {f f' : Nat → Nat} (h : WantAt w g f) (i : Nat) (hf : ∀ j, f' j = if j = i then f i + 1 else f j) : WantAt (w.setCell ⟨g, i, none⟩ (.int .i64 ((f i : Int) + 1))) g f' := by
  have := Has.setCell h i (.int .i64 ((f i : Int) + 1))
  rw [tabV_set] at this
  unfold WantAt
  rw [tabV_congr 49 (g := wF f')] at this
  · exact this
  · intro j hj
    unfold wF
    rw [hf j]
    by_cases e : j = i
    · rw [if_pos e, if_pos e]; push_cast; rfl
    · rw [if_neg e, if_neg e]
theorem WantAt.congr {w : World} {g : Nat} {f f' : Nat → Nat} (h : WantAt w g f) (hf : ∀ j, f' j = f j) : WantAt w g f' := by
  have : f' = f := funext hf
  rw [this]; exact h
section
variable {w : World} {t s d rt : Nat} {D B : Nat → Nat} {recs : List Rec} {J : Nat → Sl} {F : Nat → Prop}
theorem cntJ_step (J : Nat → Sl) (i k : Nat) (hk : k ≠ 0) : cntJ J i (k + 1) = cntJ J i k + (if liveS (J k) = true then occ (J k).rws i else 0) := by
  show cntJ J i k + _ = _
  by_cases h : liveS (J k) = true
  · rw [if_pos ⟨hk, h⟩, if_pos h]
  · rw [if_neg (fun e => h e.2), if_neg h]
set_option maxRecDepth 100000 in
set_option maxHeartbeats 4000000 in
theorem tcheck_any (h : TS w t s d D B recs J rt F) :
    Calls Tryz.prog 29 #[.pointer (some ⟨t, 0, none⟩)] w fun e w' => e = .returned (.bool true) ∧ Only (fun _ => False) w w' := by
  have hw0 : WantAt (w.alloc (.cells (List.toArray (Value.int .i64 0 :: Value.int .i64 0 :: Value.int .i64 0 :: Value.int .i64 0 :: Value.int .i64 0 :: Value.int .i64 0 :: Value.int .i64 0 :: Value.int .i64 0 :: Value.int .i64 0 :: Value.int .i64 0 :: Value.int .i64 0 :: Value.int .i64 0 :: Value.int .i64 0 :: Value.int .i64 0 :: Value.int .i64 0 :: Value.int .i64 0 :: Value.int .i64 0 :: Value.int .i64 0 :: Value.int .i64 0 :: Value.int .i64 0 :: Value.int .i64 0 :: Value.int .i64 0 :: Value.int .i64 0 :: Value.int .i64 0 :: Value.int .i64 0 :: Value.int .i64 0 :: Value.int .i64 0 :: Value.int .i64 0 :: Value.int .i64 0 :: Value.int .i64 0 :: Value.int .i64 0 :: Value.int .i64 0 :: Value.int .i64 0 :: Value.int .i64 0 :: Value.int .i64 0 :: Value.int .i64 0 :: Value.int .i64 0 :: Value.int .i64 0 :: Value.int .i64 0 :: Value.int .i64 0 :: Value.int .i64 0 :: Value.int .i64 0 :: Value.int .i64 0 :: Value.int .i64 0 :: Value.int .i64 0 :: Value.int .i64 0 :: Value.int .i64 0 :: Value.int .i64 0 :: Value.int .i64 0 :: [])) 51)) w.heap.size (fun i => cntJ J i 1) := by
    have h0 := Has.new w (List.toArray (Value.int .i64 0 :: Value.int .i64 0 :: Value.int .i64 0 :: Value.int .i64 0 :: Value.int .i64 0 :: Value.int .i64 0 :: Value.int .i64 0 :: Value.int .i64 0 :: Value.int .i64 0 :: Value.int .i64 0 :: Value.int .i64 0 :: Value.int .i64 0 :: Value.int .i64 0 :: Value.int .i64 0 :: Value.int .i64 0 :: Value.int .i64 0 :: Value.int .i64 0 :: Value.int .i64 0 :: Value.int .i64 0 :: Value.int .i64 0 :: Value.int .i64 0 :: Value.int .i64 0 :: Value.int .i64 0 :: Value.int .i64 0 :: Value.int .i64 0 :: Value.int .i64 0 :: Value.int .i64 0 :: Value.int .i64 0 :: Value.int .i64 0 :: Value.int .i64 0 :: Value.int .i64 0 :: Value.int .i64 0 :: Value.int .i64 0 :: Value.int .i64 0 :: Value.int .i64 0 :: Value.int .i64 0 :: Value.int .i64 0 :: Value.int .i64 0 :: Value.int .i64 0 :: Value.int .i64 0 :: Value.int .i64 0 :: Value.int .i64 0 :: Value.int .i64 0 :: Value.int .i64 0 :: Value.int .i64 0 :: Value.int .i64 0 :: Value.int .i64 0 :: Value.int .i64 0 :: Value.int .i64 0 :: [])) 51
    have h1 : WantAt (w.alloc (.cells (List.toArray (Value.int .i64 0 :: Value.int .i64 0 :: Value.int .i64 0 :: Value.int .i64 0 :: Value.int .i64 0 :: Value.int .i64 0 :: Value.int .i64 0 :: Value.int .i64 0 :: Value.int .i64 0 :: Value.int .i64 0 :: Value.int .i64 0 :: Value.int .i64 0 :: Value.int .i64 0 :: Value.int .i64 0 :: Value.int .i64 0 :: Value.int .i64 0 :: Value.int .i64 0 :: Value.int .i64 0 :: Value.int .i64 0 :: Value.int .i64 0 :: Value.int .i64 0 :: Value.int .i64 0 :: Value.int .i64 0 :: Value.int .i64 0 :: Value.int .i64 0 :: Value.int .i64 0 :: Value.int .i64 0 :: Value.int .i64 0 :: Value.int .i64 0 :: Value.int .i64 0 :: Value.int .i64 0 :: Value.int .i64 0 :: Value.int .i64 0 :: Value.int .i64 0 :: Value.int .i64 0 :: Value.int .i64 0 :: Value.int .i64 0 :: Value.int .i64 0 :: Value.int .i64 0 :: Value.int .i64 0 :: Value.int .i64 0 :: Value.int .i64 0 :: Value.int .i64 0 :: Value.int .i64 0 :: Value.int .i64 0 :: Value.int .i64 0 :: Value.int .i64 0 :: Value.int .i64 0 :: Value.int .i64 0 :: [])) 51)) w.heap.size (fun _ => 0) := (congrArg (fun a => Has (w.alloc (.cells (List.toArray (Value.int .i64 0 :: Value.int .i64 0 :: Value.int .i64 0 :: Value.int .i64 0 :: Value.int .i64 0 :: Value.int .i64 0 :: Value.int .i64 0 :: Value.int .i64 0 :: Value.int .i64 0 :: Value.int .i64 0 :: Value.int .i64 0 :: Value.int .i64 0 :: Value.int .i64 0 :: Value.int .i64 0 :: Value.int .i64 0 :: Value.int .i64 0 :: Value.int .i64 0 :: Value.int .i64 0 :: Value.int .i64 0 :: Value.int .i64 0 :: Value.int .i64 0 :: Value.int .i64 0 :: Value.int .i64 0 :: Value.int .i64 0 :: Value.int .i64 0 :: Value.int .i64 0 :: Value.int .i64 0 :: Value.int .i64 0 :: Value.int .i64 0 :: Value.int .i64 0 :: Value.int .i64 0 :: Value.int .i64 0 :: Value.int .i64 0 :: Value.int .i64 0 :: Value.int .i64 0 :: Value.int .i64 0 :: Value.int .i64 0 :: Value.int .i64 0 :: Value.int .i64 0 :: Value.int .i64 0 :: Value.int .i64 0 :: Value.int .i64 0 :: Value.int .i64 0 :: Value.int .i64 0 :: Value.int .i64 0 :: Value.int .i64 0 :: Value.int .i64 0 :: Value.int .i64 0 :: Value.int .i64 0 :: [])) 51)) w.heap.size a 51) want_zero).mp h0
    exact h1.congr (fun j => by simp [cntJ])
  have o0 : Only (fun _ => False) w (w.alloc (.cells (List.toArray (Value.int .i64 0 :: Value.int .i64 0 :: Value.int .i64 0 :: Value.int .i64 0 :: Value.int .i64 0 :: Value.int .i64 0 :: Value.int .i64 0 :: Value.int .i64 0 :: Value.int .i64 0 :: Value.int .i64 0 :: Value.int .i64 0 :: Value.int .i64 0 :: Value.int .i64 0 :: Value.int .i64 0 :: Value.int .i64 0 :: Value.int .i64 0 :: Value.int .i64 0 :: Value.int .i64 0 :: Value.int .i64 0 :: Value.int .i64 0 :: Value.int .i64 0 :: Value.int .i64 0 :: Value.int .i64 0 :: Value.int .i64 0 :: Value.int .i64 0 :: Value.int .i64 0 :: Value.int .i64 0 :: Value.int .i64 0 :: Value.int .i64 0 :: Value.int .i64 0 :: Value.int .i64 0 :: Value.int .i64 0 :: Value.int .i64 0 :: Value.int .i64 0 :: Value.int .i64 0 :: Value.int .i64 0 :: Value.int .i64 0 :: Value.int .i64 0 :: Value.int .i64 0 :: Value.int .i64 0 :: Value.int .i64 0 :: Value.int .i64 0 :: Value.int .i64 0 :: Value.int .i64 0 :: Value.int .i64 0 :: Value.int .i64 0 :: Value.int .i64 0 :: Value.int .i64 0 :: Value.int .i64 0 :: [])) 51)) := (Only.refl _ w).alloc _
  obtain ⟨l1, l2, l3⟩ := h.ts_lt
  have HT := hide (h.quiet o0)
  have HW := hide hw0
  have O0 := hide o0
  have hs0 := o0.size
  have hgl0 := Has.lt hw0
  clear h hw0 o0
  go_enter Tryz.func29, Tryz.ntmps29
  go_wp2_with fail
  generalize w.alloc (.cells (List.toArray (Value.int .i64 0 :: Value.int .i64 0 :: Value.int .i64 0 :: Value.int .i64 0 :: Value.int .i64 0 :: Value.int .i64 0 :: Value.int .i64 0 :: Value.int .i64 0 :: Value.int .i64 0 :: Value.int .i64 0 :: Value.int .i64 0 :: Value.int .i64 0 :: Value.int .i64 0 :: Value.int .i64 0 :: Value.int .i64 0 :: Value.int .i64 0 :: Value.int .i64 0 :: Value.int .i64 0 :: Value.int .i64 0 :: Value.int .i64 0 :: Value.int .i64 0 :: Value.int .i64 0 :: Value.int .i64 0 :: Value.int .i64 0 :: Value.int .i64 0 :: Value.int .i64 0 :: Value.int .i64 0 :: Value.int .i64 0 :: Value.int .i64 0 :: Value.int .i64 0 :: Value.int .i64 0 :: Value.int .i64 0 :: Value.int .i64 0 :: Value.int .i64 0 :: Value.int .i64 0 :: Value.int .i64 0 :: Value.int .i64 0 :: Value.int .i64 0 :: Value.int .i64 0 :: Value.int .i64 0 :: Value.int .i64 0 :: Value.int .i64 0 :: Value.int .i64 0 :: Value.int .i64 0 :: Value.int .i64 0 :: Value.int .i64 0 :: Value.int .i64 0 :: Value.int .i64 0 :: Value.int .i64 0 :: [])) 51) = w0 at *
  have hF' : ∀ y, F y → y < w.heap.size := l3
  have HF := hide hF'
  clear l3 hF'
  generalize hg : w.heap.size = g at *
  have Hg := hide hg
  clear hg
  go_loopw [4] (fun kv wr => ∃ k : Nat, 1 ≤ k ∧ k ≤ 49 ∧ kv = .int .i64 k ∧ WantAt wr g (fun i => cntJ J i k) ∧ Only (fun y => y = g) w0 wr) (fun kv _ => (49 - intOf kv).toNat)
  case atStart => exact ⟨1, by omega, by omega, rfl, unhide HW, Only.refl _ _⟩
  case round =>
    obtain ⟨k, hk1, hk, rfl, hWt, ho⟩ := hrel
    have hTr := (unhide HT).keep ho (fun e => by omega) (fun e => by omega) (fun y hy e => by have := unhide HF y hy; omega)
    by_cases hk8 : k < 49
    · have hin : In k := ⟨hk1, by omega⟩
      have a1 : decide ((k : Int) ≤ 48) = true := by simp; omega
      have a2 : (k : Int) < 49 := by omega
      have cst := hTr.tab.store.1
      obtain ⟨ob, hOS, hR⟩ := hTr.ex
      cases hl : liveS (J k) with
      | false =>
        have CG := get_no hOS (k : Int) (by rw [liveI_nat ob k hin, hR.live hin, hl])
        have CG := hide CG
        have qk := (hTr.tab.kind k hk8).1
        have hkj : kindJ J k = 0 := by unfold kindJ; rw [if_neg (fun e => by rw [hl] at e; cases e.2)]
        rw [hkj] at qk
        have HW2 := hide (hWt.congr (f' := fun i => cntJ J i (k + 1)) (fun i => by rw [cntJ_step J i k (by omega), hl]; simp))
        clear hTr hOS hR hl hkj hWt
        go_wp2_with fail
        refine (unhide CG).mono ?_
        rintro y w2 ⟨rfl, rfl⟩
        go_wp2_with fail
        go_roundw
        case rel => exact ⟨k + 1, by omega, by omega, by go_num, unhide HW2, ho⟩
        case measure => simp [intOf]; omega
      | true =>
        have hst := liveS_ne hl
        have hkj : kindJ J k = (J k).kd := kindJ_live hin hl
        obtain ⟨n, hn⟩ : ∃ n, n = (J k).dat.length := ⟨_, rfl⟩
        have CG := get_in hOS k hin (by rw [hR.live hin]; exact hl) n (by rw [(hR k hin).2.2, hn])
        rw [(hR k hin).2.2, (hR k hin).2.1] at CG
        have CG := hide CG
        have TAB := hide hTr.tab
        by_cases hkd : (J k).kd = 2
        · have ht := hTr.inv.tr k hin hst hkd
          have hel := encs_bound ht.wf
          have h8 := ht.len
          have hle : (encs (J k).rws).length ≤ 1000 := by omega
          have hd := ht.dat
          rw [hd] at hn
          rw [hkd, hd] at CG
          obtain ⟨rs, hrs⟩ : ∃ rs, rs = (J k).rws := ⟨_, rfl⟩
          have Hkey : Hid (∀ i (hi : i + 1 < rs.length), bl (keyR (rs[i]'(by omega))) (keyR rs[i + 1]) = true) := hide (by subst hrs; exact ht.keys)
          have Hwf := hide ht.wf
          have Hok : Hid (∀ r ∈ (J k).rws, RowOk J r) := hide (fun r hr => hTr.inv.rowOk hin hl hkd hr)
          have Hocc : Hid (∀ i, cntJ J i (k + 1) = cntJ J i k + occ (J k).rws i) := hide (fun i => by rw [cntJ_step J i k (by omega), if_pos hl])
          have Hge := hide (encs_ge (J k).rws)
          have Hcle : Hid (∀ i, cntJ J i k ≤ 400) := hide (fun i => by have := hTr.inv.cnt_le i k (by omega); omega)
          rw [hkd] at hkj
          have Hkj := hide hkj
          have HTr := hide hTr
          have HWt := hide hWt
          have Hn := hide hn
          have hn1000 : n ≤ 1000 := by omega
          have ho2 := ho.size
          rw [← hrs] at Hwf Hok Hocc Hge Hn CG h8
          clear ht hd hTr hOS hR hkj hWt hel hle hn hrs
          go_wp2_with fail
          refine (unhide CG).mono ?_
          rintro y w1 ⟨rfl, hh1, oo1⟩
          have o1s := oo1.size
          have hT1 := (unhide HTr).quiet oo1
          have qk := (hT1.tab.kind k hk8).1
          rw [unhide Hkj] at qk
          have W1 : WantAt w1 g (fun i => cntJ J i k) := Has.keep (unhide HWt) oo1 (fun h => h)
          have hc18 : n ≤ 1000 := hn1000
          have hh2 : Has w1 wr.heap.size (tabV (encs rs).length (u8f (dF (encs rs)))) 5 := by rw [← unhide Hn]; exact hh1
          have CR := rows_any (has_bytes hh2) (unhide Hwf) (by rw [← unhide Hn]; omega) (fun g n' cap e => by have := unhide Hn; simp at e; omega)
          rw [← unhide Hn] at CR
          have CR := hide CR
          have HW1 := hide W1
          have HT1 := hide hT1
          have OO1 := hide oo1
          clear hh1 hh2 W1 hT1 CG oo1
          go_wp2_with fail
          refine (unhide CR).mono ?_
          rintro y w2 ⟨v2, rfl, hRI⟩
          have hT2 := (unhide HT1).quiet hRI.ho
          have HW2 := hide (Has.keep (unhide HW1) hRI.ho (fun h => h))
          obtain ⟨ra, rc, rfl⟩ := hRI.own.in_.shape
          have CS := hide (tsound_any hT2 _ rs hRI.own.in_ (unhide Hwf) h8 (unhide Hok) (unhide Hkey))
          have Hty : Hid (∀ g, ra = some ⟨g, 0, none⟩ → ∃ c, Has w2 g c 96) := hide (fun g e => by
            subst e
            rcases hRI.own.2 with ⟨he, _⟩ | ⟨g', cap', cur, he, _, hh, _⟩
            · simp at he
            · obtain ⟨rfl, _⟩ : g = g' ∧ rc = cap' := by simpa using he
              exact ⟨cur, hh⟩)
          have HLn := hide hRI.own.in_
          have O12 := hide ((unhide OO1).trans hRI.ho (fun _ _ h => h))
          have hcond : (decide ((rs.length : Int) = 0)) = true → n = 0 := fun e => by
            have h0 : rs.length = 0 := by simpa using e
            rw [unhide Hn, List.eq_nil_of_length_eq_zero h0]; rfl
          clear hRI hT2 CR HT1 HW1 qk
          by_cases hrs0 : rs.length = 0
          · have hn0 : n = 0 := by rw [unhide Hn, List.eq_nil_of_length_eq_zero hrs0]; rfl
            have er : ((rs.length : Int) == 0) = true := by simp [hrs0]
            have en : ((n : Int) != 0) = false := by simp [hn0]
            clear hn0 hcond hrs0
            go_wp2_with fail
            refine (unhide CS).mono ?_
            rintro y w3 ⟨rfl, o3⟩
            have O3 := hide (((ho.trans (unhide O12) (fun _ _ h => h.elim)).trans o3 (fun _ _ h => h.elim) : Only (fun y => y = g) w0 w3))
            have HL3 := hide ((unhide HLn).keep o3 (fun _ _ h => h))
            have HW3 := hide (Has.keep (unhide HW2) o3 (fun h => h))
            have Hty3 : Hid (∀ q, ra = some ⟨q, 0, none⟩ → q ≠ g) := hide (fun q e => by
              obtain ⟨c, hc⟩ := unhide Hty q e
              exact Has.ne hc (unhide HW2) (by decide))
            have HS3 := hide o3.size
            clear o3 CS HLn HW2 Hty
            go_wp2_with fail
            go_loopw [9] (fun jv wx => ∃ j : Nat, jv = .int .i64 j ∧ j ≤ rs.length ∧ WantAt wx g (fun i => cntJ J i k + occ (rs.take j) i) ∧ Only (fun y => y = g) w3 wx) (fun jv _ => rs.length - (intOf jv).toNat)
            case atStart => exact ⟨0, rfl, by omega, WantAt.congr (unhide HW3) (fun i => by simp [occ]), Only.refl _ _⟩
            case round =>
              obtain ⟨j, rfl, hj, hWj, hoj⟩ := hrel
              by_cases hjl : j < rs.length
              · obtain ⟨q, rfl, hc⟩ := (unhide HL3).at_ (by omega)
                obtain ⟨_, _, v2, _⟩ := hc j hjl
                have hql : q < w3.heap.size := World.block_lt_of_cell? w3 _ v2
                have hqg := unhide Hty3 q rfl
                have y2 := (World.cell?_of_block (a := ⟨q, j * 4 + 2, none⟩) (hoj.block q hql hqg)).trans v2
                have hqw : q < wr.heap.size := by have := hoj.size; omega
                have b1 : decide ((j : Int) < (rs.length : Int)) = true := decide_eq_true (by omega)
                have b1n : decide (j < rs.length) = true := decide_eq_true hjl
                have b2 : (j : Int) < (rs.length : Int) := by omega
                have hri := unhide Hok rs[j] (List.getElem_mem hjl)
                have r48 := hri.inn.2
                have c5 := hWj.cell rs[j].id (by omega)
                have hcl := unhide Hcle rs[j].id
                have hoc := occ_le (rs.take j) rs[j].id
                have htl : (rs.take j).length ≤ 8 := by rw [List.length_take]; omega
                have HN := hide (hWj.inc rs[j].id (f' := fun i => cntJ J i k + occ (rs.take (j + 1)) i) (fun i => by
                  show cntJ J i k + occ (rs.take (j + 1)) i = if i = rs[j].id then (cntJ J rs[j].id k + occ (rs.take j) rs[j].id) + 1 else cntJ J i k + occ (rs.take j) i
                  rw [List.take_succ_eq_append_getElem hjl, occ_snoc]
                  by_cases e : i = rs[j].id
                  · rw [if_pos e, if_pos e.symm, e]; omega
                  · rw [if_neg e, if_neg (fun x => e x.symm)]; omega))
                have HO := hide (hoj.setCell (p := ⟨g, rs[j].id, none⟩) (fun _ => rfl) (.int .i64 (((cntJ J rs[j].id k + occ (rs.take j) rs[j].id : Nat) : Int) + 1)))
                have hgwr := Has.lt hWj
                have c51 : (cntJ J rs[j].id k + occ (rs.take j) rs[j].id : Nat) ≤ 1000 := by omega
                clear hc v2 hri hWj hoj hcl hoc
                have c5 : wr.cell? ⟨g, rs[j].id, none⟩ = some (.int .i64 ((cntJ J rs[j].id k + occ (rs.take j) rs[j].id : Nat) : Int)) ∧ wr.frozen? ⟨g, rs[j].id, none⟩ = false := c5
                generalize cntJ J rs[j].id k + occ (rs.take j) rs[j].id = cv at *
                generalize rs[j].id = ri at *
                have r49 : (ri : Int) < 49 := by omega
                go_wp2_with fail
                go_roundw
                case rel => exact ⟨j + 1, by go_num, by omega, unhide HN, unhide HO⟩
                case measure => simp [intOf]; omega
              · have b1 : decide ((j : Int) < (rs.length : Int)) = false := decide_eq_false (by omega)
                have b1n : decide (j < rs.length) = false := decide_eq_false hjl
                have ej : j = rs.length := by omega
                have HN := hide (hWj.congr (f' := fun i => cntJ J i (k + 1)) (fun i => by rw [unhide Hocc i, ej, List.take_length]))
                have HO := hide ((unhide O3).trans hoj (fun _ _ h => h))
                clear hWj ej hoj
                go_wp2_with fail
                go_roundw
                case rel => exact ⟨k + 1, by omega, by omega, by go_num, unhide HN, unhide HO⟩
                case measure => simp [intOf]; omega
          · have er : ((rs.length : Int) == 0) = false := ne_intO (by omega)
            clear hcond
            go_wp2_with fail
            refine (unhide CS).mono ?_
            rintro y w3 ⟨rfl, o3⟩
            have O3 := hide (((ho.trans (unhide O12) (fun _ _ h => h.elim)).trans o3 (fun _ _ h => h.elim) : Only (fun y => y = g) w0 w3))
            have HL3 := hide ((unhide HLn).keep o3 (fun _ _ h => h))
            have HW3 := hide (Has.keep (unhide HW2) o3 (fun h => h))
            have Hty3 : Hid (∀ q, ra = some ⟨q, 0, none⟩ → q ≠ g) := hide (fun q e => by
              obtain ⟨c, hc⟩ := unhide Hty q e
              exact Has.ne hc (unhide HW2) (by decide))
            have HS3 := hide o3.size
            clear o3 CS HLn HW2 Hty
            go_wp2_with fail
            go_loopw [9] (fun jv wx => ∃ j : Nat, jv = .int .i64 j ∧ j ≤ rs.length ∧ WantAt wx g (fun i => cntJ J i k + occ (rs.take j) i) ∧ Only (fun y => y = g) w3 wx) (fun jv _ => rs.length - (intOf jv).toNat)
            case atStart => exact ⟨0, rfl, by omega, WantAt.congr (unhide HW3) (fun i => by simp [occ]), Only.refl _ _⟩
            case round =>
              obtain ⟨j, rfl, hj, hWj, hoj⟩ := hrel
              by_cases hjl : j < rs.length
              · obtain ⟨q, rfl, hc⟩ := (unhide HL3).at_ (by omega)
                obtain ⟨_, _, v2, _⟩ := hc j hjl
                have hql : q < w3.heap.size := World.block_lt_of_cell? w3 _ v2
                have hqg := unhide Hty3 q rfl
                have y2 := (World.cell?_of_block (a := ⟨q, j * 4 + 2, none⟩) (hoj.block q hql hqg)).trans v2
                have hqw : q < wr.heap.size := by have := hoj.size; omega
                have b1 : decide ((j : Int) < (rs.length : Int)) = true := decide_eq_true (by omega)
                have b1n : decide (j < rs.length) = true := decide_eq_true hjl
                have b2 : (j : Int) < (rs.length : Int) := by omega
                have hri := unhide Hok rs[j] (List.getElem_mem hjl)
                have r48 := hri.inn.2
                have c5 := hWj.cell rs[j].id (by omega)
                have hcl := unhide Hcle rs[j].id
                have hoc := occ_le (rs.take j) rs[j].id
                have htl : (rs.take j).length ≤ 8 := by rw [List.length_take]; omega
                have HN := hide (hWj.inc rs[j].id (f' := fun i => cntJ J i k + occ (rs.take (j + 1)) i) (fun i => by
                  show cntJ J i k + occ (rs.take (j + 1)) i = if i = rs[j].id then (cntJ J rs[j].id k + occ (rs.take j) rs[j].id) + 1 else cntJ J i k + occ (rs.take j) i
                  rw [List.take_succ_eq_append_getElem hjl, occ_snoc]
                  by_cases e : i = rs[j].id
                  · rw [if_pos e, if_pos e.symm, e]; omega
                  · rw [if_neg e, if_neg (fun x => e x.symm)]; omega))
                have HO := hide (hoj.setCell (p := ⟨g, rs[j].id, none⟩) (fun _ => rfl) (.int .i64 (((cntJ J rs[j].id k + occ (rs.take j) rs[j].id : Nat) : Int) + 1)))
                have hgwr := Has.lt hWj
                have c51 : (cntJ J rs[j].id k + occ (rs.take j) rs[j].id : Nat) ≤ 1000 := by omega
                clear hc v2 hri hWj hoj hcl hoc
                have c5 : wr.cell? ⟨g, rs[j].id, none⟩ = some (.int .i64 ((cntJ J rs[j].id k + occ (rs.take j) rs[j].id : Nat) : Int)) ∧ wr.frozen? ⟨g, rs[j].id, none⟩ = false := c5
                generalize cntJ J rs[j].id k + occ (rs.take j) rs[j].id = cv at *
                generalize rs[j].id = ri at *
                have r49 : (ri : Int) < 49 := by omega
                go_wp2_with fail
                go_roundw
                case rel => exact ⟨j + 1, by go_num, by omega, unhide HN, unhide HO⟩
                case measure => simp [intOf]; omega
              · have b1 : decide ((j : Int) < (rs.length : Int)) = false := decide_eq_false (by omega)
                have b1n : decide (j < rs.length) = false := decide_eq_false hjl
                have ej : j = rs.length := by omega
                have HN := hide (hWj.congr (f' := fun i => cntJ J i (k + 1)) (fun i => by rw [unhide Hocc i, ej, List.take_length]))
                have HO := hide ((unhide O3).trans hoj (fun _ _ h => h))
                clear hWj ej hoj
                go_wp2_with fail
                go_roundw
                case rel => exact ⟨k + 1, by omega, by omega, by go_num, unhide HN, unhide HO⟩
                case measure => simp [intOf]; omega
        · have Hocc := hide (hWt.congr (f' := fun i => cntJ J i (k + 1)) (fun i => by rw [cntJ_step J i k (by omega), if_pos hl, (hTr.inv.nt k hin hst hkd).2]; simp [occ]))
          have HTr := hide hTr
          have Hkj := hide hkj
          have hkd4 := hTr.inv.kd k hin hst
          clear hTr hOS hR hkj hWt hn
          generalize (J k).kd = kd at *
          have e2 : ((kd : Int) == 2) = false := ne_intO (by omega)
          go_wp2_with fail
          refine (unhide CG).mono ?_
          rintro y w1 ⟨rfl, hh1, oo1⟩
          have qk := (((unhide HTr).quiet oo1).tab.kind k hk8).1
          rw [unhide Hkj] at qk
          have HW2 := hide (Has.keep (unhide Hocc) oo1 (fun h => h))
          have HO := hide (ho.trans oo1 (fun _ _ h => h.elim))
          clear hh1 oo1 CG Hocc
          go_wp2_with fail
          go_roundw
          case rel => exact ⟨k + 1, by omega, by omega, by go_num, unhide HW2, unhide HO⟩
          case measure => simp [intOf]; omega
    · obtain rfl : k = 49 := by omega
      have HTr := hide hTr
      have HWt := hide hWt
      have HO := hide ho
      have hgr := Has.lt hWt
      have htr := Has.lt hTr.tab
      clear hTr hWt ho
      generalize hW : wr = W at *
      clear hW
      go_wp2_with fail
      go_loopw [10] (fun jv wx => ∃ j : Nat, jv = .int .i64 j ∧ j ≤ 49 ∧ Only (fun _ => False) W wx) (fun jv _ => (49 - intOf jv).toNat)
      case atStart => exact ⟨0, rfl, by omega, Only.refl _ _⟩
      case round =>
        obtain ⟨j, rfl, hj, hoj⟩ := hrel
        have hT := (unhide HTr).quiet hoj
        have hws := hoj.size
        by_cases hj8 : j < 49
        · have b1 : decide ((j : Int) ≤ 48) = true := by simp; omega
          have b2 : (j : Int) < 49 := by omega
          have c1 := (hT.tab.count j hj8).1
          have c2 := (WantAt.cell (Has.keep (unhide HWt) hoj (fun h => h)) j hj8).1
          have hz : cntZ J j = ((cntJ J j 49 : Nat) : Int) := rfl
          rw [hz] at c1
          have hgw2 : g < wr.heap.size := by omega
          have htw2 : t < wr.heap.size := by omega
          clear hT hz
          generalize cntJ J j 49 = cv at *
          have n1 : ((cv : Int) != (cv : Int)) = false := by simp
          go_upto_region 23 with fail
          go_quiet (fail)
          go_wp2_with fail
          go_roundw
          case rel => exact ⟨j + 1, by go_num, by omega, hoj.drewO _⟩
          case measure => simp [intOf]; omega
        · obtain rfl : j = 49 := by omega
          have c0 := (hT.tab.kind 0 (by omega)).1
          have hk0 : kindJ J 0 = 0 := by unfold kindJ; rw [if_neg (fun e => e.1 rfl)]
          rw [hk0] at c0
          have hO := (unhide O0).trans ((unhide HO).trans hoj (fun _ _ h => h.elim)) (fun y hy e => by have := unhide Hg; omega)
          have HO2 := hide hO
          clear hT hk0 hO
          go_wp2_with fail
          go_ret
          exact ⟨rfl, unhide HO2⟩
end
end Go.Proofs.Qxb6500421aGreat
