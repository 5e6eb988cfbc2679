/-
  OWN WORK. THE TREE MODEL: Put.
-/
import Derived.Test.Qxb6500421aGreatUPln
import Derived.Test.Qxb6500421aGreatTPut
import Derived.Test.Qxb6500421aGreatTDrp
namespace Go.Proofs.Qxb6500421aGreat
open Go.RowKit Go.PlainAid
set_option linter.unusedSimpArgs false
set_option linter.unusedVariables false

theorem uput_kind (m : Nat) (w : World) (k : Int) (hk : ¬ (1 ≤ k ∧ k ≤ 4) ∨ k = 2) (v : Value) :
    Calls Tryz.prog 57 #[.pointer (some ⟨m, 0, none⟩), .int .i64 k, v] w fun e w' => e = .returned (.tuple #[.int .i64 0, .int .i64 3]) ∧ w = w' := by
  by_cases h1 : k < 1
  · have a0 : decide (k < 1) = true := by simpa using h1
    go_enter Tryz.func57, Tryz.ntmps57
    go_wp2_with fail
    go_ret2
    exact ⟨rfl, rfl⟩
  · have a0 : decide (k < 1) = false := by simpa using h1
    by_cases h4 : 4 < k
    · have a4 : decide (4 < k) = true := by simpa using h4
      go_enter Tryz.func57, Tryz.ntmps57
      go_wp2_with fail
      go_ret2
      exact ⟨rfl, rfl⟩
    · obtain rfl : k = 2 := by omega
      go_enter Tryz.func57, Tryz.ntmps57
      go_wp2_with fail
      go_ret2
      exact ⟨rfl, rfl⟩
theorem uput_big (m : Nat) (w : World) (k : Nat) (hk1 : 1 ≤ k) (hk4 : k ≤ 4) (hk2 : k ≠ 2) (a : Option Addr) (n c : Nat) (hn : 180 < n) :
    Calls Tryz.prog 57 #[.pointer (some ⟨m, 0, none⟩), .int .i64 k, .slice a n c] w fun e w' => e = .returned (.tuple #[.int .i64 0, .int .i64 4]) ∧ w = w' := by
  have a0 : decide ((k : Int) < 1) = false := by simp; omega
  have a4 : decide (4 < (k : Int)) = false := by simp; omega
  have a2 : ((k : Int) == 2) = false := ne_intO (by omega)
  have a5 : decide (180 < (n : Int)) = true := by simp; omega
  go_enter Tryz.func57, Tryz.ntmps57
  go_wp2_with fail
  go_ret2
  exact ⟨rfl, rfl⟩

theorem findB_at {J : Nat → Sl} {k : Nat} {dat : List Nat} {i : Nat} (hi : In i) (hl : liveS (J i) = true) (hk : (J i).kd = k) (hd : (J i).dat = dat) (hb : ∀ j, In j → j < i → ¬ (liveS (J j) = true ∧ (J j).kd = k ∧ (J j).dat = dat)) : findB J k dat = some i := by
  cases hf : findB J k dat with
  | none => exact absurd ⟨hk, hd⟩ (findB_none hf i hi hl)
  | some r =>
    have hf0 := hf
    unfold findB at hf
    obtain ⟨h1, h2, h3⟩ := List.find?_range_eq_some.1 hf
    congr 1
    have hr := findB_some hf0
    by_cases e : r = i
    · exact e
    · rcases Nat.lt_or_gt_of_ne e with h | h
      · exact absurd ⟨hr.2.1, hr.2.2.1, hr.2.2.2⟩ (hb r hr.1 h)
      · have := h3 i h
        have hi1 := hi.1
        simp [hl, hk, hd] at this
        omega
theorem findB_no {J : Nat → Sl} {k : Nat} {dat : List Nat} (hb : ∀ j, In j → ¬ (liveS (J j) = true ∧ (J j).kd = k ∧ (J j).dat = dat)) : findB J k dat = none := by
  cases hf : findB J k dat with
  | none => rfl
  | some r =>
    have hr := findB_some hf
    exact absurd ⟨hr.2.1, hr.2.2.1, hr.2.2.2⟩ (hb r hr.1)
section
variable {w : World} {m : Nat} {J : Nat → Sl} {rt : Nat} {hist : Value} {H : Nat → Prop}
theorem Ext.self {F : Nat → Prop} {w w' : World} {y : Nat} (h : F y) : Ext F w w' y := .inl h
set_option maxRecDepth 100000 in
set_option maxHeartbeats 4000000 in
theorem uput_any (h : UAt w m J rt hist H) (k : Nat) (hk1 : 1 ≤ k) (hk4 : k ≤ 4) (hk2 : k ≠ 2) (dat : List Nat) (v : Value) (hdat : BytesAt w v dat.length (dF dat)) (hd180 : dat.length ≤ 180) :
    Calls Tryz.prog 57 #[.pointer (some ⟨m, 0, none⟩), .int .i64 k, v] w fun e w' => e = .returned (.tuple #[.int .i64 ((putJ J k dat).2.1 : Nat), .int .i64 ((putJ J k dat).2.2 : Nat)]) ∧ UAt w' m (putJ J k dat).1 rt hist (Ext H w w') ∧ Only (fun k => k = m) w w' := by
  have a0 : decide ((k : Int) < 1) = false := by simp; omega
  have a4 : decide (4 < (k : Int)) = false := by simp; omega
  have a2' : ((k : Int) == 2) = false := ne_intO (by omega)
  have hml := h.lt
  have Hdat := hide hdat
  obtain ⟨va, vc, rfl, _⟩ := hdat
  generalize hnn : dat.length = n at *
  have a5 : decide (180 < (n : Int)) = false := by simp; omega
  have Hnn := hide hnn
  have H0 := hide h
  clear hnn h
  go_enter Tryz.func57, Tryz.ntmps57
  go_wp2_with fail
  go_loopw [8] (fun iv wr => ∃ i : Nat, 1 ≤ i ∧ i ≤ 49 ∧ iv = .int .i64 i ∧ (∀ j, In j → j < i → ¬ (liveS (J j) = true ∧ (J j).kd = k ∧ (J j).dat = dat)) ∧ Only (fun _ => False) w wr) (fun iv _ => (49 - intOf iv).toNat)
  case atStart => exact ⟨1, by omega, by omega, rfl, fun j hj hl => by have := hj.1; omega, Only.refl _ _⟩
  case round =>
    obtain ⟨i, hi1, hi, rfl, hno, ho⟩ := hrel
    have Hno := hide hno
    clear hno
    have hM := (unhide H0).quiet ho
    have hws := ho.size
    by_cases hi8 : i < 49
    · have hin : In i := ⟨hi1, by omega⟩
      have b1 : decide ((i : Int) ≤ 48) = true := by simp; omega
      have b2 : (i : Int) < 49 := by omega
      obtain ⟨dv, lv, kv, hc⟩ := hM.cells hin
      have z1 := hc.c1.1
      have z2 := hc.c2.1
      have C1 := ulive_any hM i
      rw [liveJ_nat hin] at C1
      have hstep : (¬ (liveS (J i) = true ∧ (J i).kd = k ∧ (J i).dat = dat)) → ∀ j, In j → j < i + 1 → ¬ (liveS (J j) = true ∧ (J j).kd = k ∧ (J j).dat = dat) := by
        intro hn j hj hlt
        by_cases e : j = i
        · subst e; exact hn
        · exact unhide Hno j hj (by omega)
      cases hl : liveS (J i) with
      | false =>
        rw [hl] at C1
        have C1 := hide C1
        have Hnext := hide (hstep (by rw [hl]; simp))
        clear hstep hl hM hc
        go_wp2_with fail
        refine (unhide C1).mono ?_
        rintro e w1 ⟨rfl, rfl⟩
        go_wp2_with fail
        go_roundw
        case rel => exact ⟨i + 1, by omega, by omega, by go_num, unhide Hnext, ho⟩
        case measure => simp [intOf]; omega
      | true =>
        rw [hl] at C1
        have C1 := hide C1
        by_cases hkd : (J i).kd = k
        · rw [hkd] at z1
          have e1 : ((k : Int) == (k : Int)) = true := by simp
          have em : mD (J i) = (J i).dat := by unfold mD; rw [if_neg (by omega)]
          have hbu := hc.db
          have h180 := hc.d180
          rw [em] at hbu h180
          have C2 := usame_any dv (.slice va n vc) (J i).dat dat hbu (by rw [unhide Hnn]; exact (unhide Hdat).keep ho (fun _ _ h => h)) (by omega)
          by_cases hd : (J i).dat = dat
          · rw [decide_eq_true hd] at C2
            have C2 := hide C2
            have hP : putJ J k dat = (J, i, 0) := by unfold putJ; rw [findB_at hin hl hkd hd (unhide Hno)]
            have HP := hide hP
            clear hd hl hkd hM hc hbu hP hstep em
            go_wp2_with fail
            refine (unhide C1).mono ?_
            rintro e w1 ⟨rfl, rfl⟩
            go_wp2_with fail
            refine (unhide C2).mono ?_
            rintro e w1 ⟨rfl, ho2⟩
            go_wp2_with fail
            go_ret2
            rw [unhide HP]
            have o3 := ho.trans ho2 (fun _ _ h => h)
            have s3 := o3.size
            exact ⟨rfl, ((unhide H0).quiet o3).mono (fun _ hk => .inl hk) (fun y hy => by
              rcases hy with hy | hy
              · have := (unhide H0).inn y hy; omega
              · exact hy.2), o3.mono (fun _ _ h => h.elim)⟩
          · rw [decide_eq_false hd] at C2
            have C2 := hide C2
            have Hnext := hide (hstep (fun h => hd h.2.2))
            clear hstep hl hM hc hbu hd hkd em
            go_wp2_with fail
            refine (unhide C1).mono ?_
            rintro e w1 ⟨rfl, rfl⟩
            go_wp2_with fail
            refine (unhide C2).mono ?_
            rintro e w1 ⟨rfl, ho2⟩
            go_wp2_with fail
            go_roundw
            case rel => exact ⟨i + 1, by omega, by omega, by go_num, unhide Hnext, ho.trans ho2 (fun _ _ h => h)⟩
            case measure => simp [intOf]; omega
        · have Hnext := hide (hstep (fun h => hkd h.2.1))
          clear hstep
          generalize (J i).kd = kd at *
          have e1 : ((kd : Int) == (k : Int)) = false := by simp; omega
          clear hl hM hc hkd
          go_wp2_with fail
          refine (unhide C1).mono ?_
          rintro e w1 ⟨rfl, rfl⟩
          go_wp2_with fail
          go_roundw
          case rel => exact ⟨i + 1, by omega, by omega, by go_num, unhide Hnext, ho⟩
          case measure => simp [intOf]; omega
    · obtain rfl : i = 49 := by omega
      have hF : findB J k dat = none := findB_no (fun j hj => unhide Hno j hj (by have := hj.2; omega))
      have C3 := ulowest_any hM
      have oam : Only (fun k => k = m) w wr := ho.mono (fun _ _ h => h.elim)
      cases hlw : lowJ J with
      | none =>
        have e0 : lowN J = 0 := by unfold lowN; rw [hlw]
        have hP : putJ J k dat = (J, 0, 5) := by unfold putJ; rw [hF]; simp only; rw [hlw]
        have HP := hide hP
        rw [e0] at C3
        have C3 := hide C3
        clear hF hlw e0 hP hM Hno
        go_wp2_with fail
        refine (unhide C3).mono ?_
        rintro e w1 ⟨rfl, rfl⟩
        go_wp2_with fail
        go_ret2
        rw [unhide HP]
        exact ⟨rfl, ((unhide H0).quiet ho).mono (fun _ hk => .inl hk) (fun y hy => by
              rcases hy with hy | hy
              · have := (unhide H0).inn y hy; omega
              · exact hy.2), oam⟩
      | some i =>
        obtain ⟨hin, h0, _⟩ := lowJ_some hlw
        have e0 : lowN J = i := by unfold lowN; rw [hlw]
        have hP : putJ J k dat = (updT J i ⟨1, k, dat, [], []⟩, i, 0) := by unfold putJ; rw [hF]; simp only; rw [hlw]
        have HP := hide hP
        rw [e0] at C3
        have C3 := hide C3
        have b2 : (i : Int) < 49 := by have := hin.2; omega
        have b3 : ((i : Int) == 0) = false := ne_intO (by have := hin.1; omega)
        obtain ⟨dv, lv, kv, hc⟩ := hM.cells hin
        have z0 := hc.c0
        have z1 := hc.c1
        have z2 := hc.c2
        have z3 := hc.c3
        have z4 := hc.c4
        have C1 := hide (fun (wx : World) (hx : Only (fun _ => False) wr wx) => copyBytes_any (.slice va n vc) n (dF dat) (((unhide Hdat).keep ho (fun _ _ h => h)).keep hx (fun _ _ h => h)) (by omega))
        have hml2 := hM.lt
        have hmn : m ≠ wr.heap.size := by omega
        have hPP : UAt ((put5 wr m i ⟨1, k, .slice (some ⟨wr.heap.size, 0, none⟩) n n, .slice none 0 0, .slice none 0 0⟩).alloc (.cells (tabV n (u8f (dF dat))) 5)).drew m (updT J i ⟨1, k, dat, [], []⟩) rt hist (Ext H w ((put5 wr m i ⟨1, k, .slice (some ⟨wr.heap.size, 0, none⟩) n n, .slice none 0 0, .slice none 0 0⟩).alloc (.cells (tabV n (u8f (dF dat))) 5)).drew) := by
          have hwz := ho.size
          obtain ⟨⟨sl, base, hm, hsi⟩, hown, hinn⟩ := hM
          have e1 := hm.putSlot i (by have := hin.2; omega) ⟨1, k, .slice (some ⟨wr.heap.size, 0, none⟩) n n, .slice none 0 0, .slice none 0 0⟩
          have o1 : Only (fun x => x = m) wr _ := only5 (i := i) (Only.refl (fun x => x = m) wr) (fun _ => rfl) ⟨1, k, .slice (some ⟨wr.heap.size, 0, none⟩) n n, .slice none 0 0, .slice none 0 0⟩
          have o2 := (o1.alloc (.cells (tabV n (u8f (dF dat))) 5)).drew
          have s2 := o2.size
          have hpz : (put5 wr m i ⟨1, k, .slice (some ⟨wr.heap.size, 0, none⟩) n n, .slice none 0 0, .slice none 0 0⟩).heap.size = wr.heap.size := by simp [put5]
          refine ⟨⟨updT sl i ⟨1, k, .slice (some ⟨wr.heap.size, 0, none⟩) n n, .slice none 0 0, .slice none 0 0⟩, base, Has.drew (Has.alloc e1 _), fun j hj => ?_⟩, .inl hown, ?_⟩
          · by_cases e : j = i
            · subst e
              rw [updT_same, updT_same]
              have em : mD ⟨1, k, dat, [], []⟩ = dat := by unfold mD; exact if_neg hk2
              refine ⟨⟨rfl, rfl, ?_, EntsIn.nil _, IntsIn.nil _, ?_, by simp, by simp [kidL]⟩, ?_⟩
              · rw [em, unhide Hnn]
                exact bytesAt_ofU (Has.drew (Has.new' _ _ _ wr.heap.size hpz.symm))
              · rw [em, unhide Hnn]; exact hd180
              · intro g hg
                rcases hg with hg | hg | hg
                · have : wr.heap.size = g := by simpa [Value.ownBlock] using hg
                  subst this
                  exact ⟨.inr ⟨hwz, by simp [hpz]⟩, by omega⟩
                · simp [Value.ownBlock] at hg
                · simp [Value.ownBlock] at hg
            · rw [updT_other _ _ _ _ e, updT_other _ _ _ _ e]
              obtain ⟨a, f⟩ := hsi j hj
              exact ⟨a.keep o2 (fun g hg => (f g hg).2), fun g hg => ⟨.inl (f g hg).1, (f g hg).2⟩⟩
          · intro y hy
            rcases hy with hy | hy
            · have := hinn y hy; omega
            · exact hy.2
        have HPP := hide hPP
        have hO : Only (fun k => k = m) w ((put5 wr m i ⟨1, k, .slice (some ⟨wr.heap.size, 0, none⟩) n n, .slice none 0 0, .slice none 0 0⟩).alloc (.cells (tabV n (u8f (dF dat))) 5)).drew := ((only5 (i := i) oam (fun _ => rfl) _).alloc _).drew
        have HO := hide hO
        clear hPP hO hM hc hF hlw e0 hP Hno
        generalize (J i).st = st at *
        generalize (J i).kd = kd at *
        go_wp2_with fail
        refine (unhide C3).mono ?_
        rintro e w1 ⟨rfl, rfl⟩
        go_wp2_with fail
        go_region_with (go_at_call 47; refine ((unhide C1) _ ?_).mono ?_; exact (Only.refl (fun _ => False) _).drew; rintro e w2 ⟨rfl, rfl⟩)
        all_goals
          go_wp2_with fail
          go_ret2
          rw [unhide HP]
          exact ⟨rfl, unhide HPP, unhide HO⟩
end
end Go.Proofs.Qxb6500421aGreat
