/-
  OWN WORK. TXN, Keeps: AllStay, Held, Locked, Same (written by tools/gen_xk2.py).
-/
import Derived.Test.Qxb6500414aGreatXK1
import Derived.BigQuiet
import Derived.Deep.DeepCutAuto
namespace Go.Proofs.Qxb6500414aGreat
open Go.RowKit Go.PlainAid
set_option linter.unusedSimpArgs false
set_option linter.unusedVariables false
section
variable {lo : Nat} {w w' : World} {k k2 : Nat} {M N : Mu} {s t : Nat} {T : Tb}
theorem tab_at {M N : Mu} (hn : namesD M.com = namesD N.com) {t : Nat} {T : Tb} (ht : M.com[t]? = some T) : ∃ U, N.com[t]? = some U ∧ U.nm = T.nm := by
  have h : (namesD N.com)[t]? = some T.nm := by rw [← hn]; simp [namesD, ht]
  unfold namesD at h
  rw [List.getElem?_map] at h
  obtain ⟨U, hU, e⟩ := Option.map_eq_some_iff.mp h
  exact ⟨U, hU, e⟩
theorem len_at {M N : Mu} (hn : namesD M.com = namesD N.com) : N.com.length = M.com.length := by
  have := congrArg List.length hn
  simpa [namesD] using this.symm

set_option maxRecDepth 100000 in
set_option maxHeartbeats 2000000 in
theorem xlallStay_any (H : Sht lo w k M) (H2 : Sht lo w k2 N) (hB : MuB M) (hB2 : MuB N) (who but : Int) (hp : ∀ (s t : Nat) (T : Tb), s < 4 → M.com[t]? = some T → ¬ ((s : Int) = who ∧ (t : Int) = but) → StyP M N s T.nm) : Calls Tryz.prog 169 #[.pointer (some ⟨k, 0, none⟩), .pointer (some ⟨k2, 0, none⟩), .int .i64 who, .int .i64 but] w fun e w' => e = .returned (.bool true) ∧ Only (fun _ => False) w w' := by
  obtain ⟨n, hn⟩ : ∃ n, M.com.length = n := ⟨_, rfl⟩
  have hl := hB.len
  rw [hn] at hl
  have HH := hide (And.intro H (And.intro H2 (And.intro hB (And.intro hB2 (And.intro hp hn)))))
  clear H H2 hB hB2 hp hn
  go_enter Tryz.func169, Tryz.ntmps169
  go_upto_region 2 with fail
  go_loopw [9, 10] (fun sv _ wr => ∃ s : Nat, sv = .int .i64 s ∧ s ≤ 4 ∧ Only (fun _ => False) w wr) (fun sv _ _ => 5 - (intOf sv).toNat)
  case atStart => exact ⟨0, rfl, by omega, Only.refl _ _⟩
  case round =>
    obtain ⟨s, rfl, hs4, oW⟩ := hrel
    by_cases hs : s < 4
    · have a1 : decide ((s : Int) < 4) = true := decide_eq_true (by omega)
      have s4 : (s : Int) < 4 := by omega
      have HO := hide oW
      clear oW
      go_upto_region 5 with fail
      go_loopw [10] (fun tv wr => ∃ t : Nat, tv = .int .i64 t ∧ t ≤ n ∧ Only (fun _ => False) w wr) (fun tv _ => n + 1 - (intOf tv).toNat)
      case atStart => exact ⟨0, rfl, by omega, unhide HO⟩
      case round =>
        obtain ⟨t, rfl, htn, oW⟩ := hrel
        have H1 := (unhide HH).1.quiet oW
        have kl := H1.lt
        obtain ⟨na, nc, c0, _⟩ := H1.names
        rw [(unhide HH).2.2.2.2.2] at c0
        have HO2 := hide oW
        by_cases ht : t < n
        · have a2 : decide ((t : Int) < (n : Int)) = true := decide_eq_true (by omega)
          obtain ⟨T, hT⟩ := getE (l := M.com) (i := t) (by rw [(unhide HH).2.2.2.2.2]; exact ht)
          by_cases e1 : (s : Int) = who ∧ (t : Int) = but
          · obtain ⟨e1, e2⟩ := e1
            have b1 : ((s : Int) == who) = true := by simpa using e1
            have b2 : ((t : Int) == but) = true := by simpa using e2
            clear e1 e2 hT H1 oW
            go_wp2_with fail
            go_roundw
            case rel => exact ⟨t + 1, by go_num, by omega, unhide HO2⟩
            case measure => simp [intOf]; omega
          · have CS := hide (xlstays_any H1 ((unhide HH).2.1.quiet oW) (unhide HH).2.2.1 (unhide HH).2.2.2.1 hs hT ((unhide HH).2.2.2.2.1 s t T hs hT e1))
            clear hT H1 oW
            by_cases e2 : (s : Int) = who
            · have b1 : ((s : Int) == who) = true := by simpa using e2
              have b2 : ((t : Int) == but) = false := by simpa using (fun c => e1 ⟨e2, c⟩)
              clear e1 e2
              go_wp2_with fail
              refine (unhide CS).mono ?_
              rintro e w2 ⟨rfl, o2⟩
              have HO3 := hide ((unhide HO2).trans o2 (fun _ _ e => e))
              clear o2 CS c0
              go_wp2_with fail
              go_roundw
              case rel => exact ⟨t + 1, by go_num, by omega, unhide HO3⟩
              case measure => simp [intOf]; omega
            · have b1 : ((s : Int) == who) = false := by simpa using e2
              clear e1 e2
              go_wp2_with fail
              refine (unhide CS).mono ?_
              rintro e w2 ⟨rfl, o2⟩
              have HO3 := hide ((unhide HO2).trans o2 (fun _ _ e => e))
              clear o2 CS c0
              go_wp2_with fail
              go_roundw
              case rel => exact ⟨t + 1, by go_num, by omega, unhide HO3⟩
              case measure => simp [intOf]; omega
        · have a2 : decide ((t : Int) < (n : Int)) = false := decide_eq_false (by omega)
          clear oW H1
          go_wp2_with fail
          go_roundw
          case rel => exact ⟨s + 1, by go_num, by omega, unhide HO2⟩
          case measure => simp [intOf]; omega
    · have a1 : decide ((s : Int) < 4) = false := decide_eq_false (by omega)
      go_wp2_with fail
      go_ret
      exact ⟨rfl, oW⟩
set_option maxRecDepth 100000 in
set_option maxHeartbeats 2000000 in
theorem xlheld_any (H : Sht lo w k M) (H2 : Sht lo w k2 N) (hB : MuB M) (hnm : namesD M.com = namesD N.com) (hp : (∀ s, s < 4 → M.act s = N.act s) ∧ ∀ (s t : Nat) (T : Tb), s < 4 → M.com[t]? = some T → M.lk s T.nm ≤ N.lk s T.nm) : Calls Tryz.prog 165 #[.pointer (some ⟨k, 0, none⟩), .pointer (some ⟨k2, 0, none⟩)] w fun e w' => e = .returned (.bool true) ∧ Only (fun _ => False) w w' := by
  obtain ⟨n, hn⟩ : ∃ n, M.com.length = n := ⟨_, rfl⟩
  have hl := hB.len
  rw [hn] at hl
  have HH := hide (And.intro H (And.intro H2 (And.intro hnm (And.intro hn hp))))
  clear H H2 hB hnm hp hn
  go_enter Tryz.func165, Tryz.ntmps165
  go_upto_region 2 with fail
  go_loopw [5, 6] (fun sv _ wr => ∃ s : Nat, sv = .int .i64 s ∧ s ≤ 4 ∧ Only (fun _ => False) w wr) (fun sv _ _ => 5 - (intOf sv).toNat)
  case atStart => exact ⟨0, rfl, by omega, Only.refl _ _⟩
  case round =>
    obtain ⟨s, rfl, hs4, oW⟩ := hrel
    by_cases hs : s < 4
    · have a1 : decide ((s : Int) < 4) = true := decide_eq_true (by omega)
      have s4 : (s : Int) < 4 := by omega
      have HO := hide oW
      clear oW
      have H1 := (unhide HH).1.quiet (unhide HO)
      have H2 := (unhide HH).2.1.quiet (unhide HO)
      have kl := H1.lt
      have kl2 := H2.lt
      have p0 := H1.actAt hs
      have q0 := H2.actAt hs
      rw [← (unhide HH).2.2.2.2.1 s hs] at q0
      generalize M.act s = bb at *
      clear H1 H2
      go_upto_region 4 with fail
      go_cut [23] from 11 to 23 (fun zv wx => zv = .bool false ∧ Only (fun _ => False) wr wx)
      case first =>
        cases bb
        all_goals
          go_quiet (fail)
          go_wp2_with fail
          go_meet
          exact ⟨rfl, onlyQ _ _⟩
      case rest =>
      obtain ⟨rfl, oC⟩ := hcut
      generalize wc = wD at *
      have HO := hide ((unhide HO).trans oC (fun _ _ e => e))
      clear oC p0 q0
      go_upto_region 7 with fail
      go_loopw [6] (fun tv wr => ∃ t : Nat, tv = .int .i64 t ∧ t ≤ n ∧ Only (fun _ => False) w wr) (fun tv _ => n + 1 - (intOf tv).toNat)
      case atStart => exact ⟨0, rfl, by omega, unhide HO⟩
      case round =>
        obtain ⟨t, rfl, htn, oW⟩ := hrel
        have H1 := (unhide HH).1.quiet oW
        have H2 := (unhide HH).2.1.quiet oW
        have kl := H1.lt
        have kl2 := H2.lt
        obtain ⟨na, nc, c0, _⟩ := H1.names
        rw [(unhide HH).2.2.2.1] at c0
        have HO2 := hide oW
        by_cases ht : t < n
        · have a2 : decide ((t : Int) < (n : Int)) = true := decide_eq_true (by omega)
          have t3 : (t : Int) < (n : Int) := by omega
          obtain ⟨T, hT⟩ := getE (l := M.com) (i := t) (by rw [(unhide HH).2.2.2.1]; exact ht)
          obtain ⟨U, hU, hUn⟩ := tab_at (unhide HH).2.2.1 hT
          obtain ⟨gp, cp, p1, p2⟩ := H1.lkAt hs hT
          obtain ⟨gq, cq, q1, q2⟩ := H2.lkAt hs hU
          rw [(unhide HH).2.2.2.1] at p1
          rw [len_at (unhide HH).2.2.1, (unhide HH).2.2.2.1] at q1
          rw [hUn] at q2
          have hle := (unhide HH).2.2.2.2.2 s t T hs hT
          generalize M.lk s T.nm = x at *
          generalize N.lk s T.nm = y at *
          have b1 : decide (y < x) = false := decide_eq_false (by omega)
          clear hle
          clear hT hU hUn H1 H2 oW
          go_upto_region 9 with fail
          go_cut [51] from 33 to 51 (fun zv wx => zv = .bool false ∧ Only (fun _ => False) wr wx)
          case first =>
            go_quiet (fail)
            go_wp2_with fail
            go_meet
            exact ⟨rfl, onlyQ _ _⟩
          case rest =>
          obtain ⟨rfl, oC⟩ := hcut
          generalize wc = wD at *
          have HO3 := hide ((unhide HO2).trans oC (fun _ _ e => e))
          clear oC p1 p2 q1 q2 c0
          go_wp2_with fail
          go_roundw
          case rel => exact ⟨t + 1, by go_num, by omega, unhide HO3⟩
          case measure => simp [intOf]; omega
        · have a2 : decide ((t : Int) < (n : Int)) = false := decide_eq_false (by omega)
          clear oW H1 H2
          go_wp2_with fail
          go_roundw
          case rel => exact ⟨s + 1, by go_num, by omega, unhide HO2⟩
          case measure => simp [intOf]; omega
    · have a1 : decide ((s : Int) < 4) = false := decide_eq_false (by omega)
      go_wp2_with fail
      go_ret
      exact ⟨rfl, oW⟩
set_option maxRecDepth 100000 in
set_option maxHeartbeats 2000000 in
theorem xllocked_any (H : Sht lo w k M) (H2 : Sht lo w k2 N) (hB : MuB M) (hnm : namesD M.com = namesD N.com) (sa ta want : Int) (hp : ∀ (s t : Nat) (T : Tb), s < 4 → M.com[t]? = some T → N.lk s T.nm = if (s : Int) = sa ∧ (t : Int) = ta then want else M.lk s T.nm) : Calls Tryz.prog 168 #[.pointer (some ⟨k, 0, none⟩), .pointer (some ⟨k2, 0, none⟩), .int .i64 sa, .int .i64 ta, .int .i64 want] w fun e w' => e = .returned (.bool true) ∧ Only (fun _ => False) w w' := by
  obtain ⟨n, hn⟩ : ∃ n, M.com.length = n := ⟨_, rfl⟩
  have hl := hB.len
  rw [hn] at hl
  have HH := hide (And.intro H (And.intro H2 (And.intro hnm (And.intro hn hp))))
  clear H H2 hB hnm hp hn
  go_enter Tryz.func168, Tryz.ntmps168
  go_upto_region 2 with fail
  go_loopw [11, 12] (fun sv _ wr => ∃ s : Nat, sv = .int .i64 s ∧ s ≤ 4 ∧ Only (fun _ => False) w wr) (fun sv _ _ => 5 - (intOf sv).toNat)
  case atStart => exact ⟨0, rfl, by omega, Only.refl _ _⟩
  case round =>
    obtain ⟨s, rfl, hs4, oW⟩ := hrel
    by_cases hs : s < 4
    · have a1 : decide ((s : Int) < 4) = true := decide_eq_true (by omega)
      have s4 : (s : Int) < 4 := by omega
      have HO := hide oW
      clear oW
      skip
      go_upto_region 5 with fail
      go_loopw [12] (fun tv wr => ∃ t : Nat, tv = .int .i64 t ∧ t ≤ n ∧ Only (fun _ => False) w wr) (fun tv _ => n + 1 - (intOf tv).toNat)
      case atStart => exact ⟨0, rfl, by omega, unhide HO⟩
      case round =>
        obtain ⟨t, rfl, htn, oW⟩ := hrel
        have H1 := (unhide HH).1.quiet oW
        have H2 := (unhide HH).2.1.quiet oW
        have kl := H1.lt
        have kl2 := H2.lt
        obtain ⟨na, nc, c0, _⟩ := H1.names
        rw [(unhide HH).2.2.2.1] at c0
        have HO2 := hide oW
        by_cases ht : t < n
        · have a2 : decide ((t : Int) < (n : Int)) = true := decide_eq_true (by omega)
          have t3 : (t : Int) < (n : Int) := by omega
          obtain ⟨T, hT⟩ := getE (l := M.com) (i := t) (by rw [(unhide HH).2.2.2.1]; exact ht)
          obtain ⟨U, hU, hUn⟩ := tab_at (unhide HH).2.2.1 hT
          have hx := (unhide HH).2.2.2.2 s t T hs hT
          by_cases e1 : (s : Int) = sa ∧ (t : Int) = ta
          · rw [if_pos e1] at hx
            obtain ⟨e1, e2⟩ := e1
            have b1 : ((s : Int) == sa) = true := by simpa using e1
            have b2 : ((t : Int) == ta) = true := by simpa using e2
            obtain ⟨gq, cq, q1, q2⟩ := H2.lkAt hs hU
            rw [len_at (unhide HH).2.2.1, (unhide HH).2.2.2.1] at q1
            rw [hUn, hx] at q2
            have b3 : (want != want) = false := by simp
            clear hT hU hUn H1 H2 oW e1 e2 hx
            go_wp2_with fail
            go_roundw
            case rel => exact ⟨t + 1, by go_num, by omega, unhide HO2⟩
            case measure => simp [intOf]; omega
          · rw [if_neg e1] at hx
            by_cases e2 : (s : Int) = sa
            · have b1 : ((s : Int) == sa) = true := by simpa using e2
              have b2 : ((t : Int) == ta) = false := by simpa using (fun c => e1 ⟨e2, c⟩)
              clear e1 e2
              obtain ⟨gp, cp, p1, p2⟩ := H1.lkAt hs hT
              obtain ⟨gq, cq, q1, q2⟩ := H2.lkAt hs hU
              rw [(unhide HH).2.2.2.1] at p1
              rw [len_at (unhide HH).2.2.1, (unhide HH).2.2.2.1] at q1
              rw [hUn] at q2
              rw [hx] at q2
              clear hx
              generalize M.lk s T.nm = x at *
              have b3 : (x != x) = false := by simp
              clear hT hU hUn H1 H2 oW
              go_upto_region 10 with fail
              go_cut [63] from 45 to 63 (fun zv wx => zv = .bool false ∧ Only (fun _ => False) wr wx)
              case first =>
                go_quiet (fail)
                go_wp2_with fail
                go_meet
                exact ⟨rfl, onlyQ _ _⟩
              case rest =>
              obtain ⟨rfl, oC⟩ := hcut
              generalize wc = wD at *
              have HO3 := hide ((unhide HO2).trans oC (fun _ _ e => e))
              clear oC p1 p2 q1 q2 c0
              go_wp2_with fail
              go_roundw
              case rel => exact ⟨t + 1, by go_num, by omega, unhide HO3⟩
              case measure => simp [intOf]; omega
            · have b1 : ((s : Int) == sa) = false := by simpa using e2
              clear e1 e2
              obtain ⟨gp, cp, p1, p2⟩ := H1.lkAt hs hT
              obtain ⟨gq, cq, q1, q2⟩ := H2.lkAt hs hU
              rw [(unhide HH).2.2.2.1] at p1
              rw [len_at (unhide HH).2.2.1, (unhide HH).2.2.2.1] at q1
              rw [hUn] at q2
              rw [hx] at q2
              clear hx
              generalize M.lk s T.nm = x at *
              have b3 : (x != x) = false := by simp
              clear hT hU hUn H1 H2 oW
              go_upto_region 10 with fail
              go_cut [63] from 45 to 63 (fun zv wx => zv = .bool false ∧ Only (fun _ => False) wr wx)
              case first =>
                go_quiet (fail)
                go_wp2_with fail
                go_meet
                exact ⟨rfl, onlyQ _ _⟩
              case rest =>
              obtain ⟨rfl, oC⟩ := hcut
              generalize wc = wD at *
              have HO3 := hide ((unhide HO2).trans oC (fun _ _ e => e))
              clear oC p1 p2 q1 q2 c0
              go_wp2_with fail
              go_roundw
              case rel => exact ⟨t + 1, by go_num, by omega, unhide HO3⟩
              case measure => simp [intOf]; omega
        · have a2 : decide ((t : Int) < (n : Int)) = false := decide_eq_false (by omega)
          clear oW H1 H2
          go_wp2_with fail
          go_roundw
          case rel => exact ⟨s + 1, by go_num, by omega, unhide HO2⟩
          case measure => simp [intOf]; omega
    · have a1 : decide ((s : Int) < 4) = false := decide_eq_false (by omega)
      go_wp2_with fail
      go_ret
      exact ⟨rfl, oW⟩
end
end Go.Proofs.Qxb6500414aGreat
