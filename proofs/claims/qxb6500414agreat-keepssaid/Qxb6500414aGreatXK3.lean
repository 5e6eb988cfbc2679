/-
  OWN WORK. TXN, Keeps: Same, Ended (written by tools/gen_xk3.py).
-/
import Derived.Test.Qxb6500414aGreatXK2
namespace Go.Proofs.Qxb6500414aGreat
open Go.RowKit Go.PlainAid
set_option linter.unusedSimpArgs false
set_option linter.unusedVariables false
section
variable {lo : Nat} {w w' : World} {k k2 : Nat} {M N : Mu} {s t : Nat} {T : Tb}
set_option maxRecDepth 100000 in
set_option maxHeartbeats 2000000 in
theorem xlsame_any (H : Sht lo w k M) (H2 : Sht lo w k2 N) (hB : MuB M) (hB2 : MuB N) (hnm : namesD M.com = namesD N.com) (hst : ∀ (s t : Nat) (T : Tb), s < 4 → M.com[t]? = some T → StyP M N s T.nm) (hp : (∀ s, s < 4 → M.act s = N.act s) ∧ ∀ (s t : Nat) (T : Tb), s < 4 → M.com[t]? = some T → M.lk s T.nm = N.lk s T.nm) : Calls Tryz.prog 83 #[.pointer (some ⟨k, 0, none⟩), .pointer (some ⟨k2, 0, none⟩)] w fun e w' => e = .returned (.bool true) ∧ Only (fun _ => False) w w' := by
  obtain ⟨pa, pc, p0, pO⟩ := H.names
  obtain ⟨qa, qc, q0, qO⟩ := H2.names
  rw [len_at hnm] at q0 qO
  have oD : Only (fun _ => False) w w.drew := (Only.refl _ w).drew
  have CN := sameNames_any (w := w.drew) (ownsRow_keep pO oD (fun _ _ e => e)) (ownsRow_keep qO oD (fun _ _ e => e)) (by unfold namesD; rw [List.length_map]; have := hB.len; omega) true (decide_eq_true hnm)
  have kl := H.lt
  have kl2 := H2.lt
  obtain ⟨n, hn⟩ : ∃ n, M.com.length = n := ⟨_, rfl⟩
  have hl := hB.len
  rw [hn] at hl p0 q0 CN
  have CN := hide CN
  have HX := hide (And.intro hB (And.intro hB2 hst))
  have HH := hide (And.intro H (And.intro H2 (And.intro hnm (And.intro hn hp))))
  clear H H2 hB hB2 hst hnm hp hn pO qO oD
  go_enter Tryz.func83, Tryz.ntmps83
  go_upto_region 1 with fail
  refine wp_region_held_drew (S := (fun w' => w'.cell? ⟨k, 0, none⟩ = some (.slice pa n pc) ∧ w'.cell? ⟨k2, 0, none⟩ = some (.slice qa n qc))) (by kernel_rfl) ⟨p0, q0⟩ (fun hH0 => ?_)
  refine takeH 0 7 (v := ?vn1) rfl rfl (by kernel_rfl) (by kernel_rfl) (by kernel_rfl) (fun _ _ _ h => h) (Or.inl ⟨by rfl, ?hn1⟩) hH0 ?rn1
  case hn1 => (intro w hSw; clear hSw; go_simp; (try with_reducible rfl))
  case rn1 =>
  try simp only [Act.put, List.setIfInBounds_toArray, List.set_cons_zero, List.set_cons_succ]
  refine takeH 1 8 (v := ?vn2) rfl rfl (by kernel_rfl) (by kernel_rfl) (by kernel_rfl) (fun _ _ _ h => h) (Or.inl ⟨by rfl, ?hn2⟩) hH0 ?rn2
  case hn2 => (intro w hSw; clear hSw; go_simp; (try with_reducible rfl))
  case rn2 =>
  try simp only [Act.put, List.setIfInBounds_toArray, List.set_cons_zero, List.set_cons_succ]
  refine takeH 2 9 (v := ?vn3) rfl rfl (by kernel_rfl) (by kernel_rfl) (by kernel_rfl) (fun _ _ _ h => h) (Or.inl ⟨by rfl, ?hn3⟩) hH0 ?rn3
  case hn3 => (intro w hSw; clear hSw; go_simp; (try with_reducible rfl))
  case rn3 =>
  try simp only [Act.put, List.setIfInBounds_toArray, List.set_cons_zero, List.set_cons_succ]
  refine takeH 3 10 (v := ?vn4) rfl rfl (by kernel_rfl) (by kernel_rfl) (by kernel_rfl) (fun _ _ _ h => h) (Or.inl ⟨by rfl, ?hn4⟩) hH0 ?rn4
  case hn4 => (intro w hSw; obtain ⟨s0, s1⟩ := hSw; go_simp; (try with_reducible rfl))
  case rn4 =>
  try simp only [Act.put, List.setIfInBounds_toArray, List.set_cons_zero, List.set_cons_succ]
  refine takeH 4 11 (v := ?vn5) rfl rfl (by kernel_rfl) (by kernel_rfl) (by kernel_rfl) (fun _ _ _ h => h) (Or.inl ⟨by rfl, ?hn5⟩) hH0 ?rn5
  case hn5 => (intro w hSw; clear hSw; go_simp; (try with_reducible rfl))
  case rn5 =>
  try simp only [Act.put, List.setIfInBounds_toArray, List.set_cons_zero, List.set_cons_succ]
  refine takeH 5 12 (v := ?vn6) rfl rfl (by kernel_rfl) (by kernel_rfl) (by kernel_rfl) (fun _ _ _ h => h) (Or.inl ⟨by rfl, ?hn6⟩) hH0 ?rn6
  case hn6 => (intro w hSw; clear hSw; go_simp; (try with_reducible rfl))
  case rn6 =>
  try simp only [Act.put, List.setIfInBounds_toArray, List.set_cons_zero, List.set_cons_succ]
  refine takeH 6 13 (v := ?vn7) rfl rfl (by kernel_rfl) (by kernel_rfl) (by kernel_rfl) (fun _ _ _ h => h) (Or.inl ⟨by rfl, ?hn7⟩) hH0 ?rn7
  case hn7 => (intro w hSw; clear hSw; go_simp; (try with_reducible rfl))
  case rn7 =>
  try simp only [Act.put, List.setIfInBounds_toArray, List.set_cons_zero, List.set_cons_succ]
  refine takeH 7 14 (v := ?vn8) rfl rfl (by kernel_rfl) (by kernel_rfl) (by kernel_rfl) (fun _ _ _ h => h) (Or.inl ⟨by rfl, ?hn8⟩) hH0 ?rn8
  case hn8 => (intro w hSw; obtain ⟨s0, s1⟩ := hSw; go_simp; (try with_reducible rfl))
  case rn8 =>
  try simp only [Act.put, List.setIfInBounds_toArray, List.set_cons_zero, List.set_cons_succ]
  refine callH 8 (by kernel_rfl) rfl 15 rfl rfl 86 Tryz.func86 (by kernel_rfl) (by kernel_rfl) #[.tmp 10, .tmp 14] #[52, 52] rfl #[.slice pa n pc, .slice qa n qc] (by simp [Act.eval]) (R := fun v w' => v = .bool true ∧ Only (fun _ => False) w.drew w') ((unhide CN).mono (by rintro en w' ⟨rfl, o⟩; exact ⟨_, rfl, rfl, o⟩)) ?kn
  case kn =>
  rintro _ w6 ⟨rfl, o6⟩
  have S6 : w6.cell? ⟨k, 0, none⟩ = some (.slice pa n pc) ∧ w6.cell? ⟨k2, 0, none⟩ = some (.slice qa n qc) := ⟨o6.cellF hH0.1, o6.cellF hH0.2⟩
  refine ⟨S6, ?_⟩
  try simp only [Act.put, List.setIfInBounds_toArray, List.set_cons_zero, List.set_cons_succ]
  refine takeH 9 16 (v := ?vn9) rfl rfl (by kernel_rfl) (by kernel_rfl) (by kernel_rfl) (fun _ _ _ h => h) (Or.inl ⟨by rfl, ?hn9⟩) S6 ?rn9
  case hn9 => (intro w hSw; clear hSw; go_simp; (try with_reducible rfl))
  case rn9 =>
  try simp only [Act.put, List.setIfInBounds_toArray, List.set_cons_zero, List.set_cons_succ]
  refine wpAnyH_done (by kernel_rfl) ?_ _
  have oD : Only (fun _ => False) w w6 := (Only.refl _ w).drew.trans o6 (fun _ _ e => e)
  have HF := hide oD
  clear hH0 S6 o6 oD
  clear CN p0 q0 kl kl2
  have CA := hide (xlallStay_any ((unhide HH).1.quiet (unhide HF)) ((unhide HH).2.1.quiet (unhide HF)) (unhide HX).1 (unhide HX).2.1 (-1) (-1) (fun s t T hs hT _ => (unhide HX).2.2 s t T hs hT))
  go_wp2_with fail
  refine (unhide CA).mono ?_
  rintro e w7 ⟨rfl, o7⟩
  have HF2 := hide ((unhide HF).trans o7 (fun _ _ e => e))
  clear CA o7 HF
  go_upto_region 6 with fail
  go_loopw [5, 6] (fun sv _ wr => ∃ s : Nat, sv = .int .i64 s ∧ s ≤ 4 ∧ Only (fun _ => False) w wr) (fun sv _ _ => 5 - (intOf sv).toNat)
  case atStart => exact ⟨0, rfl, by omega, unhide HF2⟩
  case round =>
    obtain ⟨s, rfl, hs4, oW⟩ := hrel
    by_cases hs : s < 4
    · have a1 : decide ((s : Int) < 4) = true := decide_eq_true (by omega)
      have s4 : (s : Int) < 4 := by omega
      have HO := hide oW
      clear oW
      have H1 := (unhide HH).1.quiet (unhide HO)
      have H2 := (unhide HH).2.1.quiet (unhide HO)
      have kl := H1.lt
      have kl2 := H2.lt
      have p0 := H1.actAt hs
      have q0 := H2.actAt hs
      rw [← (unhide HH).2.2.2.2.1 s hs] at q0
      generalize M.act s = bb at *
      clear H1 H2
      go_upto_region 8 with fail
      go_cut [37] from 25 to 37 (fun zv wx => zv = .bool false ∧ Only (fun _ => False) wr wx)
      case first =>
        cases bb
        all_goals
          go_quiet (fail)
          go_wp2_with fail
          go_meet
          exact ⟨rfl, onlyQ _ _⟩
      case rest =>
      obtain ⟨rfl, oC⟩ := hcut
      generalize wc = wD at *
      have HO := hide ((unhide HO).trans oC (fun _ _ e => e))
      clear oC p0 q0
      go_upto_region 11 with fail
      go_loopw [6] (fun tv wr => ∃ t : Nat, tv = .int .i64 t ∧ t ≤ n ∧ Only (fun _ => False) w wr) (fun tv _ => n + 1 - (intOf tv).toNat)
      case atStart => exact ⟨0, rfl, by omega, unhide HO⟩
      case round =>
        obtain ⟨t, rfl, htn, oW⟩ := hrel
        have H1 := (unhide HH).1.quiet oW
        have H2 := (unhide HH).2.1.quiet oW
        have kl := H1.lt
        have kl2 := H2.lt
        obtain ⟨na, nc, c0, _⟩ := H1.names
        rw [(unhide HH).2.2.2.1] at c0
        have HO2 := hide oW
        by_cases ht : t < n
        · have a2 : decide ((t : Int) < (n : Int)) = true := decide_eq_true (by omega)
          have t3 : (t : Int) < (n : Int) := by omega
          obtain ⟨T, hT⟩ := getE (l := M.com) (i := t) (by rw [(unhide HH).2.2.2.1]; exact ht)
          obtain ⟨U, hU, hUn⟩ := tab_at (unhide HH).2.2.1 hT
          obtain ⟨gp, cp, p1, p2⟩ := H1.lkAt hs hT
          obtain ⟨gq, cq, q1, q2⟩ := H2.lkAt hs hU
          rw [(unhide HH).2.2.2.1] at p1
          rw [len_at (unhide HH).2.2.1, (unhide HH).2.2.2.1] at q1
          rw [hUn] at q2
          rw [← (unhide HH).2.2.2.2.2 s t T hs hT] at q2
          generalize M.lk s T.nm = x at *
          have b3 : (x != x) = false := by simp
          clear hT hU hUn H1 H2 oW
          go_upto_region 13 with fail
          go_cut [65] from 47 to 65 (fun zv wx => zv = .bool false ∧ Only (fun _ => False) wr wx)
          case first =>
            go_quiet (fail)
            go_wp2_with fail
            go_meet
            exact ⟨rfl, onlyQ _ _⟩
          case rest =>
          obtain ⟨rfl, oC⟩ := hcut
          generalize wc = wD at *
          have HO3 := hide ((unhide HO2).trans oC (fun _ _ e => e))
          clear oC p1 p2 q1 q2 c0
          go_wp2_with fail
          go_roundw
          case rel => exact ⟨t + 1, by go_num, by omega, unhide HO3⟩
          case measure => simp [intOf]; omega
        · have a2 : decide ((t : Int) < (n : Int)) = false := decide_eq_false (by omega)
          clear oW H1 H2
          go_wp2_with fail
          go_roundw
          case rel => exact ⟨s + 1, by go_num, by omega, unhide HO2⟩
          case measure => simp [intOf]; omega
    · have a1 : decide ((s : Int) < 4) = false := decide_eq_false (by omega)
      go_wp2_with fail
      go_ret
      exact ⟨rfl, oW⟩
set_option maxRecDepth 100000 in
set_option maxHeartbeats 2000000 in
theorem xlended_any (H : Sht lo w k M) (H2 : Sht lo w k2 N) (hB : MuB M) (hnm : namesD M.com = namesD N.com) (se : Nat) (hp : (∀ s, s < 4 → N.act s = if s = se then false else M.act s) ∧ ∀ (s t : Nat) (T : Tb), s < 4 → M.com[t]? = some T → N.lk s T.nm = if s = se then 0 else M.lk s T.nm) : Calls Tryz.prog 173 #[.pointer (some ⟨k, 0, none⟩), .pointer (some ⟨k2, 0, none⟩), .int .i64 (se : Int)] w fun e w' => e = .returned (.bool true) ∧ Only (fun _ => False) w w' := by
  obtain ⟨n, hn⟩ : ∃ n, M.com.length = n := ⟨_, rfl⟩
  have hl := hB.len
  rw [hn] at hl
  have HH := hide (And.intro H (And.intro H2 (And.intro hnm (And.intro hn hp))))
  clear H H2 hB hnm hp hn
  go_enter Tryz.func173, Tryz.ntmps173
  go_upto_region 2 with fail
  go_loopw [7, 8, 9] (fun sv _ _ wr => ∃ s : Nat, sv = .int .i64 s ∧ s ≤ 4 ∧ Only (fun _ => False) w wr) (fun sv _ _ _ => 5 - (intOf sv).toNat)
  case atStart => exact ⟨0, rfl, by omega, Only.refl _ _⟩
  case round =>
    obtain ⟨s, rfl, hs4, oW⟩ := hrel
    by_cases hs : s < 4
    · have a1 : decide ((s : Int) < 4) = true := decide_eq_true (by omega)
      have s4 : (s : Int) < 4 := by omega
      have HO := hide oW
      clear oW
      by_cases hse : s = se
      · have b1 : ((s : Int) == (se : Int)) = true := by simp [hse]
        have b2 : ((s : Int) != (se : Int)) = false := by simp [hse]
        have HSE := hide hse
        clear hse
        have H1 := (unhide HH).1.quiet (unhide HO)
        have H2 := (unhide HH).2.1.quiet (unhide HO)
        have kl := H1.lt
        have kl2 := H2.lt
        have p0 := H1.actAt hs
        have q0 := H2.actAt hs
        rw [(unhide HH).2.2.2.2.1 s hs, if_pos (unhide HSE)] at q0
        generalize M.act s = bb at *
        clear H1 H2
        go_upto_region 6 with fail
        go_cut [42] from 25 to 42 (fun zv wx => zv = .bool false ∧ Only (fun _ => False) wr wx)
        case first =>
          cases bb
          all_goals
            go_quiet (fail)
            go_wp2_with fail
            go_meet
            exact ⟨rfl, onlyQ _ _⟩
        case rest =>
        obtain ⟨rfl, oC⟩ := hcut
        generalize wc = wD at *
        have HO := hide ((unhide HO).trans oC (fun _ _ e => e))
        clear oC p0 q0
        go_upto_region 9 with fail
        go_loopw [8, 9] (fun tv _ wr => ∃ t : Nat, tv = .int .i64 t ∧ t ≤ n ∧ Only (fun _ => False) w wr) (fun tv _ _ => n + 1 - (intOf tv).toNat)
        case atStart => exact ⟨0, rfl, by omega, unhide HO⟩
        case round =>
          obtain ⟨t, rfl, htn, oW⟩ := hrel
          have H1 := (unhide HH).1.quiet oW
          have H2 := (unhide HH).2.1.quiet oW
          have kl := H1.lt
          have kl2 := H2.lt
          obtain ⟨na, nc, c0, _⟩ := H2.names
          rw [((len_at (unhide HH).2.2.1).trans (unhide HH).2.2.2.1)] at c0
          have HO2 := hide oW
          by_cases ht : t < n
          · have a2 : decide ((t : Int) < (n : Int)) = true := decide_eq_true (by omega)
            have t3 : (t : Int) < (n : Int) := by omega
            obtain ⟨T, hT⟩ := getE (l := M.com) (i := t) (by rw [(unhide HH).2.2.2.1]; exact ht)
            obtain ⟨U, hU, hUn⟩ := tab_at (unhide HH).2.2.1 hT
            have hx := (unhide HH).2.2.2.2.2 s t T hs hT
            rw [if_pos (unhide HSE)] at hx
            obtain ⟨gp, cp, p1, p2⟩ := H1.lkAt hs hT
            obtain ⟨gq, cq, q1, q2⟩ := H2.lkAt hs hU
            rw [(unhide HH).2.2.2.1] at p1
            rw [len_at (unhide HH).2.2.1, (unhide HH).2.2.2.1] at q1
            rw [hUn, hx] at q2
            generalize M.lk s T.nm = x at *
            have b3 : (x != x) = false := by simp
            clear hT hU hUn H1 H2 oW hx
            go_wp2_with fail
            go_roundw
            case rel => exact ⟨t + 1, by go_num, by omega, unhide HO2⟩
            case measure => simp [intOf]; omega
          · have a2 : decide ((t : Int) < (n : Int)) = false := decide_eq_false (by omega)
            clear oW H1 H2
            go_wp2_with fail
            go_roundw
            case rel => exact ⟨s + 1, by go_num, by omega, unhide HO2⟩
            case measure => simp [intOf]; omega
      · have b1 : ((s : Int) == (se : Int)) = false := by simp; omega
        have b2 : ((s : Int) != (se : Int)) = true := by simp; omega
        have HSE := hide hse
        clear hse
        have H1 := (unhide HH).1.quiet (unhide HO)
        have H2 := (unhide HH).2.1.quiet (unhide HO)
        have kl := H1.lt
        have kl2 := H2.lt
        have p0 := H1.actAt hs
        have q0 := H2.actAt hs
        rw [(unhide HH).2.2.2.2.1 s hs, if_neg (unhide HSE)] at q0
        generalize M.act s = bb at *
        clear H1 H2
        go_upto_region 6 with fail
        go_cut [42] from 25 to 42 (fun zv wx => zv = .bool false ∧ Only (fun _ => False) wr wx)
        case first =>
          cases bb
          all_goals
            go_quiet (fail)
            go_wp2_with fail
            go_meet
            exact ⟨rfl, onlyQ _ _⟩
        case rest =>
        obtain ⟨rfl, oC⟩ := hcut
        generalize wc = wD at *
        have HO := hide ((unhide HO).trans oC (fun _ _ e => e))
        clear oC p0 q0
        go_upto_region 9 with fail
        go_loopw [8, 9] (fun tv _ wr => ∃ t : Nat, tv = .int .i64 t ∧ t ≤ n ∧ Only (fun _ => False) w wr) (fun tv _ _ => n + 1 - (intOf tv).toNat)
        case atStart => exact ⟨0, rfl, by omega, unhide HO⟩
        case round =>
          obtain ⟨t, rfl, htn, oW⟩ := hrel
          have H1 := (unhide HH).1.quiet oW
          have H2 := (unhide HH).2.1.quiet oW
          have kl := H1.lt
          have kl2 := H2.lt
          obtain ⟨na, nc, c0, _⟩ := H2.names
          rw [((len_at (unhide HH).2.2.1).trans (unhide HH).2.2.2.1)] at c0
          have HO2 := hide oW
          by_cases ht : t < n
          · have a2 : decide ((t : Int) < (n : Int)) = true := decide_eq_true (by omega)
            have t3 : (t : Int) < (n : Int) := by omega
            obtain ⟨T, hT⟩ := getE (l := M.com) (i := t) (by rw [(unhide HH).2.2.2.1]; exact ht)
            obtain ⟨U, hU, hUn⟩ := tab_at (unhide HH).2.2.1 hT
            have hx := (unhide HH).2.2.2.2.2 s t T hs hT
            rw [if_neg (unhide HSE)] at hx
            obtain ⟨gp, cp, p1, p2⟩ := H1.lkAt hs hT
            obtain ⟨gq, cq, q1, q2⟩ := H2.lkAt hs hU
            rw [(unhide HH).2.2.2.1] at p1
            rw [len_at (unhide HH).2.2.1, (unhide HH).2.2.2.1] at q1
            rw [hUn, hx] at q2
            generalize M.lk s T.nm = x at *
            have b3 : (x != x) = false := by simp
            clear hT hU hUn H1 H2 oW hx
            go_wp2_with fail
            go_roundw
            case rel => exact ⟨t + 1, by go_num, by omega, unhide HO2⟩
            case measure => simp [intOf]; omega
          · have a2 : decide ((t : Int) < (n : Int)) = false := decide_eq_false (by omega)
            clear oW H1 H2
            go_wp2_with fail
            go_roundw
            case rel => exact ⟨s + 1, by go_num, by omega, unhide HO2⟩
            case measure => simp [intOf]; omega
    · have a1 : decide ((s : Int) < 4) = false := decide_eq_false (by omega)
      go_wp2_with fail
      go_ret
      exact ⟨rfl, oW⟩
end
end Go.Proofs.Qxb6500414aGreat
