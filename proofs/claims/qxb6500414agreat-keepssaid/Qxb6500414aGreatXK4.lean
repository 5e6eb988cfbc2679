/-
  OWN WORK. TXN, Keeps: Closed (written by tools/gen_xk4.py).
-/
import Derived.Test.Qxb6500414aGreatXK3
namespace Go.Proofs.Qxb6500414aGreat
open Go.RowKit Go.PlainAid
set_option linter.unusedSimpArgs false
set_option linter.unusedVariables false
section
variable {lo : Nat} {w w' : World} {k k2 : Nat} {M N : Mu} {s t : Nat} {T : Tb}
set_option maxRecDepth 100000 in
set_option maxHeartbeats 4000000 in
theorem xlclosed_any (H : Sht lo w k M) (H2 : Sht lo w k2 N) (hB : MuB M) (hnm : namesD M.com = namesD N.com) (se oth : Nat) (hse : se < 4) (hoth : oth = if se = 0 then 1 else 0) (keep : Bool) (hp : ∀ (t u : Nat) (T : Tb), u < 4 → M.com[t]? = some T → N.rows u T.nm = if M.lk se T.nm = 2 then (if keep = true then M.rows se T.nm else M.rows oth T.nm) else M.rows u T.nm) (he : (∀ s, s < 4 → N.act s = if s = se then false else M.act s) ∧ ∀ (s t : Nat) (T : Tb), s < 4 → M.com[t]? = some T → N.lk s T.nm = if s = se then 0 else M.lk s T.nm) : Calls Tryz.prog 84 #[.pointer (some ⟨k, 0, none⟩), .pointer (some ⟨k2, 0, none⟩), .int .i64 (se : Int), .bool keep] w fun e w' => e = .returned (.bool true) ∧ Only (fun _ => False) w w' := by
  obtain ⟨pa, pc, p0, pO⟩ := H.names
  obtain ⟨qa, qc, q0, qO⟩ := H2.names
  rw [len_at hnm] at q0 qO
  have oD : Only (fun _ => False) w w.drew := (Only.refl _ w).drew
  have CN := sameNames_any (w := w.drew) (ownsRow_keep pO oD (fun _ _ e => e)) (ownsRow_keep qO oD (fun _ _ e => e)) (by unfold namesD; rw [List.length_map]; have := hB.len; omega) true (decide_eq_true hnm)
  have kl := H.lt
  have kl2 := H2.lt
  obtain ⟨n, hn⟩ : ∃ n, M.com.length = n := ⟨_, rfl⟩
  have hl := hB.len
  rw [hn] at hl p0 q0 CN
  have CN := hide CN
  have HB := hide hB
  have HH := hide (And.intro H (And.intro H2 (And.intro hnm (And.intro hn (And.intro hp he)))))
  have se4 : (se : Int) < 4 := by omega
  have ho4 : oth < 4 := by rw [hoth]; split <;> omega
  have oI : (oth : Int) < 4 := by omega
  have HOT := hide hoth
  clear H H2 hB hnm hp hn pO qO oD he hoth
  go_enter Tryz.func84, Tryz.ntmps84
  go_upto_region 1 with fail
  refine wp_region_held_drew (S := (fun w' => w'.cell? ⟨k, 0, none⟩ = some (.slice pa n pc) ∧ w'.cell? ⟨k2, 0, none⟩ = some (.slice qa n qc))) (by kernel_rfl) ⟨p0, q0⟩ (fun hH0 => ?_)
  refine takeH 0 13 (v := ?vn1) rfl rfl (by kernel_rfl) (by kernel_rfl) (by kernel_rfl) (fun _ _ _ h => h) (Or.inl ⟨by rfl, ?hn1⟩) hH0 ?rn1
  case hn1 => (intro w hSw; clear hSw; go_simp; (try with_reducible rfl))
  case rn1 =>
  try simp only [Act.put, List.setIfInBounds_toArray, List.set_cons_zero, List.set_cons_succ]
  refine takeH 1 14 (v := ?vn2) rfl rfl (by kernel_rfl) (by kernel_rfl) (by kernel_rfl) (fun _ _ _ h => h) (Or.inl ⟨by rfl, ?hn2⟩) hH0 ?rn2
  case hn2 => (intro w hSw; clear hSw; go_simp; (try with_reducible rfl))
  case rn2 =>
  try simp only [Act.put, List.setIfInBounds_toArray, List.set_cons_zero, List.set_cons_succ]
  refine takeH 2 15 (v := ?vn3) rfl rfl (by kernel_rfl) (by kernel_rfl) (by kernel_rfl) (fun _ _ _ h => h) (Or.inl ⟨by rfl, ?hn3⟩) hH0 ?rn3
  case hn3 => (intro w hSw; clear hSw; go_simp; (try with_reducible rfl))
  case rn3 =>
  try simp only [Act.put, List.setIfInBounds_toArray, List.set_cons_zero, List.set_cons_succ]
  refine takeH 3 16 (v := ?vn4) rfl rfl (by kernel_rfl) (by kernel_rfl) (by kernel_rfl) (fun _ _ _ h => h) (Or.inl ⟨by rfl, ?hn4⟩) hH0 ?rn4
  case hn4 => (intro w hSw; obtain ⟨s0, s1⟩ := hSw; go_simp; (try with_reducible rfl))
  case rn4 =>
  try simp only [Act.put, List.setIfInBounds_toArray, List.set_cons_zero, List.set_cons_succ]
  refine takeH 4 17 (v := ?vn5) rfl rfl (by kernel_rfl) (by kernel_rfl) (by kernel_rfl) (fun _ _ _ h => h) (Or.inl ⟨by rfl, ?hn5⟩) hH0 ?rn5
  case hn5 => (intro w hSw; clear hSw; go_simp; (try with_reducible rfl))
  case rn5 =>
  try simp only [Act.put, List.setIfInBounds_toArray, List.set_cons_zero, List.set_cons_succ]
  refine takeH 5 18 (v := ?vn6) rfl rfl (by kernel_rfl) (by kernel_rfl) (by kernel_rfl) (fun _ _ _ h => h) (Or.inl ⟨by rfl, ?hn6⟩) hH0 ?rn6
  case hn6 => (intro w hSw; clear hSw; go_simp; (try with_reducible rfl))
  case rn6 =>
  try simp only [Act.put, List.setIfInBounds_toArray, List.set_cons_zero, List.set_cons_succ]
  refine takeH 6 19 (v := ?vn7) rfl rfl (by kernel_rfl) (by kernel_rfl) (by kernel_rfl) (fun _ _ _ h => h) (Or.inl ⟨by rfl, ?hn7⟩) hH0 ?rn7
  case hn7 => (intro w hSw; clear hSw; go_simp; (try with_reducible rfl))
  case rn7 =>
  try simp only [Act.put, List.setIfInBounds_toArray, List.set_cons_zero, List.set_cons_succ]
  refine takeH 7 20 (v := ?vn8) rfl rfl (by kernel_rfl) (by kernel_rfl) (by kernel_rfl) (fun _ _ _ h => h) (Or.inl ⟨by rfl, ?hn8⟩) hH0 ?rn8
  case hn8 => (intro w hSw; obtain ⟨s0, s1⟩ := hSw; go_simp; (try with_reducible rfl))
  case rn8 =>
  try simp only [Act.put, List.setIfInBounds_toArray, List.set_cons_zero, List.set_cons_succ]
  refine callH 8 (by kernel_rfl) rfl 21 rfl rfl 86 Tryz.func86 (by kernel_rfl) (by kernel_rfl) #[.tmp 16, .tmp 20] #[52, 52] rfl #[.slice pa n pc, .slice qa n qc] (by simp [Act.eval]) (R := fun v w' => v = .bool true ∧ Only (fun _ => False) w.drew w') ((unhide CN).mono (by rintro en w' ⟨rfl, o⟩; exact ⟨_, rfl, rfl, o⟩)) ?kn
  case kn =>
  rintro _ w6 ⟨rfl, o6⟩
  have S6 : w6.cell? ⟨k, 0, none⟩ = some (.slice pa n pc) ∧ w6.cell? ⟨k2, 0, none⟩ = some (.slice qa n qc) := ⟨o6.cellF hH0.1, o6.cellF hH0.2⟩
  refine ⟨S6, ?_⟩
  try simp only [Act.put, List.setIfInBounds_toArray, List.set_cons_zero, List.set_cons_succ]
  refine takeH 9 22 (v := ?vn9) rfl rfl (by kernel_rfl) (by kernel_rfl) (by kernel_rfl) (fun _ _ _ h => h) (Or.inl ⟨by rfl, ?hn9⟩) S6 ?rn9
  case hn9 => (intro w hSw; clear hSw; go_simp; (try with_reducible rfl))
  case rn9 =>
  try simp only [Act.put, List.setIfInBounds_toArray, List.set_cons_zero, List.set_cons_succ]
  refine wpAnyH_done (by kernel_rfl) ?_ _
  have oD : Only (fun _ => False) w w6 := (Only.refl _ w).drew.trans o6 (fun _ _ e => e)
  have HF := hide oD
  clear hH0 S6 o6 oD
  clear CN p0 q0 kl kl2
  by_cases h0 : se = 0
  · have b0 : ((se : Int) == 0) = true := by simp [h0]
    obtain rfl : oth = 1 := by rw [unhide HOT, if_pos h0]
    clear h0 HOT
    have HF2 := HF
    clear HF
    go_upto_region 7 with fail
    go_loopw [10, 11, 12] (fun tv _ _ wr => ∃ t : Nat, tv = .int .i64 t ∧ t ≤ n ∧ Only (fun _ => False) w wr) (fun tv _ _ _ => n + 1 - (intOf tv).toNat)
    case atStart => exact ⟨0, rfl, by omega, unhide HF2⟩
    case round =>
      obtain ⟨t, rfl, htn, oW⟩ := hrel
      have H1 := (unhide HH).1.quiet oW
      have kl := H1.lt
      obtain ⟨na, nc, c0, _⟩ := H1.names
      rw [(unhide HH).2.2.2.1] at c0
      have HO := hide oW
      by_cases ht : t < n
      · have a2 : decide ((t : Int) < (n : Int)) = true := decide_eq_true (by omega)
        have t3 : (t : Int) < (n : Int) := by omega
        clear oW H1
        go_upto_region 10 with fail
        go_loopw [11, 12] (fun sv _ wr => ∃ u : Nat, sv = .int .i64 u ∧ u ≤ 4 ∧ Only (fun _ => False) w wr) (fun sv _ _ => 5 - (intOf sv).toNat)
        case atStart => exact ⟨0, rfl, by omega, unhide HO⟩
        case round =>
          clear c0 kl
          obtain ⟨u, rfl, hu4, oW⟩ := hrel
          have HO2 := hide oW
          by_cases hu : u < 4
          · have a1 : decide ((u : Int) < 4) = true := decide_eq_true (by omega)
            have u4 : (u : Int) < 4 := by omega
            obtain ⟨T, hT⟩ := getE (l := M.com) (i := t) (by rw [(unhide HH).2.2.2.1]; exact ht)
            obtain ⟨U, hU, hUn⟩ := tab_at (unhide HH).2.2.1 hT
            have hx := (unhide HH).2.2.2.2.1 t u T hu hT
            have H1 := (unhide HH).1.quiet oW
            have H2 := (unhide HH).2.1.quiet oW
            have kl := H1.lt
            have kl2 := H2.lt
            obtain ⟨gp, cp, za, zc, p1, p2, pR⟩ := H1.rowsAt hu hT
            obtain ⟨gq, cq, ya, yc, q1, q2, qR⟩ := H2.rowsAt hu hU
            obtain ⟨gl, cl, l1, l2⟩ := H1.lkAt hse hT
            rw [(unhide HH).2.2.2.1] at p1 l1
            rw [len_at (unhide HH).2.2.1, (unhide HH).2.2.2.1] at q1
            rw [hUn] at q2 qR
            by_cases h2 : M.lk se T.nm = 2
            · rw [h2] at l2
              rw [if_pos h2] at hx
              clear h2
              cases keep with
              | true =>
                rw [if_pos rfl] at hx
                obtain ⟨gw, cw, wa, wc', w1', w2', wR⟩ := H1.rowsAt hse hT
                rw [(unhide HH).2.2.2.1] at w1'
                have CS := sameRows_any qR wR (by rw [hx]; have := ((unhide HB).rl se hse T.nm).1; omega) (fun r hr => by rw [hx] at hr; have := ((unhide HB).rl se hse T.nm).2 r hr; omega) true (by rw [hx]; exact decide_eq_true rfl)
                generalize (M.rows se T.nm).length = wn at *
                generalize (N.rows u T.nm).length = yn at *
                generalize (M.rows u T.nm).length = zn at *
                have CS := hide CS
                clear hT hU hUn H1 H2 oW hx pR qR wR
                go_wp2_with fail
                refine (unhide CS).mono ?_
                rintro e w7 ⟨rfl, o7⟩
                have HO3 := hide ((unhide HO2).trans o7 (fun _ _ e => e))
                clear o7 CS p1 p2 q1 q2 l1 l2 w1' w2'
                go_wp2_with fail
                go_roundw
                case rel => exact ⟨u + 1, by go_num, by omega, unhide HO3⟩
                case measure => simp [intOf]; omega
              | false =>
                rw [if_neg (by simp)] at hx
                obtain ⟨gw, cw, wa, wc', w1', w2', wR⟩ := H1.rowsAt ho4 hT
                rw [(unhide HH).2.2.2.1] at w1'
                have w1' : wr.cell? ⟨k, 3, none⟩ = some (.slice (some ⟨gw, 0, none⟩) n cw) := w1'
                have CS := sameRows_any qR wR (by rw [hx]; have := ((unhide HB).rl 1 ho4 T.nm).1; omega) (fun r hr => by rw [hx] at hr; have := ((unhide HB).rl 1 ho4 T.nm).2 r hr; omega) true (by rw [hx]; exact decide_eq_true rfl)
                generalize (M.rows 1 T.nm).length = wn at *
                generalize (N.rows u T.nm).length = yn at *
                generalize (M.rows u T.nm).length = zn at *
                have CS := hide CS
                clear hT hU hUn H1 H2 oW hx pR qR wR
                go_wp2_with fail
                refine (unhide CS).mono ?_
                rintro e w7 ⟨rfl, o7⟩
                have HO3 := hide ((unhide HO2).trans o7 (fun _ _ e => e))
                clear o7 CS p1 p2 q1 q2 l1 l2 w1' w2'
                go_wp2_with fail
                go_roundw
                case rel => exact ⟨u + 1, by go_num, by omega, unhide HO3⟩
                case measure => simp [intOf]; omega
            · rw [if_neg h2] at hx
              have b2 : (M.lk se T.nm == 2) = false := ne_intO h2
              generalize M.lk se T.nm = lk at *
              clear h2
              skip
              have CS := sameRows_any qR pR (by rw [hx]; have := ((unhide HB).rl u hu T.nm).1; omega) (fun r hr => by rw [hx] at hr; have := ((unhide HB).rl u hu T.nm).2 r hr; omega) true (by rw [hx]; exact decide_eq_true rfl)
              generalize (M.rows u T.nm).length = wn at *
              generalize (N.rows u T.nm).length = yn at *
              have CS := hide CS
              clear hT hU hUn H1 H2 oW hx pR qR
              go_wp2_with fail
              refine (unhide CS).mono ?_
              rintro e w7 ⟨rfl, o7⟩
              have HO3 := hide ((unhide HO2).trans o7 (fun _ _ e => e))
              clear o7 CS p1 p2 q1 q2 l1 l2
              go_wp2_with fail
              go_roundw
              case rel => exact ⟨u + 1, by go_num, by omega, unhide HO3⟩
              case measure => simp [intOf]; omega
          · have a1 : decide ((u : Int) < 4) = false := decide_eq_false (by omega)
            clear oW
            go_wp2_with fail
            go_roundw
            case rel => exact ⟨t + 1, by go_num, by omega, unhide HO2⟩
            case measure => simp [intOf]; omega
      · have a2 : decide ((t : Int) < (n : Int)) = false := decide_eq_false (by omega)
        have CE := hide (xlended_any ((unhide HH).1.quiet oW) ((unhide HH).2.1.quiet oW) (unhide HB) (unhide HH).2.2.1 se (unhide HH).2.2.2.2.2)
        clear oW H1
        go_wp2_with fail
        refine (unhide CE).mono ?_
        rintro e w9 ⟨rfl, o9⟩
        have HO3 := hide ((unhide HO).trans o9 (fun _ _ e => e))
        clear o9 CE c0
        go_wp2_with fail
        go_ret
        exact ⟨rfl, unhide HO3⟩
  · have b0 : ((se : Int) == 0) = false := by simp; omega
    obtain rfl : oth = 0 := by rw [unhide HOT, if_neg h0]
    clear h0 HOT
    have HF2 := HF
    clear HF
    go_upto_region 7 with fail
    go_loopw [10, 11, 12] (fun tv _ _ wr => ∃ t : Nat, tv = .int .i64 t ∧ t ≤ n ∧ Only (fun _ => False) w wr) (fun tv _ _ _ => n + 1 - (intOf tv).toNat)
    case atStart => exact ⟨0, rfl, by omega, unhide HF2⟩
    case round =>
      obtain ⟨t, rfl, htn, oW⟩ := hrel
      have H1 := (unhide HH).1.quiet oW
      have kl := H1.lt
      obtain ⟨na, nc, c0, _⟩ := H1.names
      rw [(unhide HH).2.2.2.1] at c0
      have HO := hide oW
      by_cases ht : t < n
      · have a2 : decide ((t : Int) < (n : Int)) = true := decide_eq_true (by omega)
        have t3 : (t : Int) < (n : Int) := by omega
        clear oW H1
        go_upto_region 10 with fail
        go_loopw [11, 12] (fun sv _ wr => ∃ u : Nat, sv = .int .i64 u ∧ u ≤ 4 ∧ Only (fun _ => False) w wr) (fun sv _ _ => 5 - (intOf sv).toNat)
        case atStart => exact ⟨0, rfl, by omega, unhide HO⟩
        case round =>
          clear c0 kl
          obtain ⟨u, rfl, hu4, oW⟩ := hrel
          have HO2 := hide oW
          by_cases hu : u < 4
          · have a1 : decide ((u : Int) < 4) = true := decide_eq_true (by omega)
            have u4 : (u : Int) < 4 := by omega
            obtain ⟨T, hT⟩ := getE (l := M.com) (i := t) (by rw [(unhide HH).2.2.2.1]; exact ht)
            obtain ⟨U, hU, hUn⟩ := tab_at (unhide HH).2.2.1 hT
            have hx := (unhide HH).2.2.2.2.1 t u T hu hT
            have H1 := (unhide HH).1.quiet oW
            have H2 := (unhide HH).2.1.quiet oW
            have kl := H1.lt
            have kl2 := H2.lt
            obtain ⟨gp, cp, za, zc, p1, p2, pR⟩ := H1.rowsAt hu hT
            obtain ⟨gq, cq, ya, yc, q1, q2, qR⟩ := H2.rowsAt hu hU
            obtain ⟨gl, cl, l1, l2⟩ := H1.lkAt hse hT
            rw [(unhide HH).2.2.2.1] at p1 l1
            rw [len_at (unhide HH).2.2.1, (unhide HH).2.2.2.1] at q1
            rw [hUn] at q2 qR
            by_cases h2 : M.lk se T.nm = 2
            · rw [h2] at l2
              rw [if_pos h2] at hx
              clear h2
              cases keep with
              | true =>
                rw [if_pos rfl] at hx
                obtain ⟨gw, cw, wa, wc', w1', w2', wR⟩ := H1.rowsAt hse hT
                rw [(unhide HH).2.2.2.1] at w1'
                have CS := sameRows_any qR wR (by rw [hx]; have := ((unhide HB).rl se hse T.nm).1; omega) (fun r hr => by rw [hx] at hr; have := ((unhide HB).rl se hse T.nm).2 r hr; omega) true (by rw [hx]; exact decide_eq_true rfl)
                generalize (M.rows se T.nm).length = wn at *
                generalize (N.rows u T.nm).length = yn at *
                generalize (M.rows u T.nm).length = zn at *
                have CS := hide CS
                clear hT hU hUn H1 H2 oW hx pR qR wR
                go_wp2_with fail
                refine (unhide CS).mono ?_
                rintro e w7 ⟨rfl, o7⟩
                have HO3 := hide ((unhide HO2).trans o7 (fun _ _ e => e))
                clear o7 CS p1 p2 q1 q2 l1 l2 w1' w2'
                go_wp2_with fail
                go_roundw
                case rel => exact ⟨u + 1, by go_num, by omega, unhide HO3⟩
                case measure => simp [intOf]; omega
              | false =>
                rw [if_neg (by simp)] at hx
                obtain ⟨gw, cw, wa, wc', w1', w2', wR⟩ := H1.rowsAt ho4 hT
                rw [(unhide HH).2.2.2.1] at w1'
                have w1' : wr.cell? ⟨k, 2, none⟩ = some (.slice (some ⟨gw, 0, none⟩) n cw) := w1'
                have CS := sameRows_any qR wR (by rw [hx]; have := ((unhide HB).rl 0 ho4 T.nm).1; omega) (fun r hr => by rw [hx] at hr; have := ((unhide HB).rl 0 ho4 T.nm).2 r hr; omega) true (by rw [hx]; exact decide_eq_true rfl)
                generalize (M.rows 0 T.nm).length = wn at *
                generalize (N.rows u T.nm).length = yn at *
                generalize (M.rows u T.nm).length = zn at *
                have CS := hide CS
                clear hT hU hUn H1 H2 oW hx pR qR wR
                go_wp2_with fail
                refine (unhide CS).mono ?_
                rintro e w7 ⟨rfl, o7⟩
                have HO3 := hide ((unhide HO2).trans o7 (fun _ _ e => e))
                clear o7 CS p1 p2 q1 q2 l1 l2 w1' w2'
                go_wp2_with fail
                go_roundw
                case rel => exact ⟨u + 1, by go_num, by omega, unhide HO3⟩
                case measure => simp [intOf]; omega
            · rw [if_neg h2] at hx
              have b2 : (M.lk se T.nm == 2) = false := ne_intO h2
              generalize M.lk se T.nm = lk at *
              clear h2
              skip
              have CS := sameRows_any qR pR (by rw [hx]; have := ((unhide HB).rl u hu T.nm).1; omega) (fun r hr => by rw [hx] at hr; have := ((unhide HB).rl u hu T.nm).2 r hr; omega) true (by rw [hx]; exact decide_eq_true rfl)
              generalize (M.rows u T.nm).length = wn at *
              generalize (N.rows u T.nm).length = yn at *
              have CS := hide CS
              clear hT hU hUn H1 H2 oW hx pR qR
              go_wp2_with fail
              refine (unhide CS).mono ?_
              rintro e w7 ⟨rfl, o7⟩
              have HO3 := hide ((unhide HO2).trans o7 (fun _ _ e => e))
              clear o7 CS p1 p2 q1 q2 l1 l2
              go_wp2_with fail
              go_roundw
              case rel => exact ⟨u + 1, by go_num, by omega, unhide HO3⟩
              case measure => simp [intOf]; omega
          · have a1 : decide ((u : Int) < 4) = false := decide_eq_false (by omega)
            clear oW
            go_wp2_with fail
            go_roundw
            case rel => exact ⟨t + 1, by go_num, by omega, unhide HO2⟩
            case measure => simp [intOf]; omega
      · have a2 : decide ((t : Int) < (n : Int)) = false := decide_eq_false (by omega)
        have CE := hide (xlended_any ((unhide HH).1.quiet oW) ((unhide HH).2.1.quiet oW) (unhide HB) (unhide HH).2.2.1 se (unhide HH).2.2.2.2.2)
        clear oW H1
        go_wp2_with fail
        refine (unhide CE).mono ?_
        rintro e w9 ⟨rfl, o9⟩
        have HO3 := hide ((unhide HO).trans o9 (fun _ _ e => e))
        clear o9 CE c0
        go_wp2_with fail
        go_ret
        exact ⟨rfl, unhide HO3⟩
end
end Go.Proofs.Qxb6500414aGreat
