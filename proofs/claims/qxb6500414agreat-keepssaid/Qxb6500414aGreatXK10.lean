/-
  OWN WORK. TXN, Keeps: Small (written by tools/gen_xk10.py).
-/
import Derived.Test.Qxb6500414aGreatXK9
namespace Go.Proofs.Qxb6500414aGreat
open Go.RowKit Go.PlainAid
set_option linter.unusedSimpArgs false
set_option linter.unusedVariables false
/-- A state within the machine's bounds. -/
structure MuS (M : Mu) : Prop where
  pk : ∀ (s t : Nat) (T : Tb) (r : List Vl), s < 4 → M.com[t]? = some T → r ∈ M.rows s T.nm → T.pk < r.length
  up : ∀ (s t : Nat) (T : Tb), s < 4 → M.com[t]? = some T → ∀ (i : Nat) (a b : List Vl) (x y : Vl), (M.rows s T.nm)[i]? = some a → (M.rows s T.nm)[i + 1]? = some b → a[T.pk]? = some x → b[T.pk]? = some y → vcmp x y < 0
  rg : ∀ s nm, s < 4 → 0 ≤ M.lk s nm ∧ M.lk s nm ≤ 2
  act : ∀ s nm, s < 4 → M.lk s nm ≠ 0 → M.act s = true
  ex : ∀ s o nm, s < 4 → o < 4 → s ≠ o → M.lk s nm = 2 → M.lk o nm = 0
/-- The two counters. -/
def CnS (L : Nat → Int) (s : Nat) (h v : Int) : Prop := (v = 0 ∧ 0 ≤ h ∧ h ≤ s ∧ (∀ j, j < s → L j ≠ 2) ∧ ((∀ j, j < s → L j = 0) → h = 0)) ∨ (v = 1 ∧ h = 1 ∧ ∃ j, j < s ∧ L j = 2)
section
variable {L : Nat → Int} {s : Nat} {h v : Int}
theorem CnS.zero (L : Nat → Int) : CnS L 0 0 0 := .inl ⟨rfl, by omega, by omega, fun j hj => by omega, fun _ => rfl⟩
theorem CnS.bd (c : CnS L s h v) : 0 ≤ h ∧ h ≤ s + 1 ∧ 0 ≤ v ∧ v ≤ 1 := by
  rcases c with ⟨rfl, h1, h2, _⟩ | ⟨rfl, rfl, _⟩ <;> omega
theorem CnS.fin (c : CnS L s h v) : v = 0 ∨ (v = 1 ∧ h = 1) := by
  rcases c with ⟨rfl, _⟩ | ⟨rfl, rfl, _⟩
  · exact .inl rfl
  · exact .inr ⟨rfl, rfl⟩
theorem CnS.step0 (c : CnS L s h v) (hz : L s = 0) : CnS L (s + 1) h v := by
  rcases c with ⟨rfl, h1, h2, h3, h4⟩ | ⟨rfl, rfl, j, hj, h2⟩
  · refine .inl ⟨rfl, h1, by omega, fun j hj => ?_, fun hh => h4 (fun j hj => hh j (by omega))⟩
    by_cases e : j = s
    · rw [e, hz]; decide
    · exact h3 j (by omega)
  · exact .inr ⟨rfl, rfl, j, by omega, h2⟩
theorem CnS.step1 (c : CnS L s h v) (hz : L s = 1) (ho : ∀ j, j < s → L j = 2 → False) : CnS L (s + 1) (h + 1) v := by
  rcases c with ⟨rfl, h1, h2, h3, h4⟩ | ⟨rfl, rfl, j, hj, h2⟩
  · refine .inl ⟨rfl, by omega, by omega, fun j hj => ?_, fun hh => ?_⟩
    · by_cases e : j = s
      · rw [e, hz]; decide
      · exact h3 j (by omega)
    · have := hh s (by omega)
      rw [hz] at this
      cases this
  · exact (ho j hj h2).elim
theorem CnS.step2 (c : CnS L s h v) (hz : L s = 2) (ho : ∀ j, j < s → L j = 0) : CnS L (s + 1) (h + 1) (v + 1) := by
  rcases c with ⟨rfl, h1, h2, h3, h4⟩ | ⟨rfl, rfl, j, hj, h2⟩
  · rw [h4 ho]
    exact .inr ⟨rfl, rfl, s, by omega, hz⟩
  · rw [ho j hj] at h2
    cases h2
end
section
variable {lo : Nat} {w w' : World} {k k2 : Nat} {M N : Mu} {s t : Nat} {T : Tb}
set_option maxRecDepth 100000 in
set_option maxHeartbeats 2000000 in
theorem xlsmall_any (H : Sht lo w k M) (hB : MuB M) (hS : MuS M) : Calls Tryz.prog 21 #[.pointer (some ⟨k, 0, none⟩)] w fun e w' => e = .returned (.bool true) ∧ Only (fun _ => False) w w' := by
  obtain ⟨n, hn⟩ : ∃ n, M.com.length = n := ⟨_, rfl⟩
  have hl := hB.len
  rw [hn] at hl
  obtain ⟨na, nc, c0, _⟩ := H.names
  rw [hn] at c0
  have kl := H.lt
  have n3 : decide ((n : Int) > 3) = false := decide_eq_false (by omega)
  have n3' : decide (3 < (n : Int)) = false := decide_eq_false (by omega)
  have HH := hide (And.intro H (And.intro hB (And.intro hS hn)))
  clear H hB hS hn
  go_enter Tryz.func21, Tryz.ntmps21
  go_upto_region 4 with fail
  clear c0 kl
  go_loopw [3, 4, 5, 6] (fun tv _ _ _ wr => ∃ t : Nat, tv = .int .i64 t ∧ t ≤ n ∧ Only (fun _ => False) w wr) (fun tv _ _ _ _ => n + 1 - (intOf tv).toNat)
  case atStart => exact ⟨0, rfl, by omega, Only.refl _ _⟩
  case round =>
    obtain ⟨t, rfl, htn, oW⟩ := hrel
    have H1 := (unhide HH).1.quiet oW
    have kl := H1.lt
    obtain ⟨na, nc, c0, _⟩ := H1.names
    rw [(unhide HH).2.2.2] at c0
    have HO := hide oW
    by_cases ht : t < n
    · have a2 : decide ((t : Int) < (n : Int)) = true := decide_eq_true (by omega)
      have t3 : (t : Int) < (n : Int) := by omega
      obtain ⟨T, hT⟩ := getE (l := M.com) (i := t) (by rw [(unhide HH).2.2.2]; exact ht)
      have HT := hide hT
      clear oW H1 hT
      go_upto_region 8 with fail
      go_loopw [4, 5, 6] (fun hv vv sv wr => ∃ (s : Nat) (h v : Int), sv = .int .i64 s ∧ hv = .int .i64 h ∧ vv = .int .i64 v ∧ s ≤ 4 ∧ CnS (fun j => M.lk j T.nm) s h v ∧ Only (fun _ => False) w wr) (fun _ _ sv _ => 5 - (intOf sv).toNat)
      case atStart => exact ⟨0, 0, 0, rfl, rfl, rfl, by omega, CnS.zero _, unhide HO⟩
      case round =>
        clear c0 kl
        obtain ⟨s, h, v, rfl, rfl, rfl, hs4, hC, oW⟩ := hrel
        have hb := hC.bd
        by_cases hs : s < 4
        · have a1 : decide ((s : Int) < 4) = true := decide_eq_true (by omega)
          have s4 : (s : Int) < 4 := by omega
          have H1 := (unhide HH).1.quiet oW
          have kl := H1.lt
          obtain ⟨gp, cp, za, zc, p1, p2, pR⟩ := H1.rowsAt hs (unhide HT)
          obtain ⟨gq, cq, q1, q2⟩ := H1.pkAt (unhide HT)
          rw [(unhide HH).2.2.2] at p1 q1
          have oD : Only (fun _ => False) wr wr.drew := (Only.refl _ wr).drew
          have CS := xlrising_any (w := wr.drew) (pR.quiet oD) T.pk ((unhide HH).2.1.rl s hs T.nm).1 (fun r hr => ⟨(unhide HH).2.2.1.pk s t T r hs (unhide HT) hr, by have := ((unhide HH).2.1.rl s hs T.nm).2 r hr; omega⟩) ((unhide HH).2.2.1.up s t T hs (unhide HT))
          generalize (M.rows s T.nm).length = zn at *
          generalize T.pk = pk at *
          have CS := hide CS
          have HC := hide hC
          have HO1 := hide oW
          clear H1 pR oD oW hC
          go_upto_region 10 with fail
          go_cut [43] from 26 to 43 (fun zv wx => zv = .bool false ∧ Only (fun _ => False) wr wx)
          case first =>
            refine wp_region_held_drew (S := (fun w' => w'.cell? ⟨k, 2 + s, none⟩ = some (.slice (some ⟨gp, 0, none⟩) n cp) ∧ w'.cell? ⟨gp, t, none⟩ = some (.slice za zn zc) ∧ w'.cell? ⟨k, 1, none⟩ = some (.slice (some ⟨gq, 0, none⟩) n cq) ∧ w'.cell? ⟨gq, t, none⟩ = some (.int .i64 (pk : Int)))) (by kernel_rfl) ⟨p1, p2, q1, q2⟩ (fun hH0 => ?_)
            refine takeH 0 26 (v := ?vr1) rfl rfl (by kernel_rfl) (by kernel_rfl) (by kernel_rfl) (fun _ _ _ h => h) (Or.inl ⟨by rfl, ?hr1⟩) hH0 ?rr1
            case hr1 => (intro w hSw; clear hSw; go_simp; (try with_reducible rfl))
            case rr1 =>
            try simp only [Act.put, List.setIfInBounds_toArray, List.set_cons_zero, List.set_cons_succ]
            refine takeH 1 27 (v := ?vr2) rfl rfl (by kernel_rfl) (by kernel_rfl) (by kernel_rfl) (fun _ _ _ h => h) (Or.inl ⟨by rfl, ?hr2⟩) hH0 ?rr2
            case hr2 => (intro w hSw; clear hSw; go_simp; (try with_reducible rfl))
            case rr2 =>
            try simp only [Act.put, List.setIfInBounds_toArray, List.set_cons_zero, List.set_cons_succ]
            refine takeH 2 28 (v := ?vr3) rfl rfl (by kernel_rfl) (by kernel_rfl) (by kernel_rfl) (fun _ _ _ h => h) (Or.inl ⟨by rfl, ?hr3⟩) hH0 ?rr3
            case hr3 => (intro w hSw; clear hSw; go_simp; (try with_reducible rfl))
            case rr3 =>
            try simp only [Act.put, List.setIfInBounds_toArray, List.set_cons_zero, List.set_cons_succ]
            refine takeH 3 29 (v := ?vr4) rfl rfl (by kernel_rfl) (by kernel_rfl) (by kernel_rfl) (fun _ _ _ h => h) (Or.inl ⟨by rfl, ?hr4⟩) hH0 ?rr4
            case hr4 => (intro w hSw; clear hSw; go_simp; (try with_reducible rfl))
            case rr4 =>
            try simp only [Act.put, List.setIfInBounds_toArray, List.set_cons_zero, List.set_cons_succ]
            refine takeH 4 30 (v := ?vr5) rfl rfl (by kernel_rfl) (by kernel_rfl) (by kernel_rfl) (fun _ _ _ h => h) (Or.inl ⟨by rfl, ?hr5⟩) hH0 ?rr5
            case hr5 => (intro w hSw; clear hSw; go_simp; (try with_reducible rfl))
            case rr5 =>
            try simp only [Act.put, List.setIfInBounds_toArray, List.set_cons_zero, List.set_cons_succ]
            refine takeH 5 31 (v := ?vr6) rfl rfl (by kernel_rfl) (by kernel_rfl) (by kernel_rfl) (fun _ _ _ h => h) (Or.inl ⟨by rfl, ?hr6⟩) hH0 ?rr6
            case hr6 => (intro w hSw; obtain ⟨s0, s1, s2, s3⟩ := hSw; go_simp; (try with_reducible rfl))
            case rr6 =>
            try simp only [Act.put, List.setIfInBounds_toArray, List.set_cons_zero, List.set_cons_succ]
            refine takeH 6 32 (v := ?vr7) rfl rfl (by kernel_rfl) (by kernel_rfl) (by kernel_rfl) (fun _ _ _ h => h) (Or.inl ⟨by rfl, ?hr7⟩) hH0 ?rr7
            case hr7 => (intro w hSw; clear hSw; go_simp; (try with_reducible rfl))
            case rr7 =>
            try simp only [Act.put, List.setIfInBounds_toArray, List.set_cons_zero, List.set_cons_succ]
            refine takeH 7 33 (v := ?vr8) rfl rfl (by kernel_rfl) (by kernel_rfl) (by kernel_rfl) (fun _ _ _ h => h) (Or.inl ⟨by rfl, ?hr8⟩) hH0 ?rr8
            case hr8 => (intro w hSw; clear hSw; go_simp; (try with_reducible rfl))
            case rr8 =>
            try simp only [Act.put, List.setIfInBounds_toArray, List.set_cons_zero, List.set_cons_succ]
            refine takeH 8 34 (v := ?vr9) rfl rfl (by kernel_rfl) (by kernel_rfl) (by kernel_rfl) (fun _ _ _ h => h) (Or.inl ⟨by rfl, ?hr9⟩) hH0 ?rr9
            case hr9 => (intro w hSw; obtain ⟨s0, s1, s2, s3⟩ := hSw; go_simp; (try with_reducible rfl))
            case rr9 =>
            try simp only [Act.put, List.setIfInBounds_toArray, List.set_cons_zero, List.set_cons_succ]
            refine takeH 9 35 (v := ?vr10) rfl rfl (by kernel_rfl) (by kernel_rfl) (by kernel_rfl) (fun _ _ _ h => h) (Or.inl ⟨by rfl, ?hr10⟩) hH0 ?rr10
            case hr10 => (intro w hSw; clear hSw; go_simp; (try with_reducible rfl))
            case rr10 =>
            try simp only [Act.put, List.setIfInBounds_toArray, List.set_cons_zero, List.set_cons_succ]
            refine takeH 10 36 (v := ?vr11) rfl rfl (by kernel_rfl) (by kernel_rfl) (by kernel_rfl) (fun _ _ _ h => h) (Or.inl ⟨by rfl, ?hr11⟩) hH0 ?rr11
            case hr11 => (intro w hSw; clear hSw; go_simp; (try with_reducible rfl))
            case rr11 =>
            try simp only [Act.put, List.setIfInBounds_toArray, List.set_cons_zero, List.set_cons_succ]
            refine takeH 11 37 (v := ?vr12) rfl rfl (by kernel_rfl) (by kernel_rfl) (by kernel_rfl) (fun _ _ _ h => h) (Or.inl ⟨by rfl, ?hr12⟩) hH0 ?rr12
            case hr12 => (intro w hSw; clear hSw; go_simp; (try with_reducible rfl))
            case rr12 =>
            try simp only [Act.put, List.setIfInBounds_toArray, List.set_cons_zero, List.set_cons_succ]
            refine takeH 12 38 (v := ?vr13) rfl rfl (by kernel_rfl) (by kernel_rfl) (by kernel_rfl) (fun _ _ _ h => h) (Or.inl ⟨by rfl, ?hr13⟩) hH0 ?rr13
            case hr13 => (intro w hSw; obtain ⟨s0, s1, s2, s3⟩ := hSw; go_simp; (try with_reducible rfl))
            case rr13 =>
            try simp only [Act.put, List.setIfInBounds_toArray, List.set_cons_zero, List.set_cons_succ]
            refine takeH 13 39 (v := ?vr14) rfl rfl (by kernel_rfl) (by kernel_rfl) (by kernel_rfl) (fun _ _ _ h => h) (Or.inl ⟨by rfl, ?hr14⟩) hH0 ?rr14
            case hr14 => (intro w hSw; clear hSw; go_simp; (try with_reducible rfl))
            case rr14 =>
            try simp only [Act.put, List.setIfInBounds_toArray, List.set_cons_zero, List.set_cons_succ]
            refine takeH 14 40 (v := ?vr15) rfl rfl (by kernel_rfl) (by kernel_rfl) (by kernel_rfl) (fun _ _ _ h => h) (Or.inl ⟨by rfl, ?hr15⟩) hH0 ?rr15
            case hr15 => (intro w hSw; clear hSw; go_simp; (try with_reducible rfl))
            case rr15 =>
            try simp only [Act.put, List.setIfInBounds_toArray, List.set_cons_zero, List.set_cons_succ]
            refine takeH 15 41 (v := ?vr16) rfl rfl (by kernel_rfl) (by kernel_rfl) (by kernel_rfl) (fun _ _ _ h => h) (Or.inl ⟨by rfl, ?hr16⟩) hH0 ?rr16
            case hr16 => (intro w hSw; obtain ⟨s0, s1, s2, s3⟩ := hSw; go_simp; (try with_reducible rfl))
            case rr16 =>
            try simp only [Act.put, List.setIfInBounds_toArray, List.set_cons_zero, List.set_cons_succ]
            refine callH 16 (by kernel_rfl) rfl 42 rfl rfl 80 Tryz.func80 (by kernel_rfl) (by kernel_rfl) #[.tmp 34, .tmp 41] #[48, 3] rfl #[.slice za zn zc, .int .i64 (pk : Int)] (by simp [Act.eval]) (R := fun v w' => v = .bool true ∧ Only (fun _ => False) wr.drew w') ((unhide CS).mono (by rintro en w' ⟨rfl, o⟩; exact ⟨_, rfl, rfl, o⟩)) ?kr
            case kr =>
            rintro _ w6 ⟨rfl, o6⟩
            have S6 : w6.cell? ⟨k, 2 + s, none⟩ = some (.slice (some ⟨gp, 0, none⟩) n cp) ∧ w6.cell? ⟨gp, t, none⟩ = some (.slice za zn zc) ∧ w6.cell? ⟨k, 1, none⟩ = some (.slice (some ⟨gq, 0, none⟩) n cq) ∧ w6.cell? ⟨gq, t, none⟩ = some (.int .i64 (pk : Int)) := ⟨o6.cellF hH0.1, o6.cellF hH0.2.1, o6.cellF hH0.2.2.1, o6.cellF hH0.2.2.2⟩
            refine ⟨S6, ?_⟩
            try simp only [Act.put, List.setIfInBounds_toArray, List.set_cons_zero, List.set_cons_succ]
            refine takeH 17 43 (v := ?vr17) rfl rfl (by kernel_rfl) (by kernel_rfl) (by kernel_rfl) (fun _ _ _ h => h) (Or.inl ⟨by rfl, ?hr17⟩) S6 ?rr17
            case hr17 => (intro w hSw; clear hSw; go_simp; (try with_reducible rfl))
            case rr17 =>
            try simp only [Act.put, List.setIfInBounds_toArray, List.set_cons_zero, List.set_cons_succ]
            refine wpAnyH_done (by kernel_rfl) ?_ _
            have oD : Only (fun _ => False) wr w6 := (Only.refl _ wr).drew.trans o6 (fun _ _ e => e)
            have HF := hide oD
            clear hH0 S6 o6 oD
            go_wp2_with fail
            go_meet
            exact ⟨rfl, unhide HF⟩
          case rest =>
          obtain ⟨rfl, oC⟩ := hcut
          generalize wc = w5 at *
          have oT := (unhide HO1).trans oC (fun _ _ e => e)
          have H5 := (unhide HH).1.quiet oT
          have kl5 := H5.lt
          obtain ⟨gl, cl, l1, l2⟩ := H5.lkAt hs (unhide HT)
          rw [(unhide HH).2.2.2] at l1
          have b0 := H5.actAt hs
          have HO2 := hide oT
          have hr := (unhide HH).2.2.1.rg s T.nm hs
          have hact := (unhide HH).2.2.1.act s T.nm hs
          have hex : ∀ j, j < 4 → j ≠ s → M.lk s T.nm = 2 → M.lk j T.nm = 0 := fun j hj hne h2 => (unhide HH).2.2.1.ex s j T.nm hs hj (Ne.symm hne) h2
          have hex2 : ∀ j, j < 4 → j ≠ s → M.lk j T.nm = 2 → M.lk s T.nm = 0 := fun j hj hne h2 => (unhide HH).2.2.1.ex j s T.nm hj hs hne h2
          have HX := hide (And.intro hex hex2)
          clear oC oT H5 p1 p2 q1 q2 CS kl hex hex2
          obtain ⟨z, hz⟩ : ∃ z, M.lk s T.nm = z := ⟨_, rfl⟩
          rw [hz] at l2 hr hact
          have Hz := hide hz
          clear hz
          rcases (show z = 0 ∨ z = 1 ∨ z = 2 by omega) with rfl | rfl | rfl
          · have HN := hide ((unhide HC).step0 (unhide Hz))
            clear hact b0
            go_wp2_with fail
            go_roundw
            case rel => exact ⟨s + 1, h, v, by go_num, by go_num, by go_num, by omega, unhide HN, unhide HO2⟩
            case measure => simp [intOf]; omega
          · have HN := hide ((unhide HC).step1 (unhide Hz) (fun j hj h2 => by have := (unhide HX).2 j (by omega) (by omega) h2; rw [unhide Hz] at this; cases this))
            rw [hact (by decide)] at b0
            clear hact
            go_wp2_with fail
            go_roundw
            case rel => exact ⟨s + 1, h + 1, v, by go_num, by go_num, by go_num, by omega, unhide HN, unhide HO2⟩
            case measure => simp [intOf]; omega
          · have HN := hide ((unhide HC).step2 (unhide Hz) (fun j hj => (unhide HX).1 j (by omega) (by omega) (unhide Hz)))
            rw [hact (by decide)] at b0
            clear hact
            go_wp2_with fail
            go_roundw
            case rel => exact ⟨s + 1, h + 1, v + 1, by go_num, by go_num, by go_num, by omega, unhide HN, unhide HO2⟩
            case measure => simp [intOf]; omega
        · have a1 : decide ((s : Int) < 4) = false := decide_eq_false (by omega)
          have HO2 := hide oW
          have hf := hC.fin
          clear oW hC
          rcases hf with rfl | ⟨rfl, rfl⟩
          · go_wp2_with fail
            go_roundw
            case rel => exact ⟨t + 1, by go_num, by omega, unhide HO2⟩
            case measure => simp [intOf]; omega
          · go_wp2_with fail
            go_roundw
            case rel => exact ⟨t + 1, by go_num, by omega, unhide HO2⟩
            case measure => simp [intOf]; omega
    · have a2 : decide ((t : Int) < (n : Int)) = false := decide_eq_false (by omega)
      clear oW H1
      go_wp2_with fail
      go_ret
      exact ⟨rfl, unhide HO⟩
end
end Go.Proofs.Qxb6500414aGreat
