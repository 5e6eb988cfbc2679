/-
  OWN WORK. QUERY's LAW: PlanIs (written by tools/gen_ql6.py).
-/
import Derived.Test.Qxb6500412aGreatQL5
import Derived.Deep.RegionHeld3
namespace Go.Proofs.Qxb6500412aGreat
open Go.RowKit Go.PlainAid
set_option linter.unusedSimpArgs false
set_option linter.unusedVariables false

/-- In a region that draws: the one operation that may come next is not wanted. -/
theorem skipH {ops : Array Oper} {o : Oper} {a : Act} {w : World} {Q : Exit → Act → World → Prop} {md : Region.Mode} {S : World → Prop} {fuel : Nat} {listed : Array Bool} (i : Nat) (hr : Region.ready md ops listed = [i]) (hi : ops[i]? = some o) (d : Nat) (hd : o.dst = some d) (hw : Region.wanted o (yielded ops a.tmps) = false) (hS : S w)
    (hK : wpAnyH Tryz.prog md ops Q S fuel (listed.setIfInBounds i true) (a.put (some d) undef) w) : wpAnyH Tryz.prog md ops Q S (fuel + 1) listed a w := by
  rw [← hd] at hK
  refine wpAnyH_ready hr (by simp) (AllReadyH.cons hi (fun K' hK' => ?_) AllReadyH.nil)
  rw [if_neg (by rw [hw]; decide)]
  exact hK'.out _ _ hS (fun _ => hK)
section
variable {w w' : World} {ca wa : Option Addr} {cn cc wn wc : Nat} {cols : List Cl} {tn : ByteArray} {pk ix : Int} {l : List Cm}
set_option maxRecDepth 100000 in
set_option maxHeartbeats 16000000 in
theorem slplanIs_any (h : OwnC w (.slice ca cn cc) cols) (hl : cols.length ≤ 100) (hw : OwnSc w (.slice wa wn wc) l) (hwl : l.length ≤ 200) : Calls Tryz.prog 126 #[schU tn (.slice ca cn cc) pk ix, .slice wa wn wc] w fun e w' => e = .returned (.int .i64 (plI cols pk ix l)) ∧ Only (fun _ => False) w w' := by
  unfold schU
  obtain ⟨b7, d7, hsh⟩ := hw.shape
  have hn : wn = l.length := by cases hsh; rfl
  clear hsh
  rw [← hn] at hwl
  have o1 : Only (fun _ => False) w (w.alloc (.cells #[.string tn, .slice ca cn cc, .int .i64 pk, .int .i64 ix] 79)) := (Only.refl _ w).alloc _
  have N1 := Has.new w #[.string tn, .slice ca cn cc, .int .i64 pk, .int .i64 ix] 79
  have HH := hide (And.intro N1 (And.intro (h.keep o1 (fun _ _ e => e)) (And.intro (hw.quiet o1) o1)))
  have HN := hide hn
  have HL := hide hl
  clear h hw o1 N1 hn hl
  go_enter Tryz.func126, Tryz.ntmps126
  go_upto_region 2 with fail
  generalize w.alloc (.cells #[.string tn, .slice ca cn cc, .int .i64 pk, .int .i64 ix] 79) = w1 at *
  generalize w.heap.size = G at *
  go_loopw [5] (fun iv wr => ∃ i : Nat, iv = .int .i64 i ∧ i ≤ wn ∧ (∀ (j : Nat) (c : Cm), j < i → l[j]? = some c → (uoB cols c pk && decide (c.op = 2)) = false) ∧ Only (fun _ => False) w1 wr) (fun iv _ => wn - (intOf iv).toNat)
  case atStart => exact ⟨0, rfl, Nat.zero_le _, fun j c hj => (by omega), Only.refl _ _⟩
  case round =>
    obtain ⟨i, rfl, hi, hal, oW⟩ := hrel
    have HAL := hide hal
    clear hal
    by_cases hs : i < wn
    · have b1 : decide ((i : Int) < (wn : Int)) = true := decide_eq_true (by omega)
      have b1p : (i : Int) < (wn : Int) := by omega
      obtain ⟨c, hc⟩ := getE (l := l) (i := i) (by rw [← unhide HN]; exact hs)
      obtain ⟨ga, rfl, d0, d1, d2, d3, d4⟩ := ((unhide HH).2.2.1.quiet oW).at_ hc
      have NW := (unhide HH).1.keep oW (fun e => e)
      have s0 : wr.cell? ⟨G, 0, none⟩ = some (.string tn) := NW.cell 0
      have s1 : wr.cell? ⟨G, 1, none⟩ = some (.slice ca cn cc) := NW.cell 1
      have s2 : wr.cell? ⟨G, 2, none⟩ = some (.int .i64 pk) := NW.cell 2
      have s3 : wr.cell? ⟨G, 3, none⟩ = some (.int .i64 ix) := NW.cell 3
      have oD : Only (fun _ => False) wr wr.drew := (Only.refl _ wr).drew
      have C1 := slusableOn_any (tn := tn) (pk := pk) (ix := ix) ((unhide HH).2.1.keep (oW.trans oD (fun _ _ e => e)) (fun _ _ e => e)) (unhide HL) c pk
      unfold schU scU at C1
      obtain ⟨u, hu⟩ : ∃ b, uoB cols c pk = b := ⟨_, rfl⟩
      rw [hu] at C1
      have C1 := hide C1
      have HU := hide hu
      have HC := hide hc
      have HOW := hide oW
      clear hu hc NW oD oW
      have S0 : wr.cell? ⟨G, 0, none⟩ = some (.string tn) ∧ wr.cell? ⟨G, 1, none⟩ = some (.slice ca cn cc) ∧ wr.cell? ⟨G, 2, none⟩ = some (.int .i64 pk) ∧ wr.cell? ⟨G, 3, none⟩ = some (.int .i64 ix) ∧ wr.cell? ⟨ga, i * 5, none⟩ = some (.string c.col) ∧ wr.cell? ⟨ga, i * 5 + 1, none⟩ = some (.string (opT c.op)) ∧ wr.cell? ⟨ga, i * 5 + 2, none⟩ = some (.bool c.lit.str) ∧ wr.cell? ⟨ga, i * 5 + 3, none⟩ = some (.int .i64 c.lit.i) ∧ wr.cell? ⟨ga, i * 5 + 4, none⟩ = some (.string c.lit.s) := ⟨s0, s1, s2, s3, d0, d1, d2, d3, d4⟩
      have HSB := hide (show ∀ W, Only (fun _ => False) wr W → (W.cell? ⟨G, 0, none⟩ = some (.string tn) ∧ W.cell? ⟨G, 1, none⟩ = some (.slice ca cn cc) ∧ W.cell? ⟨G, 2, none⟩ = some (.int .i64 pk) ∧ W.cell? ⟨G, 3, none⟩ = some (.int .i64 ix) ∧ W.cell? ⟨ga, i * 5, none⟩ = some (.string c.col) ∧ W.cell? ⟨ga, i * 5 + 1, none⟩ = some (.string (opT c.op)) ∧ W.cell? ⟨ga, i * 5 + 2, none⟩ = some (.bool c.lit.str) ∧ W.cell? ⟨ga, i * 5 + 3, none⟩ = some (.int .i64 c.lit.i) ∧ W.cell? ⟨ga, i * 5 + 4, none⟩ = some (.string c.lit.s)) from fun W o => ⟨o.cellS s0, o.cellS s1, o.cellS s2, o.cellS s3, o.cellS d0, o.cellS d1, o.cellS d2, o.cellS d3, o.cellS d4⟩)
      clear s0 s1 s2 s3 d0 d1 d2 d3 d4
      go_upto_region 4 with fail
      by_cases e2 : opT c.op = ⟨#[61]⟩
      · have d2 : ((opT c.op).toList == [61]) = true := lit_t (by decide +kernel) e2
        have HE2 := hide e2
        clear e2
        cases u with
        | false =>
          refine wp_region_held_drew (S := (fun w' => w'.cell? ⟨G, 0, none⟩ = some (.string tn) ∧ w'.cell? ⟨G, 1, none⟩ = some (.slice ca cn cc) ∧ w'.cell? ⟨G, 2, none⟩ = some (.int .i64 pk) ∧ w'.cell? ⟨G, 3, none⟩ = some (.int .i64 ix) ∧ w'.cell? ⟨ga, i * 5, none⟩ = some (.string c.col) ∧ w'.cell? ⟨ga, i * 5 + 1, none⟩ = some (.string (opT c.op)) ∧ w'.cell? ⟨ga, i * 5 + 2, none⟩ = some (.bool c.lit.str) ∧ w'.cell? ⟨ga, i * 5 + 3, none⟩ = some (.int .i64 c.lit.i) ∧ w'.cell? ⟨ga, i * 5 + 4, none⟩ = some (.string c.lit.s))) (by kernel_rfl) S0 (fun hH0 => ?_)
          refine takeH 0 14 (v := ?vp5yfalse1) rfl rfl (by kernel_rfl) (by kernel_rfl) (by kernel_rfl) (fun _ _ _ h => h) (Or.inl ⟨by rfl, ?hp5yfalse1⟩) hH0 ?rp5yfalse1
          case hp5yfalse1 => (intro w hSw; obtain ⟨s0, s1, s2, s3, s4, s5, s6, s7, s8⟩ := hSw; go_simp; (try with_reducible rfl))
          case rp5yfalse1 =>
          try simp only [Act.put, List.setIfInBounds_toArray, List.set_cons_zero, List.set_cons_succ]
          refine takeH 1 15 (v := ?vp5yfalse2) rfl rfl (by kernel_rfl) (by kernel_rfl) (by kernel_rfl) (fun _ _ _ h => h) (Or.inl ⟨by rfl, ?hp5yfalse2⟩) hH0 ?rp5yfalse2
          case hp5yfalse2 => (intro w hSw; clear hSw; go_simp; (try with_reducible rfl))
          case rp5yfalse2 =>
          try simp only [Act.put, List.setIfInBounds_toArray, List.set_cons_zero, List.set_cons_succ]
          refine takeH 2 16 (v := ?vp5yfalse3) rfl rfl (by kernel_rfl) (by kernel_rfl) (by kernel_rfl) (fun _ _ _ h => h) (Or.inl ⟨by rfl, ?hp5yfalse3⟩) hH0 ?rp5yfalse3
          case hp5yfalse3 => (intro w hSw; clear hSw; go_simp; (try with_reducible rfl))
          case rp5yfalse3 =>
          try simp only [Act.put, List.setIfInBounds_toArray, List.set_cons_zero, List.set_cons_succ]
          refine takeH 3 17 (v := ?vp5yfalse4) rfl rfl (by kernel_rfl) (by kernel_rfl) (by kernel_rfl) (fun _ _ _ h => h) (Or.inl ⟨by rfl, ?hp5yfalse4⟩) hH0 ?rp5yfalse4
          case hp5yfalse4 => (intro w hSw; clear hSw; go_simp; (try with_reducible rfl))
          case rp5yfalse4 =>
          try simp only [Act.put, List.setIfInBounds_toArray, List.set_cons_zero, List.set_cons_succ]
          refine takeH 4 18 (v := ?vp5yfalse5) rfl rfl (by kernel_rfl) (by kernel_rfl) (by kernel_rfl) (fun _ _ _ h => h) (Or.inl ⟨by rfl, ?hp5yfalse5⟩) hH0 ?rp5yfalse5
          case hp5yfalse5 => (intro w hSw; obtain ⟨s0, s1, s2, s3, s4, s5, s6, s7, s8⟩ := hSw; go_simp; (try with_reducible rfl))
          case rp5yfalse5 =>
          try simp only [Act.put, List.setIfInBounds_toArray, List.set_cons_zero, List.set_cons_succ]
          refine takeH 5 19 (v := ?vp5yfalse6) rfl rfl (by kernel_rfl) (by kernel_rfl) (by kernel_rfl) (fun _ _ _ h => h) (Or.inl ⟨by rfl, ?hp5yfalse6⟩) hH0 ?rp5yfalse6
          case hp5yfalse6 => (intro w hSw; clear hSw; go_simp; (try with_reducible rfl))
          case rp5yfalse6 =>
          try simp only [Act.put, List.setIfInBounds_toArray, List.set_cons_zero, List.set_cons_succ]
          refine takeH 6 20 (v := ?vp5yfalse7) rfl rfl (by kernel_rfl) (by kernel_rfl) (by kernel_rfl) (fun _ _ _ h => h) (Or.inl ⟨by rfl, ?hp5yfalse7⟩) hH0 ?rp5yfalse7
          case hp5yfalse7 => (intro w hSw; obtain ⟨s0, s1, s2, s3, s4, s5, s6, s7, s8⟩ := hSw; go_simp; (try with_reducible rfl))
          case rp5yfalse7 =>
          try simp only [Act.put, List.setIfInBounds_toArray, List.set_cons_zero, List.set_cons_succ]
          refine callH 7 (by kernel_rfl) rfl 21 rfl rfl 182 Tryz.func182 (by kernel_rfl) (by kernel_rfl) #[.tmp 14, .tmp 18, .tmp 20] #[79, 259, 3] rfl #[.agg #[.string tn, .slice ca cn cc, .int .i64 pk, .int .i64 ix], .agg #[.string c.col, .string (opT c.op), .bool c.lit.str, .int .i64 c.lit.i, .string c.lit.s], .int .i64 pk] (by simp [Act.eval]) (R := fun v w' => v = .bool false ∧ Only (fun _ => False) wr.drew w') ((unhide C1).mono (by rintro en w' ⟨rfl, o⟩; exact ⟨_, rfl, rfl, o⟩)) ?kcc5yfalse
          case kcc5yfalse =>
          rintro _ w6 ⟨rfl, o6⟩
          have oE : Only (fun _ => False) wr w6 := (Only.refl _ wr).drew.trans o6 (fun _ _ e => e)
          have S6 := unhide HSB w6 oE
          refine ⟨S6, ?_⟩
          try simp only [Act.put, List.setIfInBounds_toArray, List.set_cons_zero, List.set_cons_succ]
          refine takeH 8 22 (v := ?vp5yfalse8) rfl rfl (by kernel_rfl) (by kernel_rfl) (by kernel_rfl) (fun _ _ _ h => h) (Or.inl ⟨by rfl, ?hp5yfalse8⟩) S6 ?rp5yfalse8
          case hp5yfalse8 => (intro w hSw; clear hSw; go_simp; (try with_reducible rfl))
          case rp5yfalse8 =>
          try simp only [Act.put, List.setIfInBounds_toArray, List.set_cons_zero, List.set_cons_succ]
          refine takeH 9 23 (v := undef) rfl rfl (by kernel_rfl) (by kernel_rfl) (by kernel_rfl) (fun _ _ _ h => h) (Or.inr ⟨by rfl, rfl⟩) S6 ?rp5yfalse9
          case rp5yfalse9 =>
          try simp only [Act.put, List.setIfInBounds_toArray, List.set_cons_zero, List.set_cons_succ]
          refine takeH 10 24 (v := undef) rfl rfl (by kernel_rfl) (by kernel_rfl) (by kernel_rfl) (fun _ _ _ h => h) (Or.inr ⟨by rfl, rfl⟩) S6 ?rp5yfalse10
          case rp5yfalse10 =>
          try simp only [Act.put, List.setIfInBounds_toArray, List.set_cons_zero, List.set_cons_succ]
          refine takeH 11 25 (v := undef) rfl rfl (by kernel_rfl) (by kernel_rfl) (by kernel_rfl) (fun _ _ _ h => h) (Or.inr ⟨by rfl, rfl⟩) S6 ?rp5yfalse11
          case rp5yfalse11 =>
          try simp only [Act.put, List.setIfInBounds_toArray, List.set_cons_zero, List.set_cons_succ]
          refine takeH 12 26 (v := undef) rfl rfl (by kernel_rfl) (by kernel_rfl) (by kernel_rfl) (fun _ _ _ h => h) (Or.inr ⟨by rfl, rfl⟩) S6 ?rp5yfalse12
          case rp5yfalse12 =>
          try simp only [Act.put, List.setIfInBounds_toArray, List.set_cons_zero, List.set_cons_succ]
          refine takeH 13 27 (v := undef) rfl rfl (by kernel_rfl) (by kernel_rfl) (by kernel_rfl) (fun _ _ _ h => h) (Or.inr ⟨by rfl, rfl⟩) S6 ?rp5yfalse13
          case rp5yfalse13 =>
          try simp only [Act.put, List.setIfInBounds_toArray, List.set_cons_zero, List.set_cons_succ]
          refine takeH 14 28 (v := undef) rfl rfl (by kernel_rfl) (by kernel_rfl) (by kernel_rfl) (fun _ _ _ h => h) (Or.inr ⟨by rfl, rfl⟩) S6 ?rp5yfalse14
          case rp5yfalse14 =>
          try simp only [Act.put, List.setIfInBounds_toArray, List.set_cons_zero, List.set_cons_succ]
          refine takeH 15 29 (v := ?vp5yfalse15) rfl rfl (by kernel_rfl) (by kernel_rfl) (by kernel_rfl) (fun _ _ _ h => h) (Or.inl ⟨by rfl, ?hp5yfalse15⟩) S6 ?rp5yfalse15
          case hp5yfalse15 => (intro w hSw; clear hSw; go_simp; (try with_reducible rfl))
          case rp5yfalse15 =>
          try simp only [Act.put, List.setIfInBounds_toArray, List.set_cons_zero, List.set_cons_succ]
          refine wpAnyH_done (by kernel_rfl) ?_ _
          have HO6 := hide ((unhide HOW).trans oE (fun _ _ e => e))
          clear S6 S0 HSB o6 oE C1
          have HA2 := hide (show ∀ (j : Nat) (c' : Cm), j < i + 1 → l[j]? = some c' → (uoB cols c' pk && decide (c'.op = 2)) = false from fun j c' hj hc' => by
            by_cases e : j = i
            · subst e
              rw [unhide HC] at hc'
              cases hc'
              show (uoB cols c pk && decide (c.op = 2)) = false; rw [unhide HU]; rfl
            · exact unhide HAL j c' (by omega) hc')
          go_wp2_with fail
          go_roundw
          case rel => exact ⟨i + 1, by go_num, by omega, unhide HA2, unhide HO6⟩
          case measure => simp [intOf]; omega
        | true =>
          refine wp_region_held_drew (S := (fun w' => w'.cell? ⟨G, 0, none⟩ = some (.string tn) ∧ w'.cell? ⟨G, 1, none⟩ = some (.slice ca cn cc) ∧ w'.cell? ⟨G, 2, none⟩ = some (.int .i64 pk) ∧ w'.cell? ⟨G, 3, none⟩ = some (.int .i64 ix) ∧ w'.cell? ⟨ga, i * 5, none⟩ = some (.string c.col) ∧ w'.cell? ⟨ga, i * 5 + 1, none⟩ = some (.string (opT c.op)) ∧ w'.cell? ⟨ga, i * 5 + 2, none⟩ = some (.bool c.lit.str) ∧ w'.cell? ⟨ga, i * 5 + 3, none⟩ = some (.int .i64 c.lit.i) ∧ w'.cell? ⟨ga, i * 5 + 4, none⟩ = some (.string c.lit.s))) (by kernel_rfl) S0 (fun hH0 => ?_)
          refine takeH 0 14 (v := ?vp5ytrue1) rfl rfl (by kernel_rfl) (by kernel_rfl) (by kernel_rfl) (fun _ _ _ h => h) (Or.inl ⟨by rfl, ?hp5ytrue1⟩) hH0 ?rp5ytrue1
          case hp5ytrue1 => (intro w hSw; obtain ⟨s0, s1, s2, s3, s4, s5, s6, s7, s8⟩ := hSw; go_simp; (try with_reducible rfl))
          case rp5ytrue1 =>
          try simp only [Act.put, List.setIfInBounds_toArray, List.set_cons_zero, List.set_cons_succ]
          refine takeH 1 15 (v := ?vp5ytrue2) rfl rfl (by kernel_rfl) (by kernel_rfl) (by kernel_rfl) (fun _ _ _ h => h) (Or.inl ⟨by rfl, ?hp5ytrue2⟩) hH0 ?rp5ytrue2
          case hp5ytrue2 => (intro w hSw; clear hSw; go_simp; (try with_reducible rfl))
          case rp5ytrue2 =>
          try simp only [Act.put, List.setIfInBounds_toArray, List.set_cons_zero, List.set_cons_succ]
          refine takeH 2 16 (v := ?vp5ytrue3) rfl rfl (by kernel_rfl) (by kernel_rfl) (by kernel_rfl) (fun _ _ _ h => h) (Or.inl ⟨by rfl, ?hp5ytrue3⟩) hH0 ?rp5ytrue3
          case hp5ytrue3 => (intro w hSw; clear hSw; go_simp; (try with_reducible rfl))
          case rp5ytrue3 =>
          try simp only [Act.put, List.setIfInBounds_toArray, List.set_cons_zero, List.set_cons_succ]
          refine takeH 3 17 (v := ?vp5ytrue4) rfl rfl (by kernel_rfl) (by kernel_rfl) (by kernel_rfl) (fun _ _ _ h => h) (Or.inl ⟨by rfl, ?hp5ytrue4⟩) hH0 ?rp5ytrue4
          case hp5ytrue4 => (intro w hSw; clear hSw; go_simp; (try with_reducible rfl))
          case rp5ytrue4 =>
          try simp only [Act.put, List.setIfInBounds_toArray, List.set_cons_zero, List.set_cons_succ]
          refine takeH 4 18 (v := ?vp5ytrue5) rfl rfl (by kernel_rfl) (by kernel_rfl) (by kernel_rfl) (fun _ _ _ h => h) (Or.inl ⟨by rfl, ?hp5ytrue5⟩) hH0 ?rp5ytrue5
          case hp5ytrue5 => (intro w hSw; obtain ⟨s0, s1, s2, s3, s4, s5, s6, s7, s8⟩ := hSw; go_simp; (try with_reducible rfl))
          case rp5ytrue5 =>
          try simp only [Act.put, List.setIfInBounds_toArray, List.set_cons_zero, List.set_cons_succ]
          refine takeH 5 19 (v := ?vp5ytrue6) rfl rfl (by kernel_rfl) (by kernel_rfl) (by kernel_rfl) (fun _ _ _ h => h) (Or.inl ⟨by rfl, ?hp5ytrue6⟩) hH0 ?rp5ytrue6
          case hp5ytrue6 => (intro w hSw; clear hSw; go_simp; (try with_reducible rfl))
          case rp5ytrue6 =>
          try simp only [Act.put, List.setIfInBounds_toArray, List.set_cons_zero, List.set_cons_succ]
          refine takeH 6 20 (v := ?vp5ytrue7) rfl rfl (by kernel_rfl) (by kernel_rfl) (by kernel_rfl) (fun _ _ _ h => h) (Or.inl ⟨by rfl, ?hp5ytrue7⟩) hH0 ?rp5ytrue7
          case hp5ytrue7 => (intro w hSw; obtain ⟨s0, s1, s2, s3, s4, s5, s6, s7, s8⟩ := hSw; go_simp; (try with_reducible rfl))
          case rp5ytrue7 =>
          try simp only [Act.put, List.setIfInBounds_toArray, List.set_cons_zero, List.set_cons_succ]
          refine callH 7 (by kernel_rfl) rfl 21 rfl rfl 182 Tryz.func182 (by kernel_rfl) (by kernel_rfl) #[.tmp 14, .tmp 18, .tmp 20] #[79, 259, 3] rfl #[.agg #[.string tn, .slice ca cn cc, .int .i64 pk, .int .i64 ix], .agg #[.string c.col, .string (opT c.op), .bool c.lit.str, .int .i64 c.lit.i, .string c.lit.s], .int .i64 pk] (by simp [Act.eval]) (R := fun v w' => v = .bool true ∧ Only (fun _ => False) wr.drew w') ((unhide C1).mono (by rintro en w' ⟨rfl, o⟩; exact ⟨_, rfl, rfl, o⟩)) ?kcc5ytrue
          case kcc5ytrue =>
          rintro _ w6 ⟨rfl, o6⟩
          have oE : Only (fun _ => False) wr w6 := (Only.refl _ wr).drew.trans o6 (fun _ _ e => e)
          have S6 := unhide HSB w6 oE
          refine ⟨S6, ?_⟩
          try simp only [Act.put, List.setIfInBounds_toArray, List.set_cons_zero, List.set_cons_succ]
          refine takeH 8 22 (v := ?vp5ytrue8) rfl rfl (by kernel_rfl) (by kernel_rfl) (by kernel_rfl) (fun _ _ _ h => h) (Or.inl ⟨by rfl, ?hp5ytrue8⟩) S6 ?rp5ytrue8
          case hp5ytrue8 => (intro w hSw; clear hSw; go_simp; (try with_reducible rfl))
          case rp5ytrue8 =>
          try simp only [Act.put, List.setIfInBounds_toArray, List.set_cons_zero, List.set_cons_succ]
          refine takeH 9 23 (v := ?vp5ytrue9) rfl rfl (by kernel_rfl) (by kernel_rfl) (by kernel_rfl) (fun _ _ _ h => h) (Or.inl ⟨by rfl, ?hp5ytrue9⟩) S6 ?rp5ytrue9
          case hp5ytrue9 => (intro w hSw; clear hSw; go_simp; (try with_reducible rfl))
          case rp5ytrue9 =>
          try simp only [Act.put, List.setIfInBounds_toArray, List.set_cons_zero, List.set_cons_succ]
          refine takeH 10 24 (v := ?vp5ytrue10) rfl rfl (by kernel_rfl) (by kernel_rfl) (by kernel_rfl) (fun _ _ _ h => h) (Or.inl ⟨by rfl, ?hp5ytrue10⟩) S6 ?rp5ytrue10
          case hp5ytrue10 => (intro w hSw; clear hSw; go_simp; (try with_reducible rfl))
          case rp5ytrue10 =>
          try simp only [Act.put, List.setIfInBounds_toArray, List.set_cons_zero, List.set_cons_succ]
          refine takeH 11 25 (v := ?vp5ytrue11) rfl rfl (by kernel_rfl) (by kernel_rfl) (by kernel_rfl) (fun _ _ _ h => h) (Or.inl ⟨by rfl, ?hp5ytrue11⟩) S6 ?rp5ytrue11
          case hp5ytrue11 => (intro w hSw; clear hSw; go_simp; (try with_reducible rfl))
          case rp5ytrue11 =>
          try simp only [Act.put, List.setIfInBounds_toArray, List.set_cons_zero, List.set_cons_succ]
          refine takeH 12 26 (v := ?vp5ytrue12) rfl rfl (by kernel_rfl) (by kernel_rfl) (by kernel_rfl) (fun _ _ _ h => h) (Or.inl ⟨by rfl, ?hp5ytrue12⟩) S6 ?rp5ytrue12
          case hp5ytrue12 => (intro w hSw; clear hSw; go_simp; (try with_reducible rfl))
          case rp5ytrue12 =>
          try simp only [Act.put, List.setIfInBounds_toArray, List.set_cons_zero, List.set_cons_succ]
          refine takeH 13 27 (v := ?vp5ytrue13) rfl rfl (by kernel_rfl) (by kernel_rfl) (by kernel_rfl) (fun _ _ _ h => h) (Or.inl ⟨by rfl, ?hp5ytrue13⟩) S6 ?rp5ytrue13
          case hp5ytrue13 => (intro w hSw; obtain ⟨s0, s1, s2, s3, s4, s5, s6, s7, s8⟩ := hSw; go_simp; (try with_reducible rfl))
          case rp5ytrue13 =>
          try simp only [Act.put, List.setIfInBounds_toArray, List.set_cons_zero, List.set_cons_succ]
          refine takeH 14 28 (v := ?vp5ytrue14) rfl rfl (by kernel_rfl) (by kernel_rfl) (by kernel_rfl) (fun _ _ _ h => h) (Or.inl ⟨by rfl, ?hp5ytrue14⟩) S6 ?rp5ytrue14
          case hp5ytrue14 => (intro w hSw; clear hSw; go_simp; (try with_reducible rfl))
          case rp5ytrue14 =>
          try simp only [Act.put, List.setIfInBounds_toArray, List.set_cons_zero, List.set_cons_succ]
          refine takeH 15 29 (v := ?vp5ytrue15) rfl rfl (by kernel_rfl) (by kernel_rfl) (by kernel_rfl) (fun _ _ _ h => h) (Or.inl ⟨by rfl, ?hp5ytrue15⟩) S6 ?rp5ytrue15
          case hp5ytrue15 => (intro w hSw; clear hSw; go_simp; (try with_reducible rfl))
          case rp5ytrue15 =>
          try simp only [Act.put, List.setIfInBounds_toArray, List.set_cons_zero, List.set_cons_succ]
          refine wpAnyH_done (by kernel_rfl) ?_ _
          have HO6 := hide ((unhide HOW).trans oE (fun _ _ e => e))
          clear S6 S0 HSB o6 oE C1
          have FF := hide (show plI cols pk ix l = 1 from by
            unfold plI
            rw [if_pos (List.any_eq_true.mpr ⟨c, List.mem_of_getElem? (unhide HC), by rw [unhide HU]; exact decide_eq_true (opT_eq.mp (unhide HE2))⟩)]
            )
          go_wp2_with fail
          go_ret
          exact ⟨by rw [unhide FF]; rfl, (unhide HH).2.2.2.trans (unhide HO6) (fun _ _ e => e)⟩
      · have d2 : ((opT c.op).toList == [61]) = false := lit_f (by decide +kernel) e2
        have HE2 := hide e2
        clear e2
        cases u with
        | false =>
          refine wp_region_held_drew (S := (fun w' => w'.cell? ⟨G, 0, none⟩ = some (.string tn) ∧ w'.cell? ⟨G, 1, none⟩ = some (.slice ca cn cc) ∧ w'.cell? ⟨G, 2, none⟩ = some (.int .i64 pk) ∧ w'.cell? ⟨G, 3, none⟩ = some (.int .i64 ix) ∧ w'.cell? ⟨ga, i * 5, none⟩ = some (.string c.col) ∧ w'.cell? ⟨ga, i * 5 + 1, none⟩ = some (.string (opT c.op)) ∧ w'.cell? ⟨ga, i * 5 + 2, none⟩ = some (.bool c.lit.str) ∧ w'.cell? ⟨ga, i * 5 + 3, none⟩ = some (.int .i64 c.lit.i) ∧ w'.cell? ⟨ga, i * 5 + 4, none⟩ = some (.string c.lit.s))) (by kernel_rfl) S0 (fun hH0 => ?_)
          refine takeH 0 14 (v := ?vp5nfalse1) rfl rfl (by kernel_rfl) (by kernel_rfl) (by kernel_rfl) (fun _ _ _ h => h) (Or.inl ⟨by rfl, ?hp5nfalse1⟩) hH0 ?rp5nfalse1
          case hp5nfalse1 => (intro w hSw; obtain ⟨s0, s1, s2, s3, s4, s5, s6, s7, s8⟩ := hSw; go_simp; (try with_reducible rfl))
          case rp5nfalse1 =>
          try simp only [Act.put, List.setIfInBounds_toArray, List.set_cons_zero, List.set_cons_succ]
          refine takeH 1 15 (v := ?vp5nfalse2) rfl rfl (by kernel_rfl) (by kernel_rfl) (by kernel_rfl) (fun _ _ _ h => h) (Or.inl ⟨by rfl, ?hp5nfalse2⟩) hH0 ?rp5nfalse2
          case hp5nfalse2 => (intro w hSw; clear hSw; go_simp; (try with_reducible rfl))
          case rp5nfalse2 =>
          try simp only [Act.put, List.setIfInBounds_toArray, List.set_cons_zero, List.set_cons_succ]
          refine takeH 2 16 (v := ?vp5nfalse3) rfl rfl (by kernel_rfl) (by kernel_rfl) (by kernel_rfl) (fun _ _ _ h => h) (Or.inl ⟨by rfl, ?hp5nfalse3⟩) hH0 ?rp5nfalse3
          case hp5nfalse3 => (intro w hSw; clear hSw; go_simp; (try with_reducible rfl))
          case rp5nfalse3 =>
          try simp only [Act.put, List.setIfInBounds_toArray, List.set_cons_zero, List.set_cons_succ]
          refine takeH 3 17 (v := ?vp5nfalse4) rfl rfl (by kernel_rfl) (by kernel_rfl) (by kernel_rfl) (fun _ _ _ h => h) (Or.inl ⟨by rfl, ?hp5nfalse4⟩) hH0 ?rp5nfalse4
          case hp5nfalse4 => (intro w hSw; clear hSw; go_simp; (try with_reducible rfl))
          case rp5nfalse4 =>
          try simp only [Act.put, List.setIfInBounds_toArray, List.set_cons_zero, List.set_cons_succ]
          refine takeH 4 18 (v := ?vp5nfalse5) rfl rfl (by kernel_rfl) (by kernel_rfl) (by kernel_rfl) (fun _ _ _ h => h) (Or.inl ⟨by rfl, ?hp5nfalse5⟩) hH0 ?rp5nfalse5
          case hp5nfalse5 => (intro w hSw; obtain ⟨s0, s1, s2, s3, s4, s5, s6, s7, s8⟩ := hSw; go_simp; (try with_reducible rfl))
          case rp5nfalse5 =>
          try simp only [Act.put, List.setIfInBounds_toArray, List.set_cons_zero, List.set_cons_succ]
          refine takeH 5 19 (v := ?vp5nfalse6) rfl rfl (by kernel_rfl) (by kernel_rfl) (by kernel_rfl) (fun _ _ _ h => h) (Or.inl ⟨by rfl, ?hp5nfalse6⟩) hH0 ?rp5nfalse6
          case hp5nfalse6 => (intro w hSw; clear hSw; go_simp; (try with_reducible rfl))
          case rp5nfalse6 =>
          try simp only [Act.put, List.setIfInBounds_toArray, List.set_cons_zero, List.set_cons_succ]
          refine takeH 6 20 (v := ?vp5nfalse7) rfl rfl (by kernel_rfl) (by kernel_rfl) (by kernel_rfl) (fun _ _ _ h => h) (Or.inl ⟨by rfl, ?hp5nfalse7⟩) hH0 ?rp5nfalse7
          case hp5nfalse7 => (intro w hSw; obtain ⟨s0, s1, s2, s3, s4, s5, s6, s7, s8⟩ := hSw; go_simp; (try with_reducible rfl))
          case rp5nfalse7 =>
          try simp only [Act.put, List.setIfInBounds_toArray, List.set_cons_zero, List.set_cons_succ]
          refine callH 7 (by kernel_rfl) rfl 21 rfl rfl 182 Tryz.func182 (by kernel_rfl) (by kernel_rfl) #[.tmp 14, .tmp 18, .tmp 20] #[79, 259, 3] rfl #[.agg #[.string tn, .slice ca cn cc, .int .i64 pk, .int .i64 ix], .agg #[.string c.col, .string (opT c.op), .bool c.lit.str, .int .i64 c.lit.i, .string c.lit.s], .int .i64 pk] (by simp [Act.eval]) (R := fun v w' => v = .bool false ∧ Only (fun _ => False) wr.drew w') ((unhide C1).mono (by rintro en w' ⟨rfl, o⟩; exact ⟨_, rfl, rfl, o⟩)) ?kcc5nfalse
          case kcc5nfalse =>
          rintro _ w6 ⟨rfl, o6⟩
          have oE : Only (fun _ => False) wr w6 := (Only.refl _ wr).drew.trans o6 (fun _ _ e => e)
          have S6 := unhide HSB w6 oE
          refine ⟨S6, ?_⟩
          try simp only [Act.put, List.setIfInBounds_toArray, List.set_cons_zero, List.set_cons_succ]
          refine takeH 8 22 (v := ?vp5nfalse8) rfl rfl (by kernel_rfl) (by kernel_rfl) (by kernel_rfl) (fun _ _ _ h => h) (Or.inl ⟨by rfl, ?hp5nfalse8⟩) S6 ?rp5nfalse8
          case hp5nfalse8 => (intro w hSw; clear hSw; go_simp; (try with_reducible rfl))
          case rp5nfalse8 =>
          try simp only [Act.put, List.setIfInBounds_toArray, List.set_cons_zero, List.set_cons_succ]
          refine takeH 9 23 (v := undef) rfl rfl (by kernel_rfl) (by kernel_rfl) (by kernel_rfl) (fun _ _ _ h => h) (Or.inr ⟨by rfl, rfl⟩) S6 ?rp5nfalse9
          case rp5nfalse9 =>
          try simp only [Act.put, List.setIfInBounds_toArray, List.set_cons_zero, List.set_cons_succ]
          refine takeH 10 24 (v := undef) rfl rfl (by kernel_rfl) (by kernel_rfl) (by kernel_rfl) (fun _ _ _ h => h) (Or.inr ⟨by rfl, rfl⟩) S6 ?rp5nfalse10
          case rp5nfalse10 =>
          try simp only [Act.put, List.setIfInBounds_toArray, List.set_cons_zero, List.set_cons_succ]
          refine takeH 11 25 (v := undef) rfl rfl (by kernel_rfl) (by kernel_rfl) (by kernel_rfl) (fun _ _ _ h => h) (Or.inr ⟨by rfl, rfl⟩) S6 ?rp5nfalse11
          case rp5nfalse11 =>
          try simp only [Act.put, List.setIfInBounds_toArray, List.set_cons_zero, List.set_cons_succ]
          refine takeH 12 26 (v := undef) rfl rfl (by kernel_rfl) (by kernel_rfl) (by kernel_rfl) (fun _ _ _ h => h) (Or.inr ⟨by rfl, rfl⟩) S6 ?rp5nfalse12
          case rp5nfalse12 =>
          try simp only [Act.put, List.setIfInBounds_toArray, List.set_cons_zero, List.set_cons_succ]
          refine takeH 13 27 (v := undef) rfl rfl (by kernel_rfl) (by kernel_rfl) (by kernel_rfl) (fun _ _ _ h => h) (Or.inr ⟨by rfl, rfl⟩) S6 ?rp5nfalse13
          case rp5nfalse13 =>
          try simp only [Act.put, List.setIfInBounds_toArray, List.set_cons_zero, List.set_cons_succ]
          refine takeH 14 28 (v := undef) rfl rfl (by kernel_rfl) (by kernel_rfl) (by kernel_rfl) (fun _ _ _ h => h) (Or.inr ⟨by rfl, rfl⟩) S6 ?rp5nfalse14
          case rp5nfalse14 =>
          try simp only [Act.put, List.setIfInBounds_toArray, List.set_cons_zero, List.set_cons_succ]
          refine takeH 15 29 (v := ?vp5nfalse15) rfl rfl (by kernel_rfl) (by kernel_rfl) (by kernel_rfl) (fun _ _ _ h => h) (Or.inl ⟨by rfl, ?hp5nfalse15⟩) S6 ?rp5nfalse15
          case hp5nfalse15 => (intro w hSw; clear hSw; go_simp; (try with_reducible rfl))
          case rp5nfalse15 =>
          try simp only [Act.put, List.setIfInBounds_toArray, List.set_cons_zero, List.set_cons_succ]
          refine wpAnyH_done (by kernel_rfl) ?_ _
          have HO6 := hide ((unhide HOW).trans oE (fun _ _ e => e))
          clear S6 S0 HSB o6 oE C1
          have HA2 := hide (show ∀ (j : Nat) (c' : Cm), j < i + 1 → l[j]? = some c' → (uoB cols c' pk && decide (c'.op = 2)) = false from fun j c' hj hc' => by
            by_cases e : j = i
            · subst e
              rw [unhide HC] at hc'
              cases hc'
              show (uoB cols c pk && decide (c.op = 2)) = false; rw [unhide HU]; rfl
            · exact unhide HAL j c' (by omega) hc')
          go_wp2_with fail
          go_roundw
          case rel => exact ⟨i + 1, by go_num, by omega, unhide HA2, unhide HO6⟩
          case measure => simp [intOf]; omega
        | true =>
          refine wp_region_held_drew (S := (fun w' => w'.cell? ⟨G, 0, none⟩ = some (.string tn) ∧ w'.cell? ⟨G, 1, none⟩ = some (.slice ca cn cc) ∧ w'.cell? ⟨G, 2, none⟩ = some (.int .i64 pk) ∧ w'.cell? ⟨G, 3, none⟩ = some (.int .i64 ix) ∧ w'.cell? ⟨ga, i * 5, none⟩ = some (.string c.col) ∧ w'.cell? ⟨ga, i * 5 + 1, none⟩ = some (.string (opT c.op)) ∧ w'.cell? ⟨ga, i * 5 + 2, none⟩ = some (.bool c.lit.str) ∧ w'.cell? ⟨ga, i * 5 + 3, none⟩ = some (.int .i64 c.lit.i) ∧ w'.cell? ⟨ga, i * 5 + 4, none⟩ = some (.string c.lit.s))) (by kernel_rfl) S0 (fun hH0 => ?_)
          refine takeH 0 14 (v := ?vp5ntrue1) rfl rfl (by kernel_rfl) (by kernel_rfl) (by kernel_rfl) (fun _ _ _ h => h) (Or.inl ⟨by rfl, ?hp5ntrue1⟩) hH0 ?rp5ntrue1
          case hp5ntrue1 => (intro w hSw; obtain ⟨s0, s1, s2, s3, s4, s5, s6, s7, s8⟩ := hSw; go_simp; (try with_reducible rfl))
          case rp5ntrue1 =>
          try simp only [Act.put, List.setIfInBounds_toArray, List.set_cons_zero, List.set_cons_succ]
          refine takeH 1 15 (v := ?vp5ntrue2) rfl rfl (by kernel_rfl) (by kernel_rfl) (by kernel_rfl) (fun _ _ _ h => h) (Or.inl ⟨by rfl, ?hp5ntrue2⟩) hH0 ?rp5ntrue2
          case hp5ntrue2 => (intro w hSw; clear hSw; go_simp; (try with_reducible rfl))
          case rp5ntrue2 =>
          try simp only [Act.put, List.setIfInBounds_toArray, List.set_cons_zero, List.set_cons_succ]
          refine takeH 2 16 (v := ?vp5ntrue3) rfl rfl (by kernel_rfl) (by kernel_rfl) (by kernel_rfl) (fun _ _ _ h => h) (Or.inl ⟨by rfl, ?hp5ntrue3⟩) hH0 ?rp5ntrue3
          case hp5ntrue3 => (intro w hSw; clear hSw; go_simp; (try with_reducible rfl))
          case rp5ntrue3 =>
          try simp only [Act.put, List.setIfInBounds_toArray, List.set_cons_zero, List.set_cons_succ]
          refine takeH 3 17 (v := ?vp5ntrue4) rfl rfl (by kernel_rfl) (by kernel_rfl) (by kernel_rfl) (fun _ _ _ h => h) (Or.inl ⟨by rfl, ?hp5ntrue4⟩) hH0 ?rp5ntrue4
          case hp5ntrue4 => (intro w hSw; clear hSw; go_simp; (try with_reducible rfl))
          case rp5ntrue4 =>
          try simp only [Act.put, List.setIfInBounds_toArray, List.set_cons_zero, List.set_cons_succ]
          refine takeH 4 18 (v := ?vp5ntrue5) rfl rfl (by kernel_rfl) (by kernel_rfl) (by kernel_rfl) (fun _ _ _ h => h) (Or.inl ⟨by rfl, ?hp5ntrue5⟩) hH0 ?rp5ntrue5
          case hp5ntrue5 => (intro w hSw; obtain ⟨s0, s1, s2, s3, s4, s5, s6, s7, s8⟩ := hSw; go_simp; (try with_reducible rfl))
          case rp5ntrue5 =>
          try simp only [Act.put, List.setIfInBounds_toArray, List.set_cons_zero, List.set_cons_succ]
          refine takeH 5 19 (v := ?vp5ntrue6) rfl rfl (by kernel_rfl) (by kernel_rfl) (by kernel_rfl) (fun _ _ _ h => h) (Or.inl ⟨by rfl, ?hp5ntrue6⟩) hH0 ?rp5ntrue6
          case hp5ntrue6 => (intro w hSw; clear hSw; go_simp; (try with_reducible rfl))
          case rp5ntrue6 =>
          try simp only [Act.put, List.setIfInBounds_toArray, List.set_cons_zero, List.set_cons_succ]
          refine takeH 6 20 (v := ?vp5ntrue7) rfl rfl (by kernel_rfl) (by kernel_rfl) (by kernel_rfl) (fun _ _ _ h => h) (Or.inl ⟨by rfl, ?hp5ntrue7⟩) hH0 ?rp5ntrue7
          case hp5ntrue7 => (intro w hSw; obtain ⟨s0, s1, s2, s3, s4, s5, s6, s7, s8⟩ := hSw; go_simp; (try with_reducible rfl))
          case rp5ntrue7 =>
          try simp only [Act.put, List.setIfInBounds_toArray, List.set_cons_zero, List.set_cons_succ]
          refine callH 7 (by kernel_rfl) rfl 21 rfl rfl 182 Tryz.func182 (by kernel_rfl) (by kernel_rfl) #[.tmp 14, .tmp 18, .tmp 20] #[79, 259, 3] rfl #[.agg #[.string tn, .slice ca cn cc, .int .i64 pk, .int .i64 ix], .agg #[.string c.col, .string (opT c.op), .bool c.lit.str, .int .i64 c.lit.i, .string c.lit.s], .int .i64 pk] (by simp [Act.eval]) (R := fun v w' => v = .bool true ∧ Only (fun _ => False) wr.drew w') ((unhide C1).mono (by rintro en w' ⟨rfl, o⟩; exact ⟨_, rfl, rfl, o⟩)) ?kcc5ntrue
          case kcc5ntrue =>
          rintro _ w6 ⟨rfl, o6⟩
          have oE : Only (fun _ => False) wr w6 := (Only.refl _ wr).drew.trans o6 (fun _ _ e => e)
          have S6 := unhide HSB w6 oE
          refine ⟨S6, ?_⟩
          try simp only [Act.put, List.setIfInBounds_toArray, List.set_cons_zero, List.set_cons_succ]
          refine takeH 8 22 (v := ?vp5ntrue8) rfl rfl (by kernel_rfl) (by kernel_rfl) (by kernel_rfl) (fun _ _ _ h => h) (Or.inl ⟨by rfl, ?hp5ntrue8⟩) S6 ?rp5ntrue8
          case hp5ntrue8 => (intro w hSw; clear hSw; go_simp; (try with_reducible rfl))
          case rp5ntrue8 =>
          try simp only [Act.put, List.setIfInBounds_toArray, List.set_cons_zero, List.set_cons_succ]
          refine takeH 9 23 (v := ?vp5ntrue9) rfl rfl (by kernel_rfl) (by kernel_rfl) (by kernel_rfl) (fun _ _ _ h => h) (Or.inl ⟨by rfl, ?hp5ntrue9⟩) S6 ?rp5ntrue9
          case hp5ntrue9 => (intro w hSw; clear hSw; go_simp; (try with_reducible rfl))
          case rp5ntrue9 =>
          try simp only [Act.put, List.setIfInBounds_toArray, List.set_cons_zero, List.set_cons_succ]
          refine takeH 10 24 (v := ?vp5ntrue10) rfl rfl (by kernel_rfl) (by kernel_rfl) (by kernel_rfl) (fun _ _ _ h => h) (Or.inl ⟨by rfl, ?hp5ntrue10⟩) S6 ?rp5ntrue10
          case hp5ntrue10 => (intro w hSw; clear hSw; go_simp; (try with_reducible rfl))
          case rp5ntrue10 =>
          try simp only [Act.put, List.setIfInBounds_toArray, List.set_cons_zero, List.set_cons_succ]
          refine takeH 11 25 (v := ?vp5ntrue11) rfl rfl (by kernel_rfl) (by kernel_rfl) (by kernel_rfl) (fun _ _ _ h => h) (Or.inl ⟨by rfl, ?hp5ntrue11⟩) S6 ?rp5ntrue11
          case hp5ntrue11 => (intro w hSw; clear hSw; go_simp; (try with_reducible rfl))
          case rp5ntrue11 =>
          try simp only [Act.put, List.setIfInBounds_toArray, List.set_cons_zero, List.set_cons_succ]
          refine takeH 12 26 (v := ?vp5ntrue12) rfl rfl (by kernel_rfl) (by kernel_rfl) (by kernel_rfl) (fun _ _ _ h => h) (Or.inl ⟨by rfl, ?hp5ntrue12⟩) S6 ?rp5ntrue12
          case hp5ntrue12 => (intro w hSw; clear hSw; go_simp; (try with_reducible rfl))
          case rp5ntrue12 =>
          try simp only [Act.put, List.setIfInBounds_toArray, List.set_cons_zero, List.set_cons_succ]
          refine takeH 13 27 (v := ?vp5ntrue13) rfl rfl (by kernel_rfl) (by kernel_rfl) (by kernel_rfl) (fun _ _ _ h => h) (Or.inl ⟨by rfl, ?hp5ntrue13⟩) S6 ?rp5ntrue13
          case hp5ntrue13 => (intro w hSw; obtain ⟨s0, s1, s2, s3, s4, s5, s6, s7, s8⟩ := hSw; go_simp; (try with_reducible rfl))
          case rp5ntrue13 =>
          try simp only [Act.put, List.setIfInBounds_toArray, List.set_cons_zero, List.set_cons_succ]
          refine takeH 14 28 (v := ?vp5ntrue14) rfl rfl (by kernel_rfl) (by kernel_rfl) (by kernel_rfl) (fun _ _ _ h => h) (Or.inl ⟨by rfl, ?hp5ntrue14⟩) S6 ?rp5ntrue14
          case hp5ntrue14 => (intro w hSw; clear hSw; go_simp; (try with_reducible rfl))
          case rp5ntrue14 =>
          try simp only [Act.put, List.setIfInBounds_toArray, List.set_cons_zero, List.set_cons_succ]
          refine takeH 15 29 (v := ?vp5ntrue15) rfl rfl (by kernel_rfl) (by kernel_rfl) (by kernel_rfl) (fun _ _ _ h => h) (Or.inl ⟨by rfl, ?hp5ntrue15⟩) S6 ?rp5ntrue15
          case hp5ntrue15 => (intro w hSw; clear hSw; go_simp; (try with_reducible rfl))
          case rp5ntrue15 =>
          try simp only [Act.put, List.setIfInBounds_toArray, List.set_cons_zero, List.set_cons_succ]
          refine wpAnyH_done (by kernel_rfl) ?_ _
          have HO6 := hide ((unhide HOW).trans oE (fun _ _ e => e))
          clear S6 S0 HSB o6 oE C1
          have HA2 := hide (show ∀ (j : Nat) (c' : Cm), j < i + 1 → l[j]? = some c' → (uoB cols c' pk && decide (c'.op = 2)) = false from fun j c' hj hc' => by
            by_cases e : j = i
            · subst e
              rw [unhide HC] at hc'
              cases hc'
              show (uoB cols c pk && decide (c.op = 2)) = false; rw [unhide HU]; exact decide_eq_false (fun e => unhide HE2 (opT_eq.mpr e))
            · exact unhide HAL j c' (by omega) hc')
          go_wp2_with fail
          go_roundw
          case rel => exact ⟨i + 1, by go_num, by omega, unhide HA2, unhide HO6⟩
          case measure => simp [intOf]; omega
    · have b1 : decide ((i : Int) < (wn : Int)) = false := decide_eq_false (by omega)
      have b1p : ¬ (i : Int) < (wn : Int) := by omega
      have hie : wn = i := by omega
      subst hie
      have HP1 := hide (show ¬ l.any (fun c => (uoB cols c pk && decide (c.op = 2))) = true from fun e => by
        obtain ⟨c, hc, hb⟩ := List.any_eq_true.mp e
        obtain ⟨j, hj⟩ := List.getElem?_of_mem hc
        have := unhide HAL j c (by have := (List.getElem?_eq_some_iff.1 hj).1; have := unhide HN; omega) hj
        rw [hb] at this
        cases this)
      have HO1 := hide oW
      clear HAL oW
      go_upto_region 7 with fail
      go_loopw [6] (fun iv wr => ∃ i : Nat, iv = .int .i64 i ∧ i ≤ wn ∧ (∀ (j : Nat) (c : Cm), j < i → l[j]? = some c → uoB cols c pk = false) ∧ Only (fun _ => False) w1 wr) (fun iv _ => wn - (intOf iv).toNat)
      case atStart => exact ⟨0, rfl, Nat.zero_le _, fun j c hj => (by omega), unhide HO1⟩
      case round =>
        obtain ⟨i, rfl, hi, hal, oW⟩ := hrel
        have HAL := hide hal
        clear hal
        by_cases hs : i < wn
        · have b1 : decide ((i : Int) < (wn : Int)) = true := decide_eq_true (by omega)
          have b1p : (i : Int) < (wn : Int) := by omega
          obtain ⟨c, hc⟩ := getE (l := l) (i := i) (by rw [← unhide HN]; exact hs)
          obtain ⟨ga, rfl, d0, d1, d2, d3, d4⟩ := ((unhide HH).2.2.1.quiet oW).at_ hc
          have NW := (unhide HH).1.keep oW (fun e => e)
          have s0 : wr.cell? ⟨G, 0, none⟩ = some (.string tn) := NW.cell 0
          have s1 : wr.cell? ⟨G, 1, none⟩ = some (.slice ca cn cc) := NW.cell 1
          have s2 : wr.cell? ⟨G, 2, none⟩ = some (.int .i64 pk) := NW.cell 2
          have s3 : wr.cell? ⟨G, 3, none⟩ = some (.int .i64 ix) := NW.cell 3
          have oD : Only (fun _ => False) wr wr.drew := (Only.refl _ wr).drew
          have C1 := slusableOn_any (tn := tn) (pk := pk) (ix := ix) ((unhide HH).2.1.keep (oW.trans oD (fun _ _ e => e)) (fun _ _ e => e)) (unhide HL) c pk
          unfold schU scU at C1
          obtain ⟨u, hu⟩ : ∃ b, uoB cols c pk = b := ⟨_, rfl⟩
          rw [hu] at C1
          have C1 := hide C1
          have HU := hide hu
          have HC := hide hc
          have HOW := hide oW
          clear hu hc NW oD oW
          have S0 : wr.cell? ⟨G, 0, none⟩ = some (.string tn) ∧ wr.cell? ⟨G, 1, none⟩ = some (.slice ca cn cc) ∧ wr.cell? ⟨G, 2, none⟩ = some (.int .i64 pk) ∧ wr.cell? ⟨G, 3, none⟩ = some (.int .i64 ix) ∧ wr.cell? ⟨ga, i * 5, none⟩ = some (.string c.col) ∧ wr.cell? ⟨ga, i * 5 + 1, none⟩ = some (.string (opT c.op)) ∧ wr.cell? ⟨ga, i * 5 + 2, none⟩ = some (.bool c.lit.str) ∧ wr.cell? ⟨ga, i * 5 + 3, none⟩ = some (.int .i64 c.lit.i) ∧ wr.cell? ⟨ga, i * 5 + 4, none⟩ = some (.string c.lit.s) := ⟨s0, s1, s2, s3, d0, d1, d2, d3, d4⟩
          have HSB := hide (show ∀ W, Only (fun _ => False) wr W → (W.cell? ⟨G, 0, none⟩ = some (.string tn) ∧ W.cell? ⟨G, 1, none⟩ = some (.slice ca cn cc) ∧ W.cell? ⟨G, 2, none⟩ = some (.int .i64 pk) ∧ W.cell? ⟨G, 3, none⟩ = some (.int .i64 ix) ∧ W.cell? ⟨ga, i * 5, none⟩ = some (.string c.col) ∧ W.cell? ⟨ga, i * 5 + 1, none⟩ = some (.string (opT c.op)) ∧ W.cell? ⟨ga, i * 5 + 2, none⟩ = some (.bool c.lit.str) ∧ W.cell? ⟨ga, i * 5 + 3, none⟩ = some (.int .i64 c.lit.i) ∧ W.cell? ⟨ga, i * 5 + 4, none⟩ = some (.string c.lit.s)) from fun W o => ⟨o.cellS s0, o.cellS s1, o.cellS s2, o.cellS s3, o.cellS d0, o.cellS d1, o.cellS d2, o.cellS d3, o.cellS d4⟩)
          clear s0 s1 s2 s3 d0 d1 d2 d3 d4
          go_upto_region 9 with fail
          cases u with
          | false =>
            refine wp_region_held_drew (S := (fun w' => w'.cell? ⟨G, 0, none⟩ = some (.string tn) ∧ w'.cell? ⟨G, 1, none⟩ = some (.slice ca cn cc) ∧ w'.cell? ⟨G, 2, none⟩ = some (.int .i64 pk) ∧ w'.cell? ⟨G, 3, none⟩ = some (.int .i64 ix) ∧ w'.cell? ⟨ga, i * 5, none⟩ = some (.string c.col) ∧ w'.cell? ⟨ga, i * 5 + 1, none⟩ = some (.string (opT c.op)) ∧ w'.cell? ⟨ga, i * 5 + 2, none⟩ = some (.bool c.lit.str) ∧ w'.cell? ⟨ga, i * 5 + 3, none⟩ = some (.int .i64 c.lit.i) ∧ w'.cell? ⟨ga, i * 5 + 4, none⟩ = some (.string c.lit.s))) (by kernel_rfl) S0 (fun hH0 => ?_)
            refine takeH 0 36 (v := ?vp6false1) rfl rfl (by kernel_rfl) (by kernel_rfl) (by kernel_rfl) (fun _ _ _ h => h) (Or.inl ⟨by rfl, ?hp6false1⟩) hH0 ?rp6false1
            case hp6false1 => (intro w hSw; obtain ⟨s0, s1, s2, s3, s4, s5, s6, s7, s8⟩ := hSw; go_simp; (try with_reducible rfl))
            case rp6false1 =>
            try simp only [Act.put, List.setIfInBounds_toArray, List.set_cons_zero, List.set_cons_succ]
            refine takeH 1 37 (v := ?vp6false2) rfl rfl (by kernel_rfl) (by kernel_rfl) (by kernel_rfl) (fun _ _ _ h => h) (Or.inl ⟨by rfl, ?hp6false2⟩) hH0 ?rp6false2
            case hp6false2 => (intro w hSw; clear hSw; go_simp; (try with_reducible rfl))
            case rp6false2 =>
            try simp only [Act.put, List.setIfInBounds_toArray, List.set_cons_zero, List.set_cons_succ]
            refine takeH 2 38 (v := ?vp6false3) rfl rfl (by kernel_rfl) (by kernel_rfl) (by kernel_rfl) (fun _ _ _ h => h) (Or.inl ⟨by rfl, ?hp6false3⟩) hH0 ?rp6false3
            case hp6false3 => (intro w hSw; clear hSw; go_simp; (try with_reducible rfl))
            case rp6false3 =>
            try simp only [Act.put, List.setIfInBounds_toArray, List.set_cons_zero, List.set_cons_succ]
            refine takeH 3 39 (v := ?vp6false4) rfl rfl (by kernel_rfl) (by kernel_rfl) (by kernel_rfl) (fun _ _ _ h => h) (Or.inl ⟨by rfl, ?hp6false4⟩) hH0 ?rp6false4
            case hp6false4 => (intro w hSw; clear hSw; go_simp; (try with_reducible rfl))
            case rp6false4 =>
            try simp only [Act.put, List.setIfInBounds_toArray, List.set_cons_zero, List.set_cons_succ]
            refine takeH 4 40 (v := ?vp6false5) rfl rfl (by kernel_rfl) (by kernel_rfl) (by kernel_rfl) (fun _ _ _ h => h) (Or.inl ⟨by rfl, ?hp6false5⟩) hH0 ?rp6false5
            case hp6false5 => (intro w hSw; obtain ⟨s0, s1, s2, s3, s4, s5, s6, s7, s8⟩ := hSw; go_simp; (try with_reducible rfl))
            case rp6false5 =>
            try simp only [Act.put, List.setIfInBounds_toArray, List.set_cons_zero, List.set_cons_succ]
            refine takeH 5 41 (v := ?vp6false6) rfl rfl (by kernel_rfl) (by kernel_rfl) (by kernel_rfl) (fun _ _ _ h => h) (Or.inl ⟨by rfl, ?hp6false6⟩) hH0 ?rp6false6
            case hp6false6 => (intro w hSw; clear hSw; go_simp; (try with_reducible rfl))
            case rp6false6 =>
            try simp only [Act.put, List.setIfInBounds_toArray, List.set_cons_zero, List.set_cons_succ]
            refine takeH 6 42 (v := ?vp6false7) rfl rfl (by kernel_rfl) (by kernel_rfl) (by kernel_rfl) (fun _ _ _ h => h) (Or.inl ⟨by rfl, ?hp6false7⟩) hH0 ?rp6false7
            case hp6false7 => (intro w hSw; obtain ⟨s0, s1, s2, s3, s4, s5, s6, s7, s8⟩ := hSw; go_simp; (try with_reducible rfl))
            case rp6false7 =>
            try simp only [Act.put, List.setIfInBounds_toArray, List.set_cons_zero, List.set_cons_succ]
            refine callH 7 (by kernel_rfl) rfl 43 rfl rfl 182 Tryz.func182 (by kernel_rfl) (by kernel_rfl) #[.tmp 36, .tmp 40, .tmp 42] #[79, 259, 3] rfl #[.agg #[.string tn, .slice ca cn cc, .int .i64 pk, .int .i64 ix], .agg #[.string c.col, .string (opT c.op), .bool c.lit.str, .int .i64 c.lit.i, .string c.lit.s], .int .i64 pk] (by simp [Act.eval]) (R := fun v w' => v = .bool false ∧ Only (fun _ => False) wr.drew w') ((unhide C1).mono (by rintro en w' ⟨rfl, o⟩; exact ⟨_, rfl, rfl, o⟩)) ?kcc6false
            case kcc6false =>
            rintro _ w6 ⟨rfl, o6⟩
            have oE : Only (fun _ => False) wr w6 := (Only.refl _ wr).drew.trans o6 (fun _ _ e => e)
            have S6 := unhide HSB w6 oE
            refine ⟨S6, ?_⟩
            try simp only [Act.put, List.setIfInBounds_toArray, List.set_cons_zero, List.set_cons_succ]
            refine wpAnyH_done (by kernel_rfl) ?_ _
            have HO6 := hide ((unhide HOW).trans oE (fun _ _ e => e))
            clear S6 S0 HSB o6 oE C1
            have HA2 := hide (show ∀ (j : Nat) (c' : Cm), j < i + 1 → l[j]? = some c' → uoB cols c' pk = false from fun j c' hj hc' => by
              by_cases e : j = i
              · subst e
                rw [unhide HC] at hc'
                cases hc'
                exact unhide HU
              · exact unhide HAL j c' (by omega) hc')
            go_wp2_with fail
            go_roundw
            case rel => exact ⟨i + 1, by go_num, by omega, unhide HA2, unhide HO6⟩
            case measure => simp [intOf]; omega
          | true =>
            refine wp_region_held_drew (S := (fun w' => w'.cell? ⟨G, 0, none⟩ = some (.string tn) ∧ w'.cell? ⟨G, 1, none⟩ = some (.slice ca cn cc) ∧ w'.cell? ⟨G, 2, none⟩ = some (.int .i64 pk) ∧ w'.cell? ⟨G, 3, none⟩ = some (.int .i64 ix) ∧ w'.cell? ⟨ga, i * 5, none⟩ = some (.string c.col) ∧ w'.cell? ⟨ga, i * 5 + 1, none⟩ = some (.string (opT c.op)) ∧ w'.cell? ⟨ga, i * 5 + 2, none⟩ = some (.bool c.lit.str) ∧ w'.cell? ⟨ga, i * 5 + 3, none⟩ = some (.int .i64 c.lit.i) ∧ w'.cell? ⟨ga, i * 5 + 4, none⟩ = some (.string c.lit.s))) (by kernel_rfl) S0 (fun hH0 => ?_)
            refine takeH 0 36 (v := ?vp6true1) rfl rfl (by kernel_rfl) (by kernel_rfl) (by kernel_rfl) (fun _ _ _ h => h) (Or.inl ⟨by rfl, ?hp6true1⟩) hH0 ?rp6true1
            case hp6true1 => (intro w hSw; obtain ⟨s0, s1, s2, s3, s4, s5, s6, s7, s8⟩ := hSw; go_simp; (try with_reducible rfl))
            case rp6true1 =>
            try simp only [Act.put, List.setIfInBounds_toArray, List.set_cons_zero, List.set_cons_succ]
            refine takeH 1 37 (v := ?vp6true2) rfl rfl (by kernel_rfl) (by kernel_rfl) (by kernel_rfl) (fun _ _ _ h => h) (Or.inl ⟨by rfl, ?hp6true2⟩) hH0 ?rp6true2
            case hp6true2 => (intro w hSw; clear hSw; go_simp; (try with_reducible rfl))
            case rp6true2 =>
            try simp only [Act.put, List.setIfInBounds_toArray, List.set_cons_zero, List.set_cons_succ]
            refine takeH 2 38 (v := ?vp6true3) rfl rfl (by kernel_rfl) (by kernel_rfl) (by kernel_rfl) (fun _ _ _ h => h) (Or.inl ⟨by rfl, ?hp6true3⟩) hH0 ?rp6true3
            case hp6true3 => (intro w hSw; clear hSw; go_simp; (try with_reducible rfl))
            case rp6true3 =>
            try simp only [Act.put, List.setIfInBounds_toArray, List.set_cons_zero, List.set_cons_succ]
            refine takeH 3 39 (v := ?vp6true4) rfl rfl (by kernel_rfl) (by kernel_rfl) (by kernel_rfl) (fun _ _ _ h => h) (Or.inl ⟨by rfl, ?hp6true4⟩) hH0 ?rp6true4
            case hp6true4 => (intro w hSw; clear hSw; go_simp; (try with_reducible rfl))
            case rp6true4 =>
            try simp only [Act.put, List.setIfInBounds_toArray, List.set_cons_zero, List.set_cons_succ]
            refine takeH 4 40 (v := ?vp6true5) rfl rfl (by kernel_rfl) (by kernel_rfl) (by kernel_rfl) (fun _ _ _ h => h) (Or.inl ⟨by rfl, ?hp6true5⟩) hH0 ?rp6true5
            case hp6true5 => (intro w hSw; obtain ⟨s0, s1, s2, s3, s4, s5, s6, s7, s8⟩ := hSw; go_simp; (try with_reducible rfl))
            case rp6true5 =>
            try simp only [Act.put, List.setIfInBounds_toArray, List.set_cons_zero, List.set_cons_succ]
            refine takeH 5 41 (v := ?vp6true6) rfl rfl (by kernel_rfl) (by kernel_rfl) (by kernel_rfl) (fun _ _ _ h => h) (Or.inl ⟨by rfl, ?hp6true6⟩) hH0 ?rp6true6
            case hp6true6 => (intro w hSw; clear hSw; go_simp; (try with_reducible rfl))
            case rp6true6 =>
            try simp only [Act.put, List.setIfInBounds_toArray, List.set_cons_zero, List.set_cons_succ]
            refine takeH 6 42 (v := ?vp6true7) rfl rfl (by kernel_rfl) (by kernel_rfl) (by kernel_rfl) (fun _ _ _ h => h) (Or.inl ⟨by rfl, ?hp6true7⟩) hH0 ?rp6true7
            case hp6true7 => (intro w hSw; obtain ⟨s0, s1, s2, s3, s4, s5, s6, s7, s8⟩ := hSw; go_simp; (try with_reducible rfl))
            case rp6true7 =>
            try simp only [Act.put, List.setIfInBounds_toArray, List.set_cons_zero, List.set_cons_succ]
            refine callH 7 (by kernel_rfl) rfl 43 rfl rfl 182 Tryz.func182 (by kernel_rfl) (by kernel_rfl) #[.tmp 36, .tmp 40, .tmp 42] #[79, 259, 3] rfl #[.agg #[.string tn, .slice ca cn cc, .int .i64 pk, .int .i64 ix], .agg #[.string c.col, .string (opT c.op), .bool c.lit.str, .int .i64 c.lit.i, .string c.lit.s], .int .i64 pk] (by simp [Act.eval]) (R := fun v w' => v = .bool true ∧ Only (fun _ => False) wr.drew w') ((unhide C1).mono (by rintro en w' ⟨rfl, o⟩; exact ⟨_, rfl, rfl, o⟩)) ?kcc6true
            case kcc6true =>
            rintro _ w6 ⟨rfl, o6⟩
            have oE : Only (fun _ => False) wr w6 := (Only.refl _ wr).drew.trans o6 (fun _ _ e => e)
            have S6 := unhide HSB w6 oE
            refine ⟨S6, ?_⟩
            try simp only [Act.put, List.setIfInBounds_toArray, List.set_cons_zero, List.set_cons_succ]
            refine wpAnyH_done (by kernel_rfl) ?_ _
            have HO6 := hide ((unhide HOW).trans oE (fun _ _ e => e))
            clear S6 S0 HSB o6 oE C1
            have FF := hide (show plI cols pk ix l = 2 from by
              unfold plI
              rw [if_neg (unhide HP1), if_pos (List.any_eq_true.mpr ⟨c, List.mem_of_getElem? (unhide HC), unhide HU⟩)]
              )
            go_wp2_with fail
            go_ret
            exact ⟨by rw [unhide FF]; rfl, (unhide HH).2.2.2.trans (unhide HO6) (fun _ _ e => e)⟩
        · have b1 : decide ((i : Int) < (wn : Int)) = false := decide_eq_false (by omega)
          have b1p : ¬ (i : Int) < (wn : Int) := by omega
          have hie : wn = i := by omega
          subst hie
          have HP2 := hide (show ¬ l.any (fun c => uoB cols c pk) = true from fun e => by
            obtain ⟨c, hc, hb⟩ := List.any_eq_true.mp e
            obtain ⟨j, hj⟩ := List.getElem?_of_mem hc
            have := unhide HAL j c (by have := (List.getElem?_eq_some_iff.1 hj).1; have := unhide HN; omega) hj
            rw [hb] at this
            cases this)
          have HO1 := hide oW
          clear HAL oW
          go_upto_region 12 with fail
          go_loopw [7] (fun iv wr => ∃ i : Nat, iv = .int .i64 i ∧ i ≤ wn ∧ (∀ (j : Nat) (c : Cm), j < i → l[j]? = some c → uoB cols c ix = false) ∧ Only (fun _ => False) w1 wr) (fun iv _ => wn - (intOf iv).toNat)
          case atStart => exact ⟨0, rfl, Nat.zero_le _, fun j c hj => (by omega), unhide HO1⟩
          case round =>
            obtain ⟨i, rfl, hi, hal, oW⟩ := hrel
            have HAL := hide hal
            clear hal
            by_cases hs : i < wn
            · have b1 : decide ((i : Int) < (wn : Int)) = true := decide_eq_true (by omega)
              have b1p : (i : Int) < (wn : Int) := by omega
              obtain ⟨c, hc⟩ := getE (l := l) (i := i) (by rw [← unhide HN]; exact hs)
              obtain ⟨ga, rfl, d0, d1, d2, d3, d4⟩ := ((unhide HH).2.2.1.quiet oW).at_ hc
              have NW := (unhide HH).1.keep oW (fun e => e)
              have s0 : wr.cell? ⟨G, 0, none⟩ = some (.string tn) := NW.cell 0
              have s1 : wr.cell? ⟨G, 1, none⟩ = some (.slice ca cn cc) := NW.cell 1
              have s2 : wr.cell? ⟨G, 2, none⟩ = some (.int .i64 pk) := NW.cell 2
              have s3 : wr.cell? ⟨G, 3, none⟩ = some (.int .i64 ix) := NW.cell 3
              have oD : Only (fun _ => False) wr wr.drew := (Only.refl _ wr).drew
              have C1 := slusableOn_any (tn := tn) (pk := pk) (ix := ix) ((unhide HH).2.1.keep (oW.trans oD (fun _ _ e => e)) (fun _ _ e => e)) (unhide HL) c ix
              unfold schU scU at C1
              obtain ⟨u, hu⟩ : ∃ b, uoB cols c ix = b := ⟨_, rfl⟩
              rw [hu] at C1
              have C1 := hide C1
              have HU := hide hu
              have HC := hide hc
              have HOW := hide oW
              clear hu hc NW oD oW
              have S0 : wr.cell? ⟨G, 0, none⟩ = some (.string tn) ∧ wr.cell? ⟨G, 1, none⟩ = some (.slice ca cn cc) ∧ wr.cell? ⟨G, 2, none⟩ = some (.int .i64 pk) ∧ wr.cell? ⟨G, 3, none⟩ = some (.int .i64 ix) ∧ wr.cell? ⟨ga, i * 5, none⟩ = some (.string c.col) ∧ wr.cell? ⟨ga, i * 5 + 1, none⟩ = some (.string (opT c.op)) ∧ wr.cell? ⟨ga, i * 5 + 2, none⟩ = some (.bool c.lit.str) ∧ wr.cell? ⟨ga, i * 5 + 3, none⟩ = some (.int .i64 c.lit.i) ∧ wr.cell? ⟨ga, i * 5 + 4, none⟩ = some (.string c.lit.s) := ⟨s0, s1, s2, s3, d0, d1, d2, d3, d4⟩
              have HSB := hide (show ∀ W, Only (fun _ => False) wr W → (W.cell? ⟨G, 0, none⟩ = some (.string tn) ∧ W.cell? ⟨G, 1, none⟩ = some (.slice ca cn cc) ∧ W.cell? ⟨G, 2, none⟩ = some (.int .i64 pk) ∧ W.cell? ⟨G, 3, none⟩ = some (.int .i64 ix) ∧ W.cell? ⟨ga, i * 5, none⟩ = some (.string c.col) ∧ W.cell? ⟨ga, i * 5 + 1, none⟩ = some (.string (opT c.op)) ∧ W.cell? ⟨ga, i * 5 + 2, none⟩ = some (.bool c.lit.str) ∧ W.cell? ⟨ga, i * 5 + 3, none⟩ = some (.int .i64 c.lit.i) ∧ W.cell? ⟨ga, i * 5 + 4, none⟩ = some (.string c.lit.s)) from fun W o => ⟨o.cellS s0, o.cellS s1, o.cellS s2, o.cellS s3, o.cellS d0, o.cellS d1, o.cellS d2, o.cellS d3, o.cellS d4⟩)
              clear s0 s1 s2 s3 d0 d1 d2 d3 d4
              go_upto_region 14 with fail
              cases u with
              | false =>
                refine wp_region_held_drew (S := (fun w' => w'.cell? ⟨G, 0, none⟩ = some (.string tn) ∧ w'.cell? ⟨G, 1, none⟩ = some (.slice ca cn cc) ∧ w'.cell? ⟨G, 2, none⟩ = some (.int .i64 pk) ∧ w'.cell? ⟨G, 3, none⟩ = some (.int .i64 ix) ∧ w'.cell? ⟨ga, i * 5, none⟩ = some (.string c.col) ∧ w'.cell? ⟨ga, i * 5 + 1, none⟩ = some (.string (opT c.op)) ∧ w'.cell? ⟨ga, i * 5 + 2, none⟩ = some (.bool c.lit.str) ∧ w'.cell? ⟨ga, i * 5 + 3, none⟩ = some (.int .i64 c.lit.i) ∧ w'.cell? ⟨ga, i * 5 + 4, none⟩ = some (.string c.lit.s))) (by kernel_rfl) S0 (fun hH0 => ?_)
                refine takeH 0 50 (v := ?vp7false1) rfl rfl (by kernel_rfl) (by kernel_rfl) (by kernel_rfl) (fun _ _ _ h => h) (Or.inl ⟨by rfl, ?hp7false1⟩) hH0 ?rp7false1
                case hp7false1 => (intro w hSw; obtain ⟨s0, s1, s2, s3, s4, s5, s6, s7, s8⟩ := hSw; go_simp; (try with_reducible rfl))
                case rp7false1 =>
                try simp only [Act.put, List.setIfInBounds_toArray, List.set_cons_zero, List.set_cons_succ]
                refine takeH 1 51 (v := ?vp7false2) rfl rfl (by kernel_rfl) (by kernel_rfl) (by kernel_rfl) (fun _ _ _ h => h) (Or.inl ⟨by rfl, ?hp7false2⟩) hH0 ?rp7false2
                case hp7false2 => (intro w hSw; clear hSw; go_simp; (try with_reducible rfl))
                case rp7false2 =>
                try simp only [Act.put, List.setIfInBounds_toArray, List.set_cons_zero, List.set_cons_succ]
                refine takeH 2 52 (v := ?vp7false3) rfl rfl (by kernel_rfl) (by kernel_rfl) (by kernel_rfl) (fun _ _ _ h => h) (Or.inl ⟨by rfl, ?hp7false3⟩) hH0 ?rp7false3
                case hp7false3 => (intro w hSw; clear hSw; go_simp; (try with_reducible rfl))
                case rp7false3 =>
                try simp only [Act.put, List.setIfInBounds_toArray, List.set_cons_zero, List.set_cons_succ]
                refine takeH 3 53 (v := ?vp7false4) rfl rfl (by kernel_rfl) (by kernel_rfl) (by kernel_rfl) (fun _ _ _ h => h) (Or.inl ⟨by rfl, ?hp7false4⟩) hH0 ?rp7false4
                case hp7false4 => (intro w hSw; clear hSw; go_simp; (try with_reducible rfl))
                case rp7false4 =>
                try simp only [Act.put, List.setIfInBounds_toArray, List.set_cons_zero, List.set_cons_succ]
                refine takeH 4 54 (v := ?vp7false5) rfl rfl (by kernel_rfl) (by kernel_rfl) (by kernel_rfl) (fun _ _ _ h => h) (Or.inl ⟨by rfl, ?hp7false5⟩) hH0 ?rp7false5
                case hp7false5 => (intro w hSw; obtain ⟨s0, s1, s2, s3, s4, s5, s6, s7, s8⟩ := hSw; go_simp; (try with_reducible rfl))
                case rp7false5 =>
                try simp only [Act.put, List.setIfInBounds_toArray, List.set_cons_zero, List.set_cons_succ]
                refine takeH 5 55 (v := ?vp7false6) rfl rfl (by kernel_rfl) (by kernel_rfl) (by kernel_rfl) (fun _ _ _ h => h) (Or.inl ⟨by rfl, ?hp7false6⟩) hH0 ?rp7false6
                case hp7false6 => (intro w hSw; clear hSw; go_simp; (try with_reducible rfl))
                case rp7false6 =>
                try simp only [Act.put, List.setIfInBounds_toArray, List.set_cons_zero, List.set_cons_succ]
                refine takeH 6 56 (v := ?vp7false7) rfl rfl (by kernel_rfl) (by kernel_rfl) (by kernel_rfl) (fun _ _ _ h => h) (Or.inl ⟨by rfl, ?hp7false7⟩) hH0 ?rp7false7
                case hp7false7 => (intro w hSw; obtain ⟨s0, s1, s2, s3, s4, s5, s6, s7, s8⟩ := hSw; go_simp; (try with_reducible rfl))
                case rp7false7 =>
                try simp only [Act.put, List.setIfInBounds_toArray, List.set_cons_zero, List.set_cons_succ]
                refine callH 7 (by kernel_rfl) rfl 57 rfl rfl 182 Tryz.func182 (by kernel_rfl) (by kernel_rfl) #[.tmp 50, .tmp 54, .tmp 56] #[79, 259, 3] rfl #[.agg #[.string tn, .slice ca cn cc, .int .i64 pk, .int .i64 ix], .agg #[.string c.col, .string (opT c.op), .bool c.lit.str, .int .i64 c.lit.i, .string c.lit.s], .int .i64 ix] (by simp [Act.eval]) (R := fun v w' => v = .bool false ∧ Only (fun _ => False) wr.drew w') ((unhide C1).mono (by rintro en w' ⟨rfl, o⟩; exact ⟨_, rfl, rfl, o⟩)) ?kcc7false
                case kcc7false =>
                rintro _ w6 ⟨rfl, o6⟩
                have oE : Only (fun _ => False) wr w6 := (Only.refl _ wr).drew.trans o6 (fun _ _ e => e)
                have S6 := unhide HSB w6 oE
                refine ⟨S6, ?_⟩
                try simp only [Act.put, List.setIfInBounds_toArray, List.set_cons_zero, List.set_cons_succ]
                refine wpAnyH_done (by kernel_rfl) ?_ _
                have HO6 := hide ((unhide HOW).trans oE (fun _ _ e => e))
                clear S6 S0 HSB o6 oE C1
                have HA2 := hide (show ∀ (j : Nat) (c' : Cm), j < i + 1 → l[j]? = some c' → uoB cols c' ix = false from fun j c' hj hc' => by
                  by_cases e : j = i
                  · subst e
                    rw [unhide HC] at hc'
                    cases hc'
                    exact unhide HU
                  · exact unhide HAL j c' (by omega) hc')
                go_wp2_with fail
                go_roundw
                case rel => exact ⟨i + 1, by go_num, by omega, unhide HA2, unhide HO6⟩
                case measure => simp [intOf]; omega
              | true =>
                refine wp_region_held_drew (S := (fun w' => w'.cell? ⟨G, 0, none⟩ = some (.string tn) ∧ w'.cell? ⟨G, 1, none⟩ = some (.slice ca cn cc) ∧ w'.cell? ⟨G, 2, none⟩ = some (.int .i64 pk) ∧ w'.cell? ⟨G, 3, none⟩ = some (.int .i64 ix) ∧ w'.cell? ⟨ga, i * 5, none⟩ = some (.string c.col) ∧ w'.cell? ⟨ga, i * 5 + 1, none⟩ = some (.string (opT c.op)) ∧ w'.cell? ⟨ga, i * 5 + 2, none⟩ = some (.bool c.lit.str) ∧ w'.cell? ⟨ga, i * 5 + 3, none⟩ = some (.int .i64 c.lit.i) ∧ w'.cell? ⟨ga, i * 5 + 4, none⟩ = some (.string c.lit.s))) (by kernel_rfl) S0 (fun hH0 => ?_)
                refine takeH 0 50 (v := ?vp7true1) rfl rfl (by kernel_rfl) (by kernel_rfl) (by kernel_rfl) (fun _ _ _ h => h) (Or.inl ⟨by rfl, ?hp7true1⟩) hH0 ?rp7true1
                case hp7true1 => (intro w hSw; obtain ⟨s0, s1, s2, s3, s4, s5, s6, s7, s8⟩ := hSw; go_simp; (try with_reducible rfl))
                case rp7true1 =>
                try simp only [Act.put, List.setIfInBounds_toArray, List.set_cons_zero, List.set_cons_succ]
                refine takeH 1 51 (v := ?vp7true2) rfl rfl (by kernel_rfl) (by kernel_rfl) (by kernel_rfl) (fun _ _ _ h => h) (Or.inl ⟨by rfl, ?hp7true2⟩) hH0 ?rp7true2
                case hp7true2 => (intro w hSw; clear hSw; go_simp; (try with_reducible rfl))
                case rp7true2 =>
                try simp only [Act.put, List.setIfInBounds_toArray, List.set_cons_zero, List.set_cons_succ]
                refine takeH 2 52 (v := ?vp7true3) rfl rfl (by kernel_rfl) (by kernel_rfl) (by kernel_rfl) (fun _ _ _ h => h) (Or.inl ⟨by rfl, ?hp7true3⟩) hH0 ?rp7true3
                case hp7true3 => (intro w hSw; clear hSw; go_simp; (try with_reducible rfl))
                case rp7true3 =>
                try simp only [Act.put, List.setIfInBounds_toArray, List.set_cons_zero, List.set_cons_succ]
                refine takeH 3 53 (v := ?vp7true4) rfl rfl (by kernel_rfl) (by kernel_rfl) (by kernel_rfl) (fun _ _ _ h => h) (Or.inl ⟨by rfl, ?hp7true4⟩) hH0 ?rp7true4
                case hp7true4 => (intro w hSw; clear hSw; go_simp; (try with_reducible rfl))
                case rp7true4 =>
                try simp only [Act.put, List.setIfInBounds_toArray, List.set_cons_zero, List.set_cons_succ]
                refine takeH 4 54 (v := ?vp7true5) rfl rfl (by kernel_rfl) (by kernel_rfl) (by kernel_rfl) (fun _ _ _ h => h) (Or.inl ⟨by rfl, ?hp7true5⟩) hH0 ?rp7true5
                case hp7true5 => (intro w hSw; obtain ⟨s0, s1, s2, s3, s4, s5, s6, s7, s8⟩ := hSw; go_simp; (try with_reducible rfl))
                case rp7true5 =>
                try simp only [Act.put, List.setIfInBounds_toArray, List.set_cons_zero, List.set_cons_succ]
                refine takeH 5 55 (v := ?vp7true6) rfl rfl (by kernel_rfl) (by kernel_rfl) (by kernel_rfl) (fun _ _ _ h => h) (Or.inl ⟨by rfl, ?hp7true6⟩) hH0 ?rp7true6
                case hp7true6 => (intro w hSw; clear hSw; go_simp; (try with_reducible rfl))
                case rp7true6 =>
                try simp only [Act.put, List.setIfInBounds_toArray, List.set_cons_zero, List.set_cons_succ]
                refine takeH 6 56 (v := ?vp7true7) rfl rfl (by kernel_rfl) (by kernel_rfl) (by kernel_rfl) (fun _ _ _ h => h) (Or.inl ⟨by rfl, ?hp7true7⟩) hH0 ?rp7true7
                case hp7true7 => (intro w hSw; obtain ⟨s0, s1, s2, s3, s4, s5, s6, s7, s8⟩ := hSw; go_simp; (try with_reducible rfl))
                case rp7true7 =>
                try simp only [Act.put, List.setIfInBounds_toArray, List.set_cons_zero, List.set_cons_succ]
                refine callH 7 (by kernel_rfl) rfl 57 rfl rfl 182 Tryz.func182 (by kernel_rfl) (by kernel_rfl) #[.tmp 50, .tmp 54, .tmp 56] #[79, 259, 3] rfl #[.agg #[.string tn, .slice ca cn cc, .int .i64 pk, .int .i64 ix], .agg #[.string c.col, .string (opT c.op), .bool c.lit.str, .int .i64 c.lit.i, .string c.lit.s], .int .i64 ix] (by simp [Act.eval]) (R := fun v w' => v = .bool true ∧ Only (fun _ => False) wr.drew w') ((unhide C1).mono (by rintro en w' ⟨rfl, o⟩; exact ⟨_, rfl, rfl, o⟩)) ?kcc7true
                case kcc7true =>
                rintro _ w6 ⟨rfl, o6⟩
                have oE : Only (fun _ => False) wr w6 := (Only.refl _ wr).drew.trans o6 (fun _ _ e => e)
                have S6 := unhide HSB w6 oE
                refine ⟨S6, ?_⟩
                try simp only [Act.put, List.setIfInBounds_toArray, List.set_cons_zero, List.set_cons_succ]
                refine wpAnyH_done (by kernel_rfl) ?_ _
                have HO6 := hide ((unhide HOW).trans oE (fun _ _ e => e))
                clear S6 S0 HSB o6 oE C1
                have FF := hide (show plI cols pk ix l = 3 from by
                  unfold plI
                  rw [if_neg (unhide HP1), if_neg (unhide HP2), if_pos (List.any_eq_true.mpr ⟨c, List.mem_of_getElem? (unhide HC), unhide HU⟩)]
                  )
                go_wp2_with fail
                go_ret
                exact ⟨by rw [unhide FF]; rfl, (unhide HH).2.2.2.trans (unhide HO6) (fun _ _ e => e)⟩
            · have b1 : decide ((i : Int) < (wn : Int)) = false := decide_eq_false (by omega)
              have b1p : ¬ (i : Int) < (wn : Int) := by omega
              have hie : wn = i := by omega
              subst hie
              have HP3 := hide (show ¬ l.any (fun c => uoB cols c ix) = true from fun e => by
                obtain ⟨c, hc, hb⟩ := List.any_eq_true.mp e
                obtain ⟨j, hj⟩ := List.getElem?_of_mem hc
                have := unhide HAL j c (by have := (List.getElem?_eq_some_iff.1 hj).1; have := unhide HN; omega) hj
                rw [hb] at this
                cases this)
              have HO1 := hide oW
              clear HAL oW
              have FF := hide (show plI cols pk ix l = 4 from by unfold plI; rw [if_neg (unhide HP1), if_neg (unhide HP2), if_neg (unhide HP3)])
              go_wp2_with fail
              go_ret
              exact ⟨by rw [unhide FF]; rfl, (unhide HH).2.2.2.trans (unhide HO1) (fun _ _ e => e)⟩
end
end Go.Proofs.Qxb6500412aGreat
