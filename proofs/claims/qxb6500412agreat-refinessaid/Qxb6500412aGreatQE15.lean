/-
  OWN WORK. QUERY's MODEL: Exec: refusals, kinds 1 to 6 (written by tools/gen_qe15.py).
-/
import Derived.Test.Qxb6500412aGreatQE14
import Derived.Test.Qxb6500412aGreatQM21
namespace Go.Proofs.Qxb6500412aGreat
open Go.RowKit Go.PlainAid
set_option linter.unusedSimpArgs false
set_option linter.unusedVariables false

section
variable {w w3 w5 w7 w9 : World} {k q G : Nat} {M : Mu} {H : Nat → Prop} {s : Int} {R : Mu × Rs} {e : Ending}
theorem ci_begin (X : MX w q M H) (hg : gdS s) (h : MbP w q M H s e w5) : CiP w q H (if M.act s.toNat = true then (M, Rs.err 3) else (M.begin s.toNat, Rs.err 0)) e w5 := by
  rcases h with ⟨z, rfl, hz, c, rfl⟩ | ⟨rfl, _, ha, hX, o⟩
  · rcases c with ⟨c, _⟩ | ⟨_, ha, rfl⟩
    · exact absurd hg c
    · rw [if_pos ha]; exact ⟨rfl, ⟨H, X, fun b hb => .inl hb⟩, Only.refl _ _⟩
  · rw [ha, if_neg (by decide)]; exact ⟨rfl, ⟨_, hX, fun b hb => hb.imp id (fun c => c.1)⟩, o⟩
theorem ci_end {M' : Mu} (X : MX w q M H) (hg : gdS s) (h : MrP w q M M' H s e w5) : CiP w q H (if M.act s.toNat = true then (M', Rs.err 0) else (M, Rs.err 2)) e w5 := by
  have h4 : s.toNat < 4 := by have := hg.1; have := hg.2; omega
  have hs : ((s.toNat : Nat) : Int) = s := by have := hg.1; omega
  rcases h with ⟨rfl, hz, rfl⟩ | ⟨rfl, h0, hX, o⟩
  · have ha : M.act s.toNat = false := by
      cases h : M.act s.toNat with
      | false => rfl
      | true => exact absurd (inT_of hg h) hz
    have hi := inT_off h4 ha
    rw [hs] at hi
    rw [ha, if_neg (by decide), hi]; exact ⟨rfl, ⟨H, X, fun b hb => .inl hb⟩, Only.refl _ _⟩
  · rw [if_pos (inT_good h0).2.2.1]; exact ⟨rfl, ⟨_, hX, fun b hb => hb.imp id (fun c => c.1)⟩, o⟩
theorem ci_sch {R : Db × Int} (h : MsP w q M H s R e w5) : CiP w q H (schQ M s R) e w5 := ⟨(msp_sch h).1, ⟨_, (msp_sch h).2.1, fun b hb => hb.imp id (fun c => c.1)⟩, (msp_sch h).2.2⟩
/-- An answer without rows, laid into the result. -/
theorem MnP.fail (E : ME w k q M H) (oA : Only (fun _ => False) w w3) (h5 : ∃ H', MX w5 q R.1 H' ∧ ∀ b, H' b → H b ∨ w3.heap.size ≤ b) (o5 : Only H w3 w5) (o7 : Only (fun _ => False) w5 w7) (o9 : Only (fun b => b = G) w7 w9) (hG : w.heap.size = G) (hG3 : G < w3.heap.size) (hR : R.2.cols = [] ∧ R.2.rows = [] ∧ R.2.n = 0) : MnP w k q w.heap.size H R (.returned (.agg #[.int .i64 R.2.e, .int .i64 0, .slice none 0 0, .slice none 0 0])) w9 := by
  obtain ⟨H', hX, hH⟩ := h5
  have kl := E.kl
  have z1 := oA.size
  have e5 : ME w5 k q R.1 H' := (E.quiet oA).turn hX o5 hH
  have nG : ¬ H' G := fun c => (hH G c).elim (fun d => by have := E.mx.lt G d; omega) (fun d => by omega)
  have e9 : ME w9 k q R.1 H' := (e5.quiet o7).keep o9 (fun b hb (e : b = G) => hb.elim (fun c => nG (by rw [← e]; exact c)) (fun c => by omega))
  refine ⟨none, 0, 0, none, 0, 0, H', fun _ => False, by rw [hR.2.2], RsN.none_ hR.1 hR.2.1, fun b hb => hb.elim, e9, fun b hb => (hH b hb).imp id (fun c => by omega), ?_⟩
  exact (((oA.mono (fun _ _ e => e.elim)).trans o5 (fun _ _ e => e)).trans (o7.mono (fun _ _ e => e.elim)) (fun _ _ e => e)).lateS o9 (fun b (e : b = G) => by omega)
end
section
variable {w : World} {k q : Nat} {M : Mu} {H : Nat → Prop} {s : Int} {t : ByteArray}
set_option maxRecDepth 100000 in
set_option maxHeartbeats 16000000 in
theorem smexec_long (E : ME w k q M H) (hl : 256 < t.size) : Calls Tryz.prog 128 #[.pointer (some ⟨k, 0, none⟩), .int .i64 s, .string t] w (MnP w k q w.heap.size H (exQ M s t)) := by
  have e1 : exQ M s t = (M, Rs.err 24) := by unfold exQ; rw [if_pos hl]
  rw [e1]
  have o1 : Only (fun _ => False) w (w.alloc (.cells #[.int .i64 0, .int .i64 0, .slice none 0 0, .slice none 0 0] 52)) := (Only.refl _ w).alloc _
  have N1 := Has.new w #[.int .i64 0, .int .i64 0, .slice none 0 0, .slice none 0 0] 52
  have HE0 := hide E
  have HA := hide (show Has (w.alloc (.cells #[.int .i64 0, .int .i64 0, .slice none 0 0, .slice none 0 0] 52)) w.heap.size #[.int .i64 0, .int .i64 0, .slice none 0 0, .slice none 0 0] 52 ∧ Only (fun _ => False) w (w.alloc (.cells #[.int .i64 0, .int .i64 0, .slice none 0 0, .slice none 0 0] 52)) ∧ w.heap.size < (w.alloc (.cells #[.int .i64 0, .int .i64 0, .slice none 0 0, .slice none 0 0] 52)).heap.size from ⟨N1, o1, N1.lt⟩)
  clear e1 o1 N1 E
  have b0 : ((t.size : Int) > 256) := by omega
  clear hl
  go_enter Tryz.func128, Tryz.ntmps128
  go_upto_region 1 with fail
  generalize w.alloc (.cells #[.int .i64 0, .int .i64 0, .slice none 0 0, .slice none 0 0] 52) = w1 at *
  generalize hH : w.heap.size = G at *
  have HG0 := hide hH
  have HRBx := hide (unhide HA).1
  have HG3 := hide (unhide HA).2.2
  have CF := hide (smfailE_any 24 w1)
  go_wp2_with fail
  refine (unhide CF).mono ?_
  rintro e w7 ⟨rfl, o7⟩
  have RB7 := (unhide HRBx).keep o7 (fun e => e)
  have HO7 := hide o7
  have r0 : w7.cell? ⟨G, 0, none⟩ = some (.int .i64 0) := RB7.cell 0
  have r1 : w7.cell? ⟨G, 1, none⟩ = some (.int .i64 0) := RB7.cell 1
  have r2 : w7.cell? ⟨G, 2, none⟩ = some (.slice none 0 0) := RB7.cell 2
  have r3 : w7.cell? ⟨G, 3, none⟩ = some (.slice none 0 0) := RB7.cell 3
  have rf0 := RB7.free 0
  have rf1 := RB7.free 1
  have rf2 := RB7.free 2
  have rf3 := RB7.free 3
  have rl := RB7.lt
  have H5 := has_setAll [.int .i64 24, .int .i64 0, .slice none 0 0, .slice none 0 0] RB7 rfl
  have O5 := only_setW G [.int .i64 24, .int .i64 0, .slice none 0 0, .slice none 0 0] 0 w7
  have FF := hide (And.intro H5 (show MnP w k q w.heap.size H (M, Rs.err 24) (.returned (.agg #[.int .i64 24, .int .i64 0, .slice none 0 0, .slice none 0 0])) (setW G [.int .i64 24, .int .i64 0, .slice none 0 0, .slice none 0 0] 0 w7) from (MnP.fail (w3 := w1) (w5 := w1) (unhide HE0) (unhide HA).2.1 ⟨H, ((unhide HE0).quiet (unhide HA).2.1).mx, fun b hb => .inl hb⟩ (Only.refl _ _) (unhide HO7) O5 (unhide HG0) (unhide HG3) ⟨rfl, rfl, rfl⟩)))
  simp only [setW, Nat.zero_add, Nat.reduceAdd] at FF
  clear H5 O5
  clear CF o7 RB7
  go_wp2_with fail
  refine bodyPost_ret (sres_result rfl _ rfl (unhide FF).1 rfl) rfl ?_
  have hff := (unhide FF).2
  rw [unhide HG0] at hff
  exact hff
set_option maxRecDepth 100000 in
set_option maxHeartbeats 16000000 in
theorem smexec_sess (E : ME w k q M H) (hl : ¬ 256 < t.size) (hg : ¬ gdS s) : Calls Tryz.prog 128 #[.pointer (some ⟨k, 0, none⟩), .int .i64 s, .string t] w (MnP w k q w.heap.size H (exQ M s t)) := by
  have e1 : exQ M s t = (M, Rs.err 20) := by unfold exQ; rw [if_neg hl, if_pos hg]
  rw [e1]
  have o1 : Only (fun _ => False) w (w.alloc (.cells #[.int .i64 0, .int .i64 0, .slice none 0 0, .slice none 0 0] 52)) := (Only.refl _ w).alloc _
  have N1 := Has.new w #[.int .i64 0, .int .i64 0, .slice none 0 0, .slice none 0 0] 52
  have HE0 := hide E
  have HA := hide (show Has (w.alloc (.cells #[.int .i64 0, .int .i64 0, .slice none 0 0, .slice none 0 0] 52)) w.heap.size #[.int .i64 0, .int .i64 0, .slice none 0 0, .slice none 0 0] 52 ∧ Only (fun _ => False) w (w.alloc (.cells #[.int .i64 0, .int .i64 0, .slice none 0 0, .slice none 0 0] 52)) ∧ w.heap.size < (w.alloc (.cells #[.int .i64 0, .int .i64 0, .slice none 0 0, .slice none 0 0] 52)).heap.size from ⟨N1, o1, N1.lt⟩)
  clear e1 o1 N1 E
  have b0 : ¬ ((t.size : Int) > 256) := by omega
  have CG := xgood_any s (w.alloc (.cells #[.int .i64 0, .int .i64 0, .slice none 0 0, .slice none 0 0] 52))
  rw [decide_eq_false hg] at CG
  have CG := hide CG
  clear hg hl
  go_enter Tryz.func128, Tryz.ntmps128
  go_upto_region 1 with fail
  generalize w.alloc (.cells #[.int .i64 0, .int .i64 0, .slice none 0 0, .slice none 0 0] 52) = w1 at *
  generalize hH : w.heap.size = G at *
  have HG0 := hide hH
  go_wp2_with fail
  refine (unhide CG).mono ?_
  rintro e w2 ⟨rfl, rfl⟩
  clear CG
  have HRBx := hide (unhide HA).1
  have HG3 := hide (unhide HA).2.2
  have CF := hide (smfailE_any 20 w1)
  go_wp2_with fail
  refine (unhide CF).mono ?_
  rintro e w7 ⟨rfl, o7⟩
  have RB7 := (unhide HRBx).keep o7 (fun e => e)
  have HO7 := hide o7
  have r0 : w7.cell? ⟨G, 0, none⟩ = some (.int .i64 0) := RB7.cell 0
  have r1 : w7.cell? ⟨G, 1, none⟩ = some (.int .i64 0) := RB7.cell 1
  have r2 : w7.cell? ⟨G, 2, none⟩ = some (.slice none 0 0) := RB7.cell 2
  have r3 : w7.cell? ⟨G, 3, none⟩ = some (.slice none 0 0) := RB7.cell 3
  have rf0 := RB7.free 0
  have rf1 := RB7.free 1
  have rf2 := RB7.free 2
  have rf3 := RB7.free 3
  have rl := RB7.lt
  have H5 := has_setAll [.int .i64 20, .int .i64 0, .slice none 0 0, .slice none 0 0] RB7 rfl
  have O5 := only_setW G [.int .i64 20, .int .i64 0, .slice none 0 0, .slice none 0 0] 0 w7
  have FF := hide (And.intro H5 (show MnP w k q w.heap.size H (M, Rs.err 20) (.returned (.agg #[.int .i64 20, .int .i64 0, .slice none 0 0, .slice none 0 0])) (setW G [.int .i64 20, .int .i64 0, .slice none 0 0, .slice none 0 0] 0 w7) from (MnP.fail (w3 := w1) (w5 := w1) (unhide HE0) (unhide HA).2.1 ⟨H, ((unhide HE0).quiet (unhide HA).2.1).mx, fun b hb => .inl hb⟩ (Only.refl _ _) (unhide HO7) O5 (unhide HG0) (unhide HG3) ⟨rfl, rfl, rfl⟩)))
  simp only [setW, Nat.zero_add, Nat.reduceAdd] at FF
  clear H5 O5
  clear CF o7 RB7
  go_wp2_with fail
  refine bodyPost_ret (sres_result rfl _ rfl (unhide FF).1 rfl) rfl ?_
  have hff := (unhide FF).2
  rw [unhide HG0] at hff
  exact hff
set_option maxRecDepth 100000 in
set_option maxHeartbeats 16000000 in
theorem smexec_syn (E : ME w k q M H) (hl : ¬ 256 < t.size) (hg : gdS s) (hp : parB t = false) : Calls Tryz.prog 128 #[.pointer (some ⟨k, 0, none⟩), .int .i64 s, .string t] w (MnP w k q w.heap.size H (exQ M s t)) := by
  have e1 : exQ M s t = (M, Rs.err 22) := by unfold exQ; rw [if_neg hl, if_neg (fun c => c hg), if_pos hp]
  rw [e1]
  have o1 : Only (fun _ => False) w (w.alloc (.cells #[.int .i64 0, .int .i64 0, .slice none 0 0, .slice none 0 0] 52)) := (Only.refl _ w).alloc _
  have N1 := Has.new w #[.int .i64 0, .int .i64 0, .slice none 0 0, .slice none 0 0] 52
  have HE0 := hide E
  have HA := hide (show Has (w.alloc (.cells #[.int .i64 0, .int .i64 0, .slice none 0 0, .slice none 0 0] 52)) w.heap.size #[.int .i64 0, .int .i64 0, .slice none 0 0, .slice none 0 0] 52 ∧ Only (fun _ => False) w (w.alloc (.cells #[.int .i64 0, .int .i64 0, .slice none 0 0, .slice none 0 0] 52)) ∧ w.heap.size < (w.alloc (.cells #[.int .i64 0, .int .i64 0, .slice none 0 0, .slice none 0 0] 52)).heap.size from ⟨N1, o1, N1.lt⟩)
  clear e1 o1 N1 E
  have b0 : ¬ ((t.size : Int) > 256) := by omega
  have CG := xgood_any s (w.alloc (.cells #[.int .i64 0, .int .i64 0, .slice none 0 0, .slice none 0 0] 52))
  rw [decide_eq_true hg] at CG
  have CG := hide CG
  clear hg hl
  have CP := hide (smparse_any t (w.alloc (.cells #[.int .i64 0, .int .i64 0, .slice none 0 0, .slice none 0 0] 52)))
  have Hp := hide hp
  clear hp
  go_enter Tryz.func128, Tryz.ntmps128
  go_upto_region 1 with fail
  generalize w.alloc (.cells #[.int .i64 0, .int .i64 0, .slice none 0 0, .slice none 0 0] 52) = w1 at *
  generalize hH : w.heap.size = G at *
  have HG0 := hide hH
  go_wp2_with fail
  refine (unhide CG).mono ?_
  rintro e w2 ⟨rfl, rfl⟩
  clear CG
  go_wp2_with fail
  refine (unhide CP).mono ?_
  rintro e w2 ⟨S, rfl, _, hone, o2⟩
  rw [unhide Hp]
  have HA2 := hide (And.intro ((unhide HA).1.keep o2 (fun e => e)) ((unhide HA).2.1.trans o2 (fun _ _ e => e)))
  have hz2 := Nat.lt_of_lt_of_le (unhide HA).2.2 o2.size
  clear HA CP o2
  rw [show tabV 12 S.cell = #[S.cell 0, S.cell 1, S.cell 2, S.cell 3, S.cell 4, S.cell 5, S.cell 6, S.cell 7, S.cell 8, S.cell 9, S.cell 10, S.cell 11] from rfl]
  have q0 := hone 0
  have q1 := hone 1
  have q2 := hone 2
  have q3 := hone 3
  have q4 := hone 4
  have q5 := hone 5
  have q6 := hone 6
  have q7 := hone 7
  have q8 := hone 8
  have q9 := hone 9
  have q10 := hone 10
  have q11 := hone 11
  generalize S.cell 0 = v0 at *
  generalize S.cell 1 = v1 at *
  generalize S.cell 2 = v2 at *
  generalize S.cell 3 = v3 at *
  generalize S.cell 4 = v4 at *
  generalize S.cell 5 = v5 at *
  generalize S.cell 6 = v6 at *
  generalize S.cell 7 = v7 at *
  generalize S.cell 8 = v8 at *
  generalize S.cell 9 = v9 at *
  generalize S.cell 10 = v10 at *
  generalize S.cell 11 = v11 at *
  clear hone
  have hs0 : ∀ (w : World) (a : Addr) m, (store a v0 m).run Tryz.prog w = stored Tryz.prog w a v0 m := fun w a m => run_store Tryz.prog w a _ m q0
  have hs1 : ∀ (w : World) (a : Addr) m, (store a v1 m).run Tryz.prog w = stored Tryz.prog w a v1 m := fun w a m => run_store Tryz.prog w a _ m q1
  have hs2 : ∀ (w : World) (a : Addr) m, (store a v2 m).run Tryz.prog w = stored Tryz.prog w a v2 m := fun w a m => run_store Tryz.prog w a _ m q2
  have hs3 : ∀ (w : World) (a : Addr) m, (store a v3 m).run Tryz.prog w = stored Tryz.prog w a v3 m := fun w a m => run_store Tryz.prog w a _ m q3
  have hs4 : ∀ (w : World) (a : Addr) m, (store a v4 m).run Tryz.prog w = stored Tryz.prog w a v4 m := fun w a m => run_store Tryz.prog w a _ m q4
  have hs5 : ∀ (w : World) (a : Addr) m, (store a v5 m).run Tryz.prog w = stored Tryz.prog w a v5 m := fun w a m => run_store Tryz.prog w a _ m q5
  have hs6 : ∀ (w : World) (a : Addr) m, (store a v6 m).run Tryz.prog w = stored Tryz.prog w a v6 m := fun w a m => run_store Tryz.prog w a _ m q6
  have hs7 : ∀ (w : World) (a : Addr) m, (store a v7 m).run Tryz.prog w = stored Tryz.prog w a v7 m := fun w a m => run_store Tryz.prog w a _ m q7
  have hs8 : ∀ (w : World) (a : Addr) m, (store a v8 m).run Tryz.prog w = stored Tryz.prog w a v8 m := fun w a m => run_store Tryz.prog w a _ m q8
  have hs9 : ∀ (w : World) (a : Addr) m, (store a v9 m).run Tryz.prog w = stored Tryz.prog w a v9 m := fun w a m => run_store Tryz.prog w a _ m q9
  have hs10 : ∀ (w : World) (a : Addr) m, (store a v10 m).run Tryz.prog w = stored Tryz.prog w a v10 m := fun w a m => run_store Tryz.prog w a _ m q10
  have hs11 : ∀ (w : World) (a : Addr) m, (store a v11 m).run Tryz.prog w = stored Tryz.prog w a v11 m := fun w a m => run_store Tryz.prog w a _ m q11
  have oP : Only (fun _ => False) w2 (w2.alloc (.cells #[v0, v1, v2, v3, v4, v5, v6, v7, v8, v9, v10, v11] 253)) := (Only.refl _ _).alloc _
  have HA := hide (And.intro ((unhide HA2).1.keep oP (fun e => e)) (And.intro ((unhide HA2).2.trans oP (fun _ _ e => e)) (Nat.lt_of_lt_of_le hz2 oP.size)))
  clear oP HA2
  go_upto_region 6 with fail
  generalize w2.alloc (.cells #[v0, v1, v2, v3, v4, v5, v6, v7, v8, v9, v10, v11] 253) = w3 at *
  have HRBx := hide (unhide HA).1
  have HG3 := hide (unhide HA).2.2
  have CF := hide (smfailE_any 22 w3)
  go_wp2_with fail
  refine (unhide CF).mono ?_
  rintro e w7 ⟨rfl, o7⟩
  have RB7 := (unhide HRBx).keep o7 (fun e => e)
  have HO7 := hide o7
  have r0 : w7.cell? ⟨G, 0, none⟩ = some (.int .i64 0) := RB7.cell 0
  have r1 : w7.cell? ⟨G, 1, none⟩ = some (.int .i64 0) := RB7.cell 1
  have r2 : w7.cell? ⟨G, 2, none⟩ = some (.slice none 0 0) := RB7.cell 2
  have r3 : w7.cell? ⟨G, 3, none⟩ = some (.slice none 0 0) := RB7.cell 3
  have rf0 := RB7.free 0
  have rf1 := RB7.free 1
  have rf2 := RB7.free 2
  have rf3 := RB7.free 3
  have rl := RB7.lt
  have H5 := has_setAll [.int .i64 22, .int .i64 0, .slice none 0 0, .slice none 0 0] RB7 rfl
  have O5 := only_setW G [.int .i64 22, .int .i64 0, .slice none 0 0, .slice none 0 0] 0 w7
  have FF := hide (And.intro H5 (show MnP w k q w.heap.size H (M, Rs.err 22) (.returned (.agg #[.int .i64 22, .int .i64 0, .slice none 0 0, .slice none 0 0])) (setW G [.int .i64 22, .int .i64 0, .slice none 0 0, .slice none 0 0] 0 w7) from (MnP.fail (w3 := w3) (w5 := w3) (unhide HE0) (unhide HA).2.1 ⟨H, ((unhide HE0).quiet (unhide HA).2.1).mx, fun b hb => .inl hb⟩ (Only.refl _ _) (unhide HO7) O5 (unhide HG0) (unhide HG3) ⟨rfl, rfl, rfl⟩)))
  simp only [setW, Nat.zero_add, Nat.reduceAdd] at FF
  clear H5 O5
  clear CF o7 RB7
  go_wp2_with fail
  refine bodyPost_ret (sres_result rfl _ rfl (unhide FF).1 rfl) rfl ?_
  have hff := (unhide FF).2
  rw [unhide HG0] at hff
  exact hff
set_option maxRecDepth 100000 in
set_option maxHeartbeats 16000000 in
theorem smexec_begin (E : ME w k q M H) (ok : MuOk M) (mq : MuQ M) (hl : ¬ 256 < t.size) (hg : gdS s) (hp : parB t = true) (hk : (parQ t).2.kind = 1) : Calls Tryz.prog 128 #[.pointer (some ⟨k, 0, none⟩), .int .i64 s, .string t] w (MnP w k q w.heap.size H (exQ M s t)) := by
  obtain ⟨st, hst⟩ : ∃ st, (parQ t).2 = st := ⟨_, rfl⟩
  have e1 : exQ M s t = stQ M s st := by unfold exQ; rw [if_neg hl, if_neg (fun c => c hg), hp, hst]; rfl
  have HOK := hide (show StOk st ∧ StB st ∧ StK st ∧ MuOk M ∧ MuQ M from by rw [← hst]; exact ⟨parQ_ok t, parQ_b (by omega), parQ_k hp, ok, mq⟩)
  have Hst := hide hst
  rw [hst] at hk
  obtain ⟨RR, hRR⟩ : ∃ r, stQ M s st = r := ⟨_, rfl⟩
  rw [e1, hRR]
  have HRR := hide hRR
  have o1 : Only (fun _ => False) w (w.alloc (.cells #[.int .i64 0, .int .i64 0, .slice none 0 0, .slice none 0 0] 52)) := (Only.refl _ w).alloc _
  have N1 := Has.new w #[.int .i64 0, .int .i64 0, .slice none 0 0, .slice none 0 0] 52
  have HE0 := hide E
  have HA := hide (show Has (w.alloc (.cells #[.int .i64 0, .int .i64 0, .slice none 0 0, .slice none 0 0] 52)) w.heap.size #[.int .i64 0, .int .i64 0, .slice none 0 0, .slice none 0 0] 52 ∧ Only (fun _ => False) w (w.alloc (.cells #[.int .i64 0, .int .i64 0, .slice none 0 0, .slice none 0 0] 52)) ∧ w.heap.size < (w.alloc (.cells #[.int .i64 0, .int .i64 0, .slice none 0 0, .slice none 0 0] 52)).heap.size from ⟨N1, o1, N1.lt⟩)
  have CG := xgood_any s (w.alloc (.cells #[.int .i64 0, .int .i64 0, .slice none 0 0, .slice none 0 0] 52))
  rw [decide_eq_true hg] at CG
  have CG := hide CG
  have b0 : ¬ ((t.size : Int) > 256) := by omega
  have CP := hide (smparse_any t (w.alloc (.cells #[.int .i64 0, .int .i64 0, .slice none 0 0, .slice none 0 0] 52)))
  have Hp := hide hp
  have HG := hide hg
  have HKD := hide hk
  clear e1 hRR hst o1 N1 E hl hg hp hk ok mq
  go_enter Tryz.func128, Tryz.ntmps128
  go_upto_region 1 with fail
  generalize w.alloc (.cells #[.int .i64 0, .int .i64 0, .slice none 0 0, .slice none 0 0] 52) = w1 at *
  generalize hH : w.heap.size = G at *
  have HG0 := hide hH
  go_wp2_with fail
  refine (unhide CG).mono ?_
  rintro e w2 ⟨rfl, rfl⟩
  clear CG
  go_wp2_with fail
  refine (unhide CP).mono ?_
  rintro e w2 ⟨S, rfl, hpp, _, o2⟩
  obtain ⟨hL, hO⟩ := hpp (unhide Hp)
  rw [unhide Hst] at hO
  rw [unhide Hp]
  obtain ⟨a2, n2, c2, a4, n4, c4, a5, n5, c5, a7, n7, c7, hcs⟩ := hO.cells_ hL
  have hcs : tabV 12 S.cell = #[.int .i64 1, .string st.table, .slice a2 n2 c2, .int .i64 st.pk, .slice a4 n4 c4, .slice a5 n5 c5, .bool st.star, .slice a7 n7 c7, .string st.order, .bool st.desc, .bool st.hasL, .int .i64 st.lim] := by
    have hk := unhide HKD
    rw [hcs, show (Ms.of st).kind = 1 from hk]
    rfl
  rw [hcs]
  have oP : Only (fun _ => False) w2 (w2.alloc (.cells #[.int .i64 1, .string st.table, .slice a2 n2 c2, .int .i64 st.pk, .slice a4 n4 c4, .slice a5 n5 c5, .bool st.star, .slice a7 n7 c7, .string st.order, .bool st.desc, .bool st.hasL, .int .i64 st.lim] 253)) := (Only.refl _ _).alloc _
  have NP := Has.new w2 #[.int .i64 1, .string st.table, .slice a2 n2 c2, .int .i64 st.pk, .slice a4 n4 c4, .slice a5 n5 c5, .bool st.star, .slice a7 n7 c7, .string st.order, .bool st.desc, .bool st.hasL, .int .i64 st.lim] 253
  have oA := ((unhide HA).2.1.trans o2 (fun _ _ e => e)).trans oP (fun _ _ e => e)
  have HX := hide (show Has (w2.alloc (.cells #[.int .i64 1, .string st.table, .slice a2 n2 c2, .int .i64 st.pk, .slice a4 n4 c4, .slice a5 n5 c5, .bool st.star, .slice a7 n7 c7, .string st.order, .bool st.desc, .bool st.hasL, .int .i64 st.lim] 253)) w2.heap.size #[.int .i64 1, .string st.table, .slice a2 n2 c2, .int .i64 st.pk, .slice a4 n4 c4, .slice a5 n5 c5, .bool st.star, .slice a7 n7 c7, .string st.order, .bool st.desc, .bool st.hasL, .int .i64 st.lim] 253 ∧ Has (w2.alloc (.cells #[.int .i64 1, .string st.table, .slice a2 n2 c2, .int .i64 st.pk, .slice a4 n4 c4, .slice a5 n5 c5, .bool st.star, .slice a7 n7 c7, .string st.order, .bool st.desc, .bool st.hasL, .int .i64 st.lim] 253)) G #[.int .i64 0, .int .i64 0, .slice none 0 0, .slice none 0 0] 52 ∧ ME (w2.alloc (.cells #[.int .i64 1, .string st.table, .slice a2 n2 c2, .int .i64 st.pk, .slice a4 n4 c4, .slice a5 n5 c5, .bool st.star, .slice a7 n7 c7, .string st.order, .bool st.desc, .bool st.hasL, .int .i64 st.lim] 253)) k q M H ∧ SML w1.heap.size (w2.alloc (.cells #[.int .i64 1, .string st.table, .slice a2 n2 c2, .int .i64 st.pk, .slice a4 n4 c4, .slice a5 n5 c5, .bool st.star, .slice a7 n7 c7, .string st.order, .bool st.desc, .bool st.hasL, .int .i64 st.lim] 253)) S ∧ SmOf S (Ms.of st) ∧ Only (fun _ => False) w (w2.alloc (.cells #[.int .i64 1, .string st.table, .slice a2 n2 c2, .int .i64 st.pk, .slice a4 n4 c4, .slice a5 n5 c5, .bool st.star, .slice a7 n7 c7, .string st.order, .bool st.desc, .bool st.hasL, .int .i64 st.lim] 253)) ∧ (∀ j, smj j → ∀ b, (S.cell j).ownBlock = some b → b < w2.heap.size) ∧ w2.heap.size < (w2.alloc (.cells #[.int .i64 1, .string st.table, .slice a2 n2 c2, .int .i64 st.pk, .slice a4 n4 c4, .slice a5 n5 c5, .bool st.star, .slice a7 n7 c7, .string st.order, .bool st.desc, .bool st.hasL, .int .i64 st.lim] 253)).heap.size ∧ G < w1.heap.size ∧ w1.heap.size ≤ w2.heap.size from ⟨NP, ((unhide HA).1.keep o2 (fun e => e)).keep oP (fun e => e), (unhide HE0).quiet oA, hL.quiet oP, hO, oA, fun j hj b hb => ownsRow_lt (hL.own j hj) b hb, NP.lt, (unhide HA).2.2, o2.size⟩)
  have HCS := hide hcs
  clear hL hO hcs oP NP oA o2 CP HA hpp
  go_upto_region 8 with fail
  generalize w2.alloc (.cells #[.int .i64 1, .string st.table, .slice a2 n2 c2, .int .i64 st.pk, .slice a4 n4 c4, .slice a5 n5 c5, .bool st.star, .slice a7 n7 c7, .string st.order, .bool st.desc, .bool st.hasL, .int .i64 st.lim] 253) = w3 at *
  generalize w2.heap.size = P at *
  have t0 : w3.cell? ⟨P, 0, none⟩ = some (.int .i64 1) := (unhide HX).1.cell 0
  have t1 : w3.cell? ⟨P, 1, none⟩ = some (.string st.table) := (unhide HX).1.cell 1
  have t2 : w3.cell? ⟨P, 2, none⟩ = some (.slice a2 n2 c2) := (unhide HX).1.cell 2
  have t3 : w3.cell? ⟨P, 3, none⟩ = some (.int .i64 st.pk) := (unhide HX).1.cell 3
  have t4 : w3.cell? ⟨P, 4, none⟩ = some (.slice a4 n4 c4) := (unhide HX).1.cell 4
  have t5 : w3.cell? ⟨P, 5, none⟩ = some (.slice a5 n5 c5) := (unhide HX).1.cell 5
  have t6 : w3.cell? ⟨P, 6, none⟩ = some (.bool st.star) := (unhide HX).1.cell 6
  have t7 : w3.cell? ⟨P, 7, none⟩ = some (.slice a7 n7 c7) := (unhide HX).1.cell 7
  have t8 : w3.cell? ⟨P, 8, none⟩ = some (.string st.order) := (unhide HX).1.cell 8
  have t9 : w3.cell? ⟨P, 9, none⟩ = some (.bool st.desc) := (unhide HX).1.cell 9
  have t10 : w3.cell? ⟨P, 10, none⟩ = some (.bool st.hasL) := (unhide HX).1.cell 10
  have t11 : w3.cell? ⟨P, 11, none⟩ = some (.int .i64 st.lim) := (unhide HX).1.cell 11
  have tl := (unhide HX).1.lt
  have e0 : w3.cell? ⟨k, 0, none⟩ = some (.pointer (some ⟨q, 0, none⟩)) := (unhide HX).2.2.1.has.cell 0
  have kl := (unhide HX).2.2.1.kl
  have CB := (xmbegin_any (unhide HX).2.2.1.mx s).mono (fun e w' h => ci_begin (unhide HX).2.2.1.mx (unhide HG) h)
  have hq : (if M.act s.toNat = true then (M, Rs.err 3) else (M.begin s.toNat, Rs.err 0)) = RR := by
    have hk := unhide HKD
    rw [← unhide HRR]; unfold stQ; rw [if_pos hk]
  have HLL := hide (show RR.2.cols = [] ∧ RR.2.rows = [] ∧ RR.2.n = 0 by rw [← hq]; split <;> exact ⟨rfl, rfl, rfl⟩)
  rw [hq] at CB
  obtain ⟨ze, hze⟩ : ∃ z, RR.2.e = z := ⟨_, rfl⟩
  have Hze := hide hze
  have CB : Calls Tryz.prog 185 #[.pointer (some ⟨q, 0, none⟩), .int .i64 s] w3 fun e w' => ∃ v, e = .returned v ∧ (v = .int .i64 ze ∧ (∃ H', MX w' q RR.1 H' ∧ ∀ b, H' b → H b ∨ w3.heap.size ≤ b) ∧ Only H w3 w') := CB.mono (fun e w' h => ⟨_, h.1, by rw [hze], h.2.1, h.2.2⟩)
  have CB := hide CB
  have HG3 := hide (show G < w3.heap.size from by have h := (unhide HX).2.2.2.2.2.2.2; omega)
  have nG := hide (show ¬ H G from fun c => by have := (unhide HE0).mx.lt G c; have := unhide HG0; omega)
  have nk := hide (unhide HE0).kH
  have nP := hide (show ¬ H P from fun c => by have := (unhide HE0).mx.lt P c; have := unhide HG0; have h := (unhide HX).2.2.2.2.2.2.2; omega)
  clear hq hze
  go_wp2_with fail
  refine (unhide CB).mono ?_
  rintro _ w5 ⟨_, rfl, rfl, h5, o5⟩
  have HH5 := hide h5
  have HO5 := hide o5
  have HRBx := hide ((unhide HX).2.1.keep o5 (unhide nG))
  clear CB h5 o5 t0 t1 t2 t3 t4 t5 t6 t7 t8 t9 t10 t11 tl e0 kl
  have HO7x := HO5
  have CF := hide (smfailE_any ze w5)
  go_wp2_with fail
  refine (unhide CF).mono ?_
  rintro e w7 ⟨rfl, o7⟩
  have RB7 := (unhide HRBx).keep o7 (fun e => e)
  have HO7 := hide o7
  have r0 : w7.cell? ⟨G, 0, none⟩ = some (.int .i64 0) := RB7.cell 0
  have r1 : w7.cell? ⟨G, 1, none⟩ = some (.int .i64 0) := RB7.cell 1
  have r2 : w7.cell? ⟨G, 2, none⟩ = some (.slice none 0 0) := RB7.cell 2
  have r3 : w7.cell? ⟨G, 3, none⟩ = some (.slice none 0 0) := RB7.cell 3
  have rf0 := RB7.free 0
  have rf1 := RB7.free 1
  have rf2 := RB7.free 2
  have rf3 := RB7.free 3
  have rl := RB7.lt
  have H5 := has_setAll [.int .i64 ze, .int .i64 0, .slice none 0 0, .slice none 0 0] RB7 rfl
  have O5 := only_setW G [.int .i64 ze, .int .i64 0, .slice none 0 0, .slice none 0 0] 0 w7
  have FF := hide (And.intro H5 (show MnP w k q w.heap.size H RR (.returned (.agg #[.int .i64 ze, .int .i64 0, .slice none 0 0, .slice none 0 0])) (setW G [.int .i64 ze, .int .i64 0, .slice none 0 0, .slice none 0 0] 0 w7) from (by
      have h := MnP.fail (w3 := w3) (w5 := w5) (unhide HE0) (unhide HX).2.2.2.2.2.1 (unhide HH5) (unhide HO7x) (unhide HO7) O5 (unhide HG0) (unhide HG3) (unhide HLL)
      rw [unhide Hze] at h
      exact h)))
  simp only [setW, Nat.zero_add, Nat.reduceAdd] at FF
  clear H5 O5
  clear CF o7 RB7
  go_wp2_with fail
  refine bodyPost_ret (sres_result rfl _ rfl (unhide FF).1 rfl) rfl ?_
  have hff := (unhide FF).2
  rw [unhide HG0] at hff
  exact hff
set_option maxRecDepth 100000 in
set_option maxHeartbeats 16000000 in
theorem smexec_commit (E : ME w k q M H) (ok : MuOk M) (mq : MuQ M) (hl : ¬ 256 < t.size) (hg : gdS s) (hp : parB t = true) (hk : (parQ t).2.kind = 2) : Calls Tryz.prog 128 #[.pointer (some ⟨k, 0, none⟩), .int .i64 s, .string t] w (MnP w k q w.heap.size H (exQ M s t)) := by
  obtain ⟨st, hst⟩ : ∃ st, (parQ t).2 = st := ⟨_, rfl⟩
  have e1 : exQ M s t = stQ M s st := by unfold exQ; rw [if_neg hl, if_neg (fun c => c hg), hp, hst]; rfl
  have HOK := hide (show StOk st ∧ StB st ∧ StK st ∧ MuOk M ∧ MuQ M from by rw [← hst]; exact ⟨parQ_ok t, parQ_b (by omega), parQ_k hp, ok, mq⟩)
  have Hst := hide hst
  rw [hst] at hk
  obtain ⟨RR, hRR⟩ : ∃ r, stQ M s st = r := ⟨_, rfl⟩
  rw [e1, hRR]
  have HRR := hide hRR
  have o1 : Only (fun _ => False) w (w.alloc (.cells #[.int .i64 0, .int .i64 0, .slice none 0 0, .slice none 0 0] 52)) := (Only.refl _ w).alloc _
  have N1 := Has.new w #[.int .i64 0, .int .i64 0, .slice none 0 0, .slice none 0 0] 52
  have HE0 := hide E
  have HA := hide (show Has (w.alloc (.cells #[.int .i64 0, .int .i64 0, .slice none 0 0, .slice none 0 0] 52)) w.heap.size #[.int .i64 0, .int .i64 0, .slice none 0 0, .slice none 0 0] 52 ∧ Only (fun _ => False) w (w.alloc (.cells #[.int .i64 0, .int .i64 0, .slice none 0 0, .slice none 0 0] 52)) ∧ w.heap.size < (w.alloc (.cells #[.int .i64 0, .int .i64 0, .slice none 0 0, .slice none 0 0] 52)).heap.size from ⟨N1, o1, N1.lt⟩)
  have CG := xgood_any s (w.alloc (.cells #[.int .i64 0, .int .i64 0, .slice none 0 0, .slice none 0 0] 52))
  rw [decide_eq_true hg] at CG
  have CG := hide CG
  have b0 : ¬ ((t.size : Int) > 256) := by omega
  have CP := hide (smparse_any t (w.alloc (.cells #[.int .i64 0, .int .i64 0, .slice none 0 0, .slice none 0 0] 52)))
  have Hp := hide hp
  have HG := hide hg
  have HKD := hide hk
  clear e1 hRR hst o1 N1 E hl hg hp hk ok mq
  go_enter Tryz.func128, Tryz.ntmps128
  go_upto_region 1 with fail
  generalize w.alloc (.cells #[.int .i64 0, .int .i64 0, .slice none 0 0, .slice none 0 0] 52) = w1 at *
  generalize hH : w.heap.size = G at *
  have HG0 := hide hH
  go_wp2_with fail
  refine (unhide CG).mono ?_
  rintro e w2 ⟨rfl, rfl⟩
  clear CG
  go_wp2_with fail
  refine (unhide CP).mono ?_
  rintro e w2 ⟨S, rfl, hpp, _, o2⟩
  obtain ⟨hL, hO⟩ := hpp (unhide Hp)
  rw [unhide Hst] at hO
  rw [unhide Hp]
  obtain ⟨a2, n2, c2, a4, n4, c4, a5, n5, c5, a7, n7, c7, hcs⟩ := hO.cells_ hL
  have hcs : tabV 12 S.cell = #[.int .i64 2, .string st.table, .slice a2 n2 c2, .int .i64 st.pk, .slice a4 n4 c4, .slice a5 n5 c5, .bool st.star, .slice a7 n7 c7, .string st.order, .bool st.desc, .bool st.hasL, .int .i64 st.lim] := by
    have hk := unhide HKD
    rw [hcs, show (Ms.of st).kind = 2 from hk]
    rfl
  rw [hcs]
  have oP : Only (fun _ => False) w2 (w2.alloc (.cells #[.int .i64 2, .string st.table, .slice a2 n2 c2, .int .i64 st.pk, .slice a4 n4 c4, .slice a5 n5 c5, .bool st.star, .slice a7 n7 c7, .string st.order, .bool st.desc, .bool st.hasL, .int .i64 st.lim] 253)) := (Only.refl _ _).alloc _
  have NP := Has.new w2 #[.int .i64 2, .string st.table, .slice a2 n2 c2, .int .i64 st.pk, .slice a4 n4 c4, .slice a5 n5 c5, .bool st.star, .slice a7 n7 c7, .string st.order, .bool st.desc, .bool st.hasL, .int .i64 st.lim] 253
  have oA := ((unhide HA).2.1.trans o2 (fun _ _ e => e)).trans oP (fun _ _ e => e)
  have HX := hide (show Has (w2.alloc (.cells #[.int .i64 2, .string st.table, .slice a2 n2 c2, .int .i64 st.pk, .slice a4 n4 c4, .slice a5 n5 c5, .bool st.star, .slice a7 n7 c7, .string st.order, .bool st.desc, .bool st.hasL, .int .i64 st.lim] 253)) w2.heap.size #[.int .i64 2, .string st.table, .slice a2 n2 c2, .int .i64 st.pk, .slice a4 n4 c4, .slice a5 n5 c5, .bool st.star, .slice a7 n7 c7, .string st.order, .bool st.desc, .bool st.hasL, .int .i64 st.lim] 253 ∧ Has (w2.alloc (.cells #[.int .i64 2, .string st.table, .slice a2 n2 c2, .int .i64 st.pk, .slice a4 n4 c4, .slice a5 n5 c5, .bool st.star, .slice a7 n7 c7, .string st.order, .bool st.desc, .bool st.hasL, .int .i64 st.lim] 253)) G #[.int .i64 0, .int .i64 0, .slice none 0 0, .slice none 0 0] 52 ∧ ME (w2.alloc (.cells #[.int .i64 2, .string st.table, .slice a2 n2 c2, .int .i64 st.pk, .slice a4 n4 c4, .slice a5 n5 c5, .bool st.star, .slice a7 n7 c7, .string st.order, .bool st.desc, .bool st.hasL, .int .i64 st.lim] 253)) k q M H ∧ SML w1.heap.size (w2.alloc (.cells #[.int .i64 2, .string st.table, .slice a2 n2 c2, .int .i64 st.pk, .slice a4 n4 c4, .slice a5 n5 c5, .bool st.star, .slice a7 n7 c7, .string st.order, .bool st.desc, .bool st.hasL, .int .i64 st.lim] 253)) S ∧ SmOf S (Ms.of st) ∧ Only (fun _ => False) w (w2.alloc (.cells #[.int .i64 2, .string st.table, .slice a2 n2 c2, .int .i64 st.pk, .slice a4 n4 c4, .slice a5 n5 c5, .bool st.star, .slice a7 n7 c7, .string st.order, .bool st.desc, .bool st.hasL, .int .i64 st.lim] 253)) ∧ (∀ j, smj j → ∀ b, (S.cell j).ownBlock = some b → b < w2.heap.size) ∧ w2.heap.size < (w2.alloc (.cells #[.int .i64 2, .string st.table, .slice a2 n2 c2, .int .i64 st.pk, .slice a4 n4 c4, .slice a5 n5 c5, .bool st.star, .slice a7 n7 c7, .string st.order, .bool st.desc, .bool st.hasL, .int .i64 st.lim] 253)).heap.size ∧ G < w1.heap.size ∧ w1.heap.size ≤ w2.heap.size from ⟨NP, ((unhide HA).1.keep o2 (fun e => e)).keep oP (fun e => e), (unhide HE0).quiet oA, hL.quiet oP, hO, oA, fun j hj b hb => ownsRow_lt (hL.own j hj) b hb, NP.lt, (unhide HA).2.2, o2.size⟩)
  have HCS := hide hcs
  clear hL hO hcs oP NP oA o2 CP HA hpp
  go_upto_region 8 with fail
  generalize w2.alloc (.cells #[.int .i64 2, .string st.table, .slice a2 n2 c2, .int .i64 st.pk, .slice a4 n4 c4, .slice a5 n5 c5, .bool st.star, .slice a7 n7 c7, .string st.order, .bool st.desc, .bool st.hasL, .int .i64 st.lim] 253) = w3 at *
  generalize w2.heap.size = P at *
  have t0 : w3.cell? ⟨P, 0, none⟩ = some (.int .i64 2) := (unhide HX).1.cell 0
  have t1 : w3.cell? ⟨P, 1, none⟩ = some (.string st.table) := (unhide HX).1.cell 1
  have t2 : w3.cell? ⟨P, 2, none⟩ = some (.slice a2 n2 c2) := (unhide HX).1.cell 2
  have t3 : w3.cell? ⟨P, 3, none⟩ = some (.int .i64 st.pk) := (unhide HX).1.cell 3
  have t4 : w3.cell? ⟨P, 4, none⟩ = some (.slice a4 n4 c4) := (unhide HX).1.cell 4
  have t5 : w3.cell? ⟨P, 5, none⟩ = some (.slice a5 n5 c5) := (unhide HX).1.cell 5
  have t6 : w3.cell? ⟨P, 6, none⟩ = some (.bool st.star) := (unhide HX).1.cell 6
  have t7 : w3.cell? ⟨P, 7, none⟩ = some (.slice a7 n7 c7) := (unhide HX).1.cell 7
  have t8 : w3.cell? ⟨P, 8, none⟩ = some (.string st.order) := (unhide HX).1.cell 8
  have t9 : w3.cell? ⟨P, 9, none⟩ = some (.bool st.desc) := (unhide HX).1.cell 9
  have t10 : w3.cell? ⟨P, 10, none⟩ = some (.bool st.hasL) := (unhide HX).1.cell 10
  have t11 : w3.cell? ⟨P, 11, none⟩ = some (.int .i64 st.lim) := (unhide HX).1.cell 11
  have tl := (unhide HX).1.lt
  have e0 : w3.cell? ⟨k, 0, none⟩ = some (.pointer (some ⟨q, 0, none⟩)) := (unhide HX).2.2.1.has.cell 0
  have kl := (unhide HX).2.2.1.kl
  have CB := (xmcommit_any (unhide HX).2.2.1.mx (unhide HOK).2.2.2.1 s).mono (fun e w' h => ci_end (unhide HX).2.2.1.mx (unhide HG) h)
  have hq : (if M.act s.toNat = true then (M.commit s.toNat, Rs.err 0) else (M, Rs.err 2)) = RR := by
    have hk := unhide HKD
    rw [← unhide HRR]; unfold stQ; rw [if_neg (show ¬ st.kind = 1 by rw [hk]; decide)]; rw [if_pos hk]
  have HLL := hide (show RR.2.cols = [] ∧ RR.2.rows = [] ∧ RR.2.n = 0 by rw [← hq]; split <;> exact ⟨rfl, rfl, rfl⟩)
  rw [hq] at CB
  obtain ⟨ze, hze⟩ : ∃ z, RR.2.e = z := ⟨_, rfl⟩
  have Hze := hide hze
  have CB : Calls Tryz.prog 186 #[.pointer (some ⟨q, 0, none⟩), .int .i64 s] w3 fun e w' => ∃ v, e = .returned v ∧ (v = .int .i64 ze ∧ (∃ H', MX w' q RR.1 H' ∧ ∀ b, H' b → H b ∨ w3.heap.size ≤ b) ∧ Only H w3 w') := CB.mono (fun e w' h => ⟨_, h.1, by rw [hze], h.2.1, h.2.2⟩)
  have CB := hide CB
  have HG3 := hide (show G < w3.heap.size from by have h := (unhide HX).2.2.2.2.2.2.2; omega)
  have nG := hide (show ¬ H G from fun c => by have := (unhide HE0).mx.lt G c; have := unhide HG0; omega)
  have nk := hide (unhide HE0).kH
  have nP := hide (show ¬ H P from fun c => by have := (unhide HE0).mx.lt P c; have := unhide HG0; have h := (unhide HX).2.2.2.2.2.2.2; omega)
  clear hq hze
  go_wp2_with fail
  refine (unhide CB).mono ?_
  rintro _ w5 ⟨_, rfl, rfl, h5, o5⟩
  have HH5 := hide h5
  have HO5 := hide o5
  have HRBx := hide ((unhide HX).2.1.keep o5 (unhide nG))
  clear CB h5 o5 t0 t1 t2 t3 t4 t5 t6 t7 t8 t9 t10 t11 tl e0 kl
  have HO7x := HO5
  have CF := hide (smfailE_any ze w5)
  go_wp2_with fail
  refine (unhide CF).mono ?_
  rintro e w7 ⟨rfl, o7⟩
  have RB7 := (unhide HRBx).keep o7 (fun e => e)
  have HO7 := hide o7
  have r0 : w7.cell? ⟨G, 0, none⟩ = some (.int .i64 0) := RB7.cell 0
  have r1 : w7.cell? ⟨G, 1, none⟩ = some (.int .i64 0) := RB7.cell 1
  have r2 : w7.cell? ⟨G, 2, none⟩ = some (.slice none 0 0) := RB7.cell 2
  have r3 : w7.cell? ⟨G, 3, none⟩ = some (.slice none 0 0) := RB7.cell 3
  have rf0 := RB7.free 0
  have rf1 := RB7.free 1
  have rf2 := RB7.free 2
  have rf3 := RB7.free 3
  have rl := RB7.lt
  have H5 := has_setAll [.int .i64 ze, .int .i64 0, .slice none 0 0, .slice none 0 0] RB7 rfl
  have O5 := only_setW G [.int .i64 ze, .int .i64 0, .slice none 0 0, .slice none 0 0] 0 w7
  have FF := hide (And.intro H5 (show MnP w k q w.heap.size H RR (.returned (.agg #[.int .i64 ze, .int .i64 0, .slice none 0 0, .slice none 0 0])) (setW G [.int .i64 ze, .int .i64 0, .slice none 0 0, .slice none 0 0] 0 w7) from (by
      have h := MnP.fail (w3 := w3) (w5 := w5) (unhide HE0) (unhide HX).2.2.2.2.2.1 (unhide HH5) (unhide HO7x) (unhide HO7) O5 (unhide HG0) (unhide HG3) (unhide HLL)
      rw [unhide Hze] at h
      exact h)))
  simp only [setW, Nat.zero_add, Nat.reduceAdd] at FF
  clear H5 O5
  clear CF o7 RB7
  go_wp2_with fail
  refine bodyPost_ret (sres_result rfl _ rfl (unhide FF).1 rfl) rfl ?_
  have hff := (unhide FF).2
  rw [unhide HG0] at hff
  exact hff
set_option maxRecDepth 100000 in
set_option maxHeartbeats 16000000 in
theorem smexec_roll (E : ME w k q M H) (ok : MuOk M) (mq : MuQ M) (hl : ¬ 256 < t.size) (hg : gdS s) (hp : parB t = true) (hk : (parQ t).2.kind = 3) : Calls Tryz.prog 128 #[.pointer (some ⟨k, 0, none⟩), .int .i64 s, .string t] w (MnP w k q w.heap.size H (exQ M s t)) := by
  obtain ⟨st, hst⟩ : ∃ st, (parQ t).2 = st := ⟨_, rfl⟩
  have e1 : exQ M s t = stQ M s st := by unfold exQ; rw [if_neg hl, if_neg (fun c => c hg), hp, hst]; rfl
  have HOK := hide (show StOk st ∧ StB st ∧ StK st ∧ MuOk M ∧ MuQ M from by rw [← hst]; exact ⟨parQ_ok t, parQ_b (by omega), parQ_k hp, ok, mq⟩)
  have Hst := hide hst
  rw [hst] at hk
  obtain ⟨RR, hRR⟩ : ∃ r, stQ M s st = r := ⟨_, rfl⟩
  rw [e1, hRR]
  have HRR := hide hRR
  have o1 : Only (fun _ => False) w (w.alloc (.cells #[.int .i64 0, .int .i64 0, .slice none 0 0, .slice none 0 0] 52)) := (Only.refl _ w).alloc _
  have N1 := Has.new w #[.int .i64 0, .int .i64 0, .slice none 0 0, .slice none 0 0] 52
  have HE0 := hide E
  have HA := hide (show Has (w.alloc (.cells #[.int .i64 0, .int .i64 0, .slice none 0 0, .slice none 0 0] 52)) w.heap.size #[.int .i64 0, .int .i64 0, .slice none 0 0, .slice none 0 0] 52 ∧ Only (fun _ => False) w (w.alloc (.cells #[.int .i64 0, .int .i64 0, .slice none 0 0, .slice none 0 0] 52)) ∧ w.heap.size < (w.alloc (.cells #[.int .i64 0, .int .i64 0, .slice none 0 0, .slice none 0 0] 52)).heap.size from ⟨N1, o1, N1.lt⟩)
  have CG := xgood_any s (w.alloc (.cells #[.int .i64 0, .int .i64 0, .slice none 0 0, .slice none 0 0] 52))
  rw [decide_eq_true hg] at CG
  have CG := hide CG
  have b0 : ¬ ((t.size : Int) > 256) := by omega
  have CP := hide (smparse_any t (w.alloc (.cells #[.int .i64 0, .int .i64 0, .slice none 0 0, .slice none 0 0] 52)))
  have Hp := hide hp
  have HG := hide hg
  have HKD := hide hk
  clear e1 hRR hst o1 N1 E hl hg hp hk ok mq
  go_enter Tryz.func128, Tryz.ntmps128
  go_upto_region 1 with fail
  generalize w.alloc (.cells #[.int .i64 0, .int .i64 0, .slice none 0 0, .slice none 0 0] 52) = w1 at *
  generalize hH : w.heap.size = G at *
  have HG0 := hide hH
  go_wp2_with fail
  refine (unhide CG).mono ?_
  rintro e w2 ⟨rfl, rfl⟩
  clear CG
  go_wp2_with fail
  refine (unhide CP).mono ?_
  rintro e w2 ⟨S, rfl, hpp, _, o2⟩
  obtain ⟨hL, hO⟩ := hpp (unhide Hp)
  rw [unhide Hst] at hO
  rw [unhide Hp]
  obtain ⟨a2, n2, c2, a4, n4, c4, a5, n5, c5, a7, n7, c7, hcs⟩ := hO.cells_ hL
  have hcs : tabV 12 S.cell = #[.int .i64 3, .string st.table, .slice a2 n2 c2, .int .i64 st.pk, .slice a4 n4 c4, .slice a5 n5 c5, .bool st.star, .slice a7 n7 c7, .string st.order, .bool st.desc, .bool st.hasL, .int .i64 st.lim] := by
    have hk := unhide HKD
    rw [hcs, show (Ms.of st).kind = 3 from hk]
    rfl
  rw [hcs]
  have oP : Only (fun _ => False) w2 (w2.alloc (.cells #[.int .i64 3, .string st.table, .slice a2 n2 c2, .int .i64 st.pk, .slice a4 n4 c4, .slice a5 n5 c5, .bool st.star, .slice a7 n7 c7, .string st.order, .bool st.desc, .bool st.hasL, .int .i64 st.lim] 253)) := (Only.refl _ _).alloc _
  have NP := Has.new w2 #[.int .i64 3, .string st.table, .slice a2 n2 c2, .int .i64 st.pk, .slice a4 n4 c4, .slice a5 n5 c5, .bool st.star, .slice a7 n7 c7, .string st.order, .bool st.desc, .bool st.hasL, .int .i64 st.lim] 253
  have oA := ((unhide HA).2.1.trans o2 (fun _ _ e => e)).trans oP (fun _ _ e => e)
  have HX := hide (show Has (w2.alloc (.cells #[.int .i64 3, .string st.table, .slice a2 n2 c2, .int .i64 st.pk, .slice a4 n4 c4, .slice a5 n5 c5, .bool st.star, .slice a7 n7 c7, .string st.order, .bool st.desc, .bool st.hasL, .int .i64 st.lim] 253)) w2.heap.size #[.int .i64 3, .string st.table, .slice a2 n2 c2, .int .i64 st.pk, .slice a4 n4 c4, .slice a5 n5 c5, .bool st.star, .slice a7 n7 c7, .string st.order, .bool st.desc, .bool st.hasL, .int .i64 st.lim] 253 ∧ Has (w2.alloc (.cells #[.int .i64 3, .string st.table, .slice a2 n2 c2, .int .i64 st.pk, .slice a4 n4 c4, .slice a5 n5 c5, .bool st.star, .slice a7 n7 c7, .string st.order, .bool st.desc, .bool st.hasL, .int .i64 st.lim] 253)) G #[.int .i64 0, .int .i64 0, .slice none 0 0, .slice none 0 0] 52 ∧ ME (w2.alloc (.cells #[.int .i64 3, .string st.table, .slice a2 n2 c2, .int .i64 st.pk, .slice a4 n4 c4, .slice a5 n5 c5, .bool st.star, .slice a7 n7 c7, .string st.order, .bool st.desc, .bool st.hasL, .int .i64 st.lim] 253)) k q M H ∧ SML w1.heap.size (w2.alloc (.cells #[.int .i64 3, .string st.table, .slice a2 n2 c2, .int .i64 st.pk, .slice a4 n4 c4, .slice a5 n5 c5, .bool st.star, .slice a7 n7 c7, .string st.order, .bool st.desc, .bool st.hasL, .int .i64 st.lim] 253)) S ∧ SmOf S (Ms.of st) ∧ Only (fun _ => False) w (w2.alloc (.cells #[.int .i64 3, .string st.table, .slice a2 n2 c2, .int .i64 st.pk, .slice a4 n4 c4, .slice a5 n5 c5, .bool st.star, .slice a7 n7 c7, .string st.order, .bool st.desc, .bool st.hasL, .int .i64 st.lim] 253)) ∧ (∀ j, smj j → ∀ b, (S.cell j).ownBlock = some b → b < w2.heap.size) ∧ w2.heap.size < (w2.alloc (.cells #[.int .i64 3, .string st.table, .slice a2 n2 c2, .int .i64 st.pk, .slice a4 n4 c4, .slice a5 n5 c5, .bool st.star, .slice a7 n7 c7, .string st.order, .bool st.desc, .bool st.hasL, .int .i64 st.lim] 253)).heap.size ∧ G < w1.heap.size ∧ w1.heap.size ≤ w2.heap.size from ⟨NP, ((unhide HA).1.keep o2 (fun e => e)).keep oP (fun e => e), (unhide HE0).quiet oA, hL.quiet oP, hO, oA, fun j hj b hb => ownsRow_lt (hL.own j hj) b hb, NP.lt, (unhide HA).2.2, o2.size⟩)
  have HCS := hide hcs
  clear hL hO hcs oP NP oA o2 CP HA hpp
  go_upto_region 8 with fail
  generalize w2.alloc (.cells #[.int .i64 3, .string st.table, .slice a2 n2 c2, .int .i64 st.pk, .slice a4 n4 c4, .slice a5 n5 c5, .bool st.star, .slice a7 n7 c7, .string st.order, .bool st.desc, .bool st.hasL, .int .i64 st.lim] 253) = w3 at *
  generalize w2.heap.size = P at *
  have t0 : w3.cell? ⟨P, 0, none⟩ = some (.int .i64 3) := (unhide HX).1.cell 0
  have t1 : w3.cell? ⟨P, 1, none⟩ = some (.string st.table) := (unhide HX).1.cell 1
  have t2 : w3.cell? ⟨P, 2, none⟩ = some (.slice a2 n2 c2) := (unhide HX).1.cell 2
  have t3 : w3.cell? ⟨P, 3, none⟩ = some (.int .i64 st.pk) := (unhide HX).1.cell 3
  have t4 : w3.cell? ⟨P, 4, none⟩ = some (.slice a4 n4 c4) := (unhide HX).1.cell 4
  have t5 : w3.cell? ⟨P, 5, none⟩ = some (.slice a5 n5 c5) := (unhide HX).1.cell 5
  have t6 : w3.cell? ⟨P, 6, none⟩ = some (.bool st.star) := (unhide HX).1.cell 6
  have t7 : w3.cell? ⟨P, 7, none⟩ = some (.slice a7 n7 c7) := (unhide HX).1.cell 7
  have t8 : w3.cell? ⟨P, 8, none⟩ = some (.string st.order) := (unhide HX).1.cell 8
  have t9 : w3.cell? ⟨P, 9, none⟩ = some (.bool st.desc) := (unhide HX).1.cell 9
  have t10 : w3.cell? ⟨P, 10, none⟩ = some (.bool st.hasL) := (unhide HX).1.cell 10
  have t11 : w3.cell? ⟨P, 11, none⟩ = some (.int .i64 st.lim) := (unhide HX).1.cell 11
  have tl := (unhide HX).1.lt
  have e0 : w3.cell? ⟨k, 0, none⟩ = some (.pointer (some ⟨q, 0, none⟩)) := (unhide HX).2.2.1.has.cell 0
  have kl := (unhide HX).2.2.1.kl
  have CB := (xmroll_any (unhide HX).2.2.1.mx s).mono (fun e w' h => ci_end (unhide HX).2.2.1.mx (unhide HG) h)
  have hq : (if M.act s.toNat = true then (M.roll s.toNat, Rs.err 0) else (M, Rs.err 2)) = RR := by
    have hk := unhide HKD
    rw [← unhide HRR]; unfold stQ; rw [if_neg (show ¬ st.kind = 1 by rw [hk]; decide)]; rw [if_neg (show ¬ st.kind = 2 by rw [hk]; decide)]; rw [if_pos hk]
  have HLL := hide (show RR.2.cols = [] ∧ RR.2.rows = [] ∧ RR.2.n = 0 by rw [← hq]; split <;> exact ⟨rfl, rfl, rfl⟩)
  rw [hq] at CB
  obtain ⟨ze, hze⟩ : ∃ z, RR.2.e = z := ⟨_, rfl⟩
  have Hze := hide hze
  have CB : Calls Tryz.prog 187 #[.pointer (some ⟨q, 0, none⟩), .int .i64 s] w3 fun e w' => ∃ v, e = .returned v ∧ (v = .int .i64 ze ∧ (∃ H', MX w' q RR.1 H' ∧ ∀ b, H' b → H b ∨ w3.heap.size ≤ b) ∧ Only H w3 w') := CB.mono (fun e w' h => ⟨_, h.1, by rw [hze], h.2.1, h.2.2⟩)
  have CB := hide CB
  have HG3 := hide (show G < w3.heap.size from by have h := (unhide HX).2.2.2.2.2.2.2; omega)
  have nG := hide (show ¬ H G from fun c => by have := (unhide HE0).mx.lt G c; have := unhide HG0; omega)
  have nk := hide (unhide HE0).kH
  have nP := hide (show ¬ H P from fun c => by have := (unhide HE0).mx.lt P c; have := unhide HG0; have h := (unhide HX).2.2.2.2.2.2.2; omega)
  clear hq hze
  go_wp2_with fail
  refine (unhide CB).mono ?_
  rintro _ w5 ⟨_, rfl, rfl, h5, o5⟩
  have HH5 := hide h5
  have HO5 := hide o5
  have HRBx := hide ((unhide HX).2.1.keep o5 (unhide nG))
  clear CB h5 o5 t0 t1 t2 t3 t4 t5 t6 t7 t8 t9 t10 t11 tl e0 kl
  have HO7x := HO5
  have CF := hide (smfailE_any ze w5)
  go_wp2_with fail
  refine (unhide CF).mono ?_
  rintro e w7 ⟨rfl, o7⟩
  have RB7 := (unhide HRBx).keep o7 (fun e => e)
  have HO7 := hide o7
  have r0 : w7.cell? ⟨G, 0, none⟩ = some (.int .i64 0) := RB7.cell 0
  have r1 : w7.cell? ⟨G, 1, none⟩ = some (.int .i64 0) := RB7.cell 1
  have r2 : w7.cell? ⟨G, 2, none⟩ = some (.slice none 0 0) := RB7.cell 2
  have r3 : w7.cell? ⟨G, 3, none⟩ = some (.slice none 0 0) := RB7.cell 3
  have rf0 := RB7.free 0
  have rf1 := RB7.free 1
  have rf2 := RB7.free 2
  have rf3 := RB7.free 3
  have rl := RB7.lt
  have H5 := has_setAll [.int .i64 ze, .int .i64 0, .slice none 0 0, .slice none 0 0] RB7 rfl
  have O5 := only_setW G [.int .i64 ze, .int .i64 0, .slice none 0 0, .slice none 0 0] 0 w7
  have FF := hide (And.intro H5 (show MnP w k q w.heap.size H RR (.returned (.agg #[.int .i64 ze, .int .i64 0, .slice none 0 0, .slice none 0 0])) (setW G [.int .i64 ze, .int .i64 0, .slice none 0 0, .slice none 0 0] 0 w7) from (by
      have h := MnP.fail (w3 := w3) (w5 := w5) (unhide HE0) (unhide HX).2.2.2.2.2.1 (unhide HH5) (unhide HO7x) (unhide HO7) O5 (unhide HG0) (unhide HG3) (unhide HLL)
      rw [unhide Hze] at h
      exact h)))
  simp only [setW, Nat.zero_add, Nat.reduceAdd] at FF
  clear H5 O5
  clear CF o7 RB7
  go_wp2_with fail
  refine bodyPost_ret (sres_result rfl _ rfl (unhide FF).1 rfl) rfl ?_
  have hff := (unhide FF).2
  rw [unhide HG0] at hff
  exact hff
set_option maxRecDepth 100000 in
set_option maxHeartbeats 16000000 in
theorem smexec_create (E : ME w k q M H) (ok : MuOk M) (mq : MuQ M) (hl : ¬ 256 < t.size) (hg : gdS s) (hp : parB t = true) (hk : (parQ t).2.kind = 4) : Calls Tryz.prog 128 #[.pointer (some ⟨k, 0, none⟩), .int .i64 s, .string t] w (MnP w k q w.heap.size H (exQ M s t)) := by
  obtain ⟨st, hst⟩ : ∃ st, (parQ t).2 = st := ⟨_, rfl⟩
  have e1 : exQ M s t = stQ M s st := by unfold exQ; rw [if_neg hl, if_neg (fun c => c hg), hp, hst]; rfl
  have HOK := hide (show StOk st ∧ StB st ∧ StK st ∧ MuOk M ∧ MuQ M from by rw [← hst]; exact ⟨parQ_ok t, parQ_b (by omega), parQ_k hp, ok, mq⟩)
  have Hst := hide hst
  rw [hst] at hk
  obtain ⟨RR, hRR⟩ : ∃ r, stQ M s st = r := ⟨_, rfl⟩
  rw [e1, hRR]
  have HRR := hide hRR
  have o1 : Only (fun _ => False) w (w.alloc (.cells #[.int .i64 0, .int .i64 0, .slice none 0 0, .slice none 0 0] 52)) := (Only.refl _ w).alloc _
  have N1 := Has.new w #[.int .i64 0, .int .i64 0, .slice none 0 0, .slice none 0 0] 52
  have HE0 := hide E
  have HA := hide (show Has (w.alloc (.cells #[.int .i64 0, .int .i64 0, .slice none 0 0, .slice none 0 0] 52)) w.heap.size #[.int .i64 0, .int .i64 0, .slice none 0 0, .slice none 0 0] 52 ∧ Only (fun _ => False) w (w.alloc (.cells #[.int .i64 0, .int .i64 0, .slice none 0 0, .slice none 0 0] 52)) ∧ w.heap.size < (w.alloc (.cells #[.int .i64 0, .int .i64 0, .slice none 0 0, .slice none 0 0] 52)).heap.size from ⟨N1, o1, N1.lt⟩)
  have CG := xgood_any s (w.alloc (.cells #[.int .i64 0, .int .i64 0, .slice none 0 0, .slice none 0 0] 52))
  rw [decide_eq_true hg] at CG
  have CG := hide CG
  have b0 : ¬ ((t.size : Int) > 256) := by omega
  have CP := hide (smparse_any t (w.alloc (.cells #[.int .i64 0, .int .i64 0, .slice none 0 0, .slice none 0 0] 52)))
  have Hp := hide hp
  have HG := hide hg
  have HKD := hide hk
  clear e1 hRR hst o1 N1 E hl hg hp hk ok mq
  go_enter Tryz.func128, Tryz.ntmps128
  go_upto_region 1 with fail
  generalize w.alloc (.cells #[.int .i64 0, .int .i64 0, .slice none 0 0, .slice none 0 0] 52) = w1 at *
  generalize hH : w.heap.size = G at *
  have HG0 := hide hH
  go_wp2_with fail
  refine (unhide CG).mono ?_
  rintro e w2 ⟨rfl, rfl⟩
  clear CG
  go_wp2_with fail
  refine (unhide CP).mono ?_
  rintro e w2 ⟨S, rfl, hpp, _, o2⟩
  obtain ⟨hL, hO⟩ := hpp (unhide Hp)
  rw [unhide Hst] at hO
  rw [unhide Hp]
  obtain ⟨a2, n2, c2, a4, n4, c4, a5, n5, c5, a7, n7, c7, hcs⟩ := hO.cells_ hL
  have hcs : tabV 12 S.cell = #[.int .i64 4, .string st.table, .slice a2 n2 c2, .int .i64 st.pk, .slice a4 n4 c4, .slice a5 n5 c5, .bool st.star, .slice a7 n7 c7, .string st.order, .bool st.desc, .bool st.hasL, .int .i64 st.lim] := by
    have hk := unhide HKD
    rw [hcs, show (Ms.of st).kind = 4 from hk]
    rfl
  rw [hcs]
  have oP : Only (fun _ => False) w2 (w2.alloc (.cells #[.int .i64 4, .string st.table, .slice a2 n2 c2, .int .i64 st.pk, .slice a4 n4 c4, .slice a5 n5 c5, .bool st.star, .slice a7 n7 c7, .string st.order, .bool st.desc, .bool st.hasL, .int .i64 st.lim] 253)) := (Only.refl _ _).alloc _
  have NP := Has.new w2 #[.int .i64 4, .string st.table, .slice a2 n2 c2, .int .i64 st.pk, .slice a4 n4 c4, .slice a5 n5 c5, .bool st.star, .slice a7 n7 c7, .string st.order, .bool st.desc, .bool st.hasL, .int .i64 st.lim] 253
  have oA := ((unhide HA).2.1.trans o2 (fun _ _ e => e)).trans oP (fun _ _ e => e)
  have HX := hide (show Has (w2.alloc (.cells #[.int .i64 4, .string st.table, .slice a2 n2 c2, .int .i64 st.pk, .slice a4 n4 c4, .slice a5 n5 c5, .bool st.star, .slice a7 n7 c7, .string st.order, .bool st.desc, .bool st.hasL, .int .i64 st.lim] 253)) w2.heap.size #[.int .i64 4, .string st.table, .slice a2 n2 c2, .int .i64 st.pk, .slice a4 n4 c4, .slice a5 n5 c5, .bool st.star, .slice a7 n7 c7, .string st.order, .bool st.desc, .bool st.hasL, .int .i64 st.lim] 253 ∧ Has (w2.alloc (.cells #[.int .i64 4, .string st.table, .slice a2 n2 c2, .int .i64 st.pk, .slice a4 n4 c4, .slice a5 n5 c5, .bool st.star, .slice a7 n7 c7, .string st.order, .bool st.desc, .bool st.hasL, .int .i64 st.lim] 253)) G #[.int .i64 0, .int .i64 0, .slice none 0 0, .slice none 0 0] 52 ∧ ME (w2.alloc (.cells #[.int .i64 4, .string st.table, .slice a2 n2 c2, .int .i64 st.pk, .slice a4 n4 c4, .slice a5 n5 c5, .bool st.star, .slice a7 n7 c7, .string st.order, .bool st.desc, .bool st.hasL, .int .i64 st.lim] 253)) k q M H ∧ SML w1.heap.size (w2.alloc (.cells #[.int .i64 4, .string st.table, .slice a2 n2 c2, .int .i64 st.pk, .slice a4 n4 c4, .slice a5 n5 c5, .bool st.star, .slice a7 n7 c7, .string st.order, .bool st.desc, .bool st.hasL, .int .i64 st.lim] 253)) S ∧ SmOf S (Ms.of st) ∧ Only (fun _ => False) w (w2.alloc (.cells #[.int .i64 4, .string st.table, .slice a2 n2 c2, .int .i64 st.pk, .slice a4 n4 c4, .slice a5 n5 c5, .bool st.star, .slice a7 n7 c7, .string st.order, .bool st.desc, .bool st.hasL, .int .i64 st.lim] 253)) ∧ (∀ j, smj j → ∀ b, (S.cell j).ownBlock = some b → b < w2.heap.size) ∧ w2.heap.size < (w2.alloc (.cells #[.int .i64 4, .string st.table, .slice a2 n2 c2, .int .i64 st.pk, .slice a4 n4 c4, .slice a5 n5 c5, .bool st.star, .slice a7 n7 c7, .string st.order, .bool st.desc, .bool st.hasL, .int .i64 st.lim] 253)).heap.size ∧ G < w1.heap.size ∧ w1.heap.size ≤ w2.heap.size from ⟨NP, ((unhide HA).1.keep o2 (fun e => e)).keep oP (fun e => e), (unhide HE0).quiet oA, hL.quiet oP, hO, oA, fun j hj b hb => ownsRow_lt (hL.own j hj) b hb, NP.lt, (unhide HA).2.2, o2.size⟩)
  have HCS := hide hcs
  clear hL hO hcs oP NP oA o2 CP HA hpp
  go_upto_region 8 with fail
  generalize w2.alloc (.cells #[.int .i64 4, .string st.table, .slice a2 n2 c2, .int .i64 st.pk, .slice a4 n4 c4, .slice a5 n5 c5, .bool st.star, .slice a7 n7 c7, .string st.order, .bool st.desc, .bool st.hasL, .int .i64 st.lim] 253) = w3 at *
  generalize w2.heap.size = P at *
  have t0 : w3.cell? ⟨P, 0, none⟩ = some (.int .i64 4) := (unhide HX).1.cell 0
  have t1 : w3.cell? ⟨P, 1, none⟩ = some (.string st.table) := (unhide HX).1.cell 1
  have t2 : w3.cell? ⟨P, 2, none⟩ = some (.slice a2 n2 c2) := (unhide HX).1.cell 2
  have t3 : w3.cell? ⟨P, 3, none⟩ = some (.int .i64 st.pk) := (unhide HX).1.cell 3
  have t4 : w3.cell? ⟨P, 4, none⟩ = some (.slice a4 n4 c4) := (unhide HX).1.cell 4
  have t5 : w3.cell? ⟨P, 5, none⟩ = some (.slice a5 n5 c5) := (unhide HX).1.cell 5
  have t6 : w3.cell? ⟨P, 6, none⟩ = some (.bool st.star) := (unhide HX).1.cell 6
  have t7 : w3.cell? ⟨P, 7, none⟩ = some (.slice a7 n7 c7) := (unhide HX).1.cell 7
  have t8 : w3.cell? ⟨P, 8, none⟩ = some (.string st.order) := (unhide HX).1.cell 8
  have t9 : w3.cell? ⟨P, 9, none⟩ = some (.bool st.desc) := (unhide HX).1.cell 9
  have t10 : w3.cell? ⟨P, 10, none⟩ = some (.bool st.hasL) := (unhide HX).1.cell 10
  have t11 : w3.cell? ⟨P, 11, none⟩ = some (.int .i64 st.lim) := (unhide HX).1.cell 11
  have tl := (unhide HX).1.lt
  have e0 : w3.cell? ⟨k, 0, none⟩ = some (.pointer (some ⟨q, 0, none⟩)) := (unhide HX).2.2.1.has.cell 0
  have kl := (unhide HX).2.2.1.kl
  have hC : OwnC w3.drew (.slice a2 n2 c2) st.defs := by
    have x2 := ((unhide HX).2.2.2.1.quiet ((Only.refl (fun _ => False) w3).drew)).own 2 (by unfold smj; omega)
    have q2 : S.cell 2 = .slice a2 n2 c2 := by
      have := congrArg (·[2]?) (unhide HCS)
      simpa [tabV_get] using this
    rw [q2, (unhide HX).2.2.2.2.1.x2.1, (unhide HX).2.2.2.2.1.x2.2] at x2
    exact x2
  have CB := (xmcreate_any ((unhide HX).2.2.1.quiet ((Only.refl (fun _ => False) w3).drew)).mx s st.table hC st.pk).mono (fun e w' h => ci_sch h)
  have hq : schQ M s (crtD M.com st.table st.defs st.pk) = RR := by
    have hk := unhide HKD
    rw [← unhide HRR]; unfold stQ; rw [if_neg (show ¬ st.kind = 1 by rw [hk]; decide)]; rw [if_neg (show ¬ st.kind = 2 by rw [hk]; decide)]; rw [if_neg (show ¬ st.kind = 3 by rw [hk]; decide)]; rw [if_pos hk]
  have HLL := hide (show RR.2.cols = [] ∧ RR.2.rows = [] ∧ RR.2.n = 0 by rw [← hq]; unfold schQ; split; exact ⟨rfl, rfl, rfl⟩; split <;> exact ⟨rfl, rfl, rfl⟩)
  rw [hq] at CB
  obtain ⟨ze, hze⟩ : ∃ z, RR.2.e = z := ⟨_, rfl⟩
  have Hze := hide hze
  have CB : Calls Tryz.prog 188 #[.pointer (some ⟨q, 0, none⟩), .int .i64 s, .string st.table, .slice a2 n2 c2, .int .i64 st.pk] w3.drew fun e w' => ∃ v, e = .returned v ∧ (v = .int .i64 ze ∧ (∃ H', MX w' q RR.1 H' ∧ ∀ b, H' b → H b ∨ w3.drew.heap.size ≤ b) ∧ Only H w3.drew w') := CB.mono (fun e w' h => ⟨_, h.1, by rw [hze], h.2.1, h.2.2⟩)
  have CB := hide CB
  have HG3 := hide (show G < w3.heap.size from by have h := (unhide HX).2.2.2.2.2.2.2; omega)
  have nG := hide (show ¬ H G from fun c => by have := (unhide HE0).mx.lt G c; have := unhide HG0; omega)
  have nk := hide (unhide HE0).kH
  have nP := hide (show ¬ H P from fun c => by have := (unhide HE0).mx.lt P c; have := unhide HG0; have h := (unhide HX).2.2.2.2.2.2.2; omega)
  clear hq hze hC
  go_upto_region 18 with fail
  refine wp_region_held_drew (S := (fun w' => w'.cell? ⟨k, 0, none⟩ = some (.pointer (some ⟨q, 0, none⟩)) ∧ w'.cell? ⟨P, 1, none⟩ = some (.string st.table) ∧ w'.cell? ⟨P, 2, none⟩ = some (.slice a2 n2 c2) ∧ w'.cell? ⟨P, 3, none⟩ = some (.int .i64 st.pk))) (by kernel_rfl) ⟨e0, t1, t2, t3⟩ (fun hH0 => ?_)
  refine takeH 0 59 (v := ?vd41) rfl rfl (by kernel_rfl) (by kernel_rfl) (by kernel_rfl) (fun _ _ _ h => h) (Or.inl ⟨by rfl, ?hd41⟩) hH0 ?rd41
  case hd41 => (intro w hSw; clear hSw; go_simp; (try with_reducible rfl))
  case rd41 =>
  try simp only [Act.put, List.setIfInBounds_toArray, List.set_cons_zero, List.set_cons_succ]
  refine takeH 1 60 (v := ?vd42) rfl rfl (by kernel_rfl) (by kernel_rfl) (by kernel_rfl) (fun _ _ _ h => h) (Or.inl ⟨by rfl, ?hd42⟩) hH0 ?rd42
  case hd42 => (intro w hSw; clear hSw; go_simp; (try with_reducible rfl))
  case rd42 =>
  try simp only [Act.put, List.setIfInBounds_toArray, List.set_cons_zero, List.set_cons_succ]
  refine takeH 2 61 (v := ?vd43) rfl rfl (by kernel_rfl) (by kernel_rfl) (by kernel_rfl) (fun _ _ _ h => h) (Or.inl ⟨by rfl, ?hd43⟩) hH0 ?rd43
  case hd43 => (intro w hSw; clear hSw; go_simp; (try with_reducible rfl))
  case rd43 =>
  try simp only [Act.put, List.setIfInBounds_toArray, List.set_cons_zero, List.set_cons_succ]
  refine takeH 3 62 (v := ?vd44) rfl rfl (by kernel_rfl) (by kernel_rfl) (by kernel_rfl) (fun _ _ _ h => h) (Or.inl ⟨by rfl, ?hd44⟩) hH0 ?rd44
  case hd44 => (intro w hSw; obtain ⟨s0, s1, s2, s3⟩ := hSw; go_simp; (try with_reducible rfl))
  case rd44 =>
  try simp only [Act.put, List.setIfInBounds_toArray, List.set_cons_zero, List.set_cons_succ]
  refine takeH 4 63 (v := ?vd45) rfl rfl (by kernel_rfl) (by kernel_rfl) (by kernel_rfl) (fun _ _ _ h => h) (Or.inl ⟨by rfl, ?hd45⟩) hH0 ?rd45
  case hd45 => (intro w hSw; clear hSw; go_simp; (try with_reducible rfl))
  case rd45 =>
  try simp only [Act.put, List.setIfInBounds_toArray, List.set_cons_zero, List.set_cons_succ]
  refine takeH 5 64 (v := ?vd46) rfl rfl (by kernel_rfl) (by kernel_rfl) (by kernel_rfl) (fun _ _ _ h => h) (Or.inl ⟨by rfl, ?hd46⟩) hH0 ?rd46
  case hd46 => (intro w hSw; clear hSw; go_simp; (try with_reducible rfl))
  case rd46 =>
  try simp only [Act.put, List.setIfInBounds_toArray, List.set_cons_zero, List.set_cons_succ]
  refine takeH 6 65 (v := ?vd47) rfl rfl (by kernel_rfl) (by kernel_rfl) (by kernel_rfl) (fun _ _ _ h => h) (Or.inl ⟨by rfl, ?hd47⟩) hH0 ?rd47
  case hd47 => (intro w hSw; obtain ⟨s0, s1, s2, s3⟩ := hSw; go_simp; (try with_reducible rfl))
  case rd47 =>
  try simp only [Act.put, List.setIfInBounds_toArray, List.set_cons_zero, List.set_cons_succ]
  refine takeH 7 66 (v := ?vd48) rfl rfl (by kernel_rfl) (by kernel_rfl) (by kernel_rfl) (fun _ _ _ h => h) (Or.inl ⟨by rfl, ?hd48⟩) hH0 ?rd48
  case hd48 => (intro w hSw; clear hSw; go_simp; (try with_reducible rfl))
  case rd48 =>
  try simp only [Act.put, List.setIfInBounds_toArray, List.set_cons_zero, List.set_cons_succ]
  refine takeH 8 67 (v := ?vd49) rfl rfl (by kernel_rfl) (by kernel_rfl) (by kernel_rfl) (fun _ _ _ h => h) (Or.inl ⟨by rfl, ?hd49⟩) hH0 ?rd49
  case hd49 => (intro w hSw; obtain ⟨s0, s1, s2, s3⟩ := hSw; go_simp; (try with_reducible rfl))
  case rd49 =>
  try simp only [Act.put, List.setIfInBounds_toArray, List.set_cons_zero, List.set_cons_succ]
  refine takeH 9 68 (v := ?vd410) rfl rfl (by kernel_rfl) (by kernel_rfl) (by kernel_rfl) (fun _ _ _ h => h) (Or.inl ⟨by rfl, ?hd410⟩) hH0 ?rd410
  case hd410 => (intro w hSw; clear hSw; go_simp; (try with_reducible rfl))
  case rd410 =>
  try simp only [Act.put, List.setIfInBounds_toArray, List.set_cons_zero, List.set_cons_succ]
  refine takeH 10 69 (v := ?vd411) rfl rfl (by kernel_rfl) (by kernel_rfl) (by kernel_rfl) (fun _ _ _ h => h) (Or.inl ⟨by rfl, ?hd411⟩) hH0 ?rd411
  case hd411 => (intro w hSw; obtain ⟨s0, s1, s2, s3⟩ := hSw; go_simp; (try with_reducible rfl))
  case rd411 =>
  try simp only [Act.put, List.setIfInBounds_toArray, List.set_cons_zero, List.set_cons_succ]
  refine callH 11 (by kernel_rfl) rfl 70 rfl rfl 188 Tryz.func188 (by kernel_rfl) (by kernel_rfl) #[.tmp 62, .tmp 63, .tmp 65, .tmp 67, .tmp 69] #[104, 3, 9, 77, 3] rfl #[.pointer (some ⟨q, 0, none⟩), .int .i64 s, .string st.table, .slice a2 n2 c2, .int .i64 st.pk] (by simp [Act.eval]) (R := fun v w' => v = .int .i64 ze ∧ (∃ H', MX w' q RR.1 H' ∧ ∀ b, H' b → H b ∨ w3.drew.heap.size ≤ b) ∧ Only H w3.drew w') (unhide CB) ?kd4
  case kd4 =>
  rintro _ w6 ⟨rfl, h5, o6⟩
  have S6 : w6.cell? ⟨k, 0, none⟩ = some (.pointer (some ⟨q, 0, none⟩)) ∧ w6.cell? ⟨P, 1, none⟩ = some (.string st.table) ∧ w6.cell? ⟨P, 2, none⟩ = some (.slice a2 n2 c2) ∧ w6.cell? ⟨P, 3, none⟩ = some (.int .i64 st.pk) := ⟨cell_keep (hH0.1) o6 (unhide nk), cell_keep (hH0.2.1) o6 (unhide nP), cell_keep (hH0.2.2.1) o6 (unhide nP), cell_keep (hH0.2.2.2) o6 (unhide nP)⟩
  refine ⟨S6, ?_⟩
  try simp only [Act.put, List.setIfInBounds_toArray, List.set_cons_zero, List.set_cons_succ]
  refine takeH 12 9 (v := ?vd412) rfl rfl (by kernel_rfl) (by kernel_rfl) (by kernel_rfl) (fun _ _ _ h => h) (Or.inl ⟨by rfl, ?hd412⟩) S6 ?rd412
  case hd412 => (intro w hSw; clear hSw; go_simp; (try with_reducible rfl))
  case rd412 =>
  try simp only [Act.put, List.setIfInBounds_toArray, List.set_cons_zero, List.set_cons_succ]
  refine wpAnyH_done (by kernel_rfl) ?_ _
  have oD : Only (H) w3 w6 := (Only.refl (H) w3).drew.trans o6 (fun _ _ e => e)
  clear hH0 S6
  generalize w6 = w5 at *
  have HH5 := hide h5
  have HO5 := hide o6
  have HRBx := hide ((unhide HX).2.1.keep (((Only.refl (fun _ => False) w3).drew).mono (fun _ _ e => e.elim) |>.trans o6 (fun _ _ e => e)) (unhide nG))
  have o5 := o6
  clear CB h5 o5 t0 t1 t2 t3 t4 t5 t6 t7 t8 t9 t10 t11 tl e0 kl o6 oD
  have HO7x := HO5
  have CF := hide (smfailE_any ze w5)
  go_wp2_with fail
  refine (unhide CF).mono ?_
  rintro e w7 ⟨rfl, o7⟩
  have RB7 := (unhide HRBx).keep o7 (fun e => e)
  have HO7 := hide o7
  have r0 : w7.cell? ⟨G, 0, none⟩ = some (.int .i64 0) := RB7.cell 0
  have r1 : w7.cell? ⟨G, 1, none⟩ = some (.int .i64 0) := RB7.cell 1
  have r2 : w7.cell? ⟨G, 2, none⟩ = some (.slice none 0 0) := RB7.cell 2
  have r3 : w7.cell? ⟨G, 3, none⟩ = some (.slice none 0 0) := RB7.cell 3
  have rf0 := RB7.free 0
  have rf1 := RB7.free 1
  have rf2 := RB7.free 2
  have rf3 := RB7.free 3
  have rl := RB7.lt
  have H5 := has_setAll [.int .i64 ze, .int .i64 0, .slice none 0 0, .slice none 0 0] RB7 rfl
  have O5 := only_setW G [.int .i64 ze, .int .i64 0, .slice none 0 0, .slice none 0 0] 0 w7
  have FF := hide (And.intro H5 (show MnP w k q w.heap.size H RR (.returned (.agg #[.int .i64 ze, .int .i64 0, .slice none 0 0, .slice none 0 0])) (setW G [.int .i64 ze, .int .i64 0, .slice none 0 0, .slice none 0 0] 0 w7) from (by
      have h := MnP.fail (w3 := w3.drew) (w5 := w5) (unhide HE0) ((unhide HX).2.2.2.2.2.1.trans ((Only.refl (fun _ => False) w3).drew) (fun _ _ e => e)) (unhide HH5) (unhide HO7x) (unhide HO7) O5 (unhide HG0) (unhide HG3) (unhide HLL)
      rw [unhide Hze] at h
      exact h)))
  simp only [setW, Nat.zero_add, Nat.reduceAdd] at FF
  clear H5 O5
  clear CF o7 RB7
  go_wp2_with fail
  refine bodyPost_ret (sres_result rfl _ rfl (unhide FF).1 rfl) rfl ?_
  have hff := (unhide FF).2
  rw [unhide HG0] at hff
  exact hff
set_option maxRecDepth 100000 in
set_option maxHeartbeats 16000000 in
theorem smexec_drop (E : ME w k q M H) (ok : MuOk M) (mq : MuQ M) (hl : ¬ 256 < t.size) (hg : gdS s) (hp : parB t = true) (hk : (parQ t).2.kind = 5) : Calls Tryz.prog 128 #[.pointer (some ⟨k, 0, none⟩), .int .i64 s, .string t] w (MnP w k q w.heap.size H (exQ M s t)) := by
  obtain ⟨st, hst⟩ : ∃ st, (parQ t).2 = st := ⟨_, rfl⟩
  have e1 : exQ M s t = stQ M s st := by unfold exQ; rw [if_neg hl, if_neg (fun c => c hg), hp, hst]; rfl
  have HOK := hide (show StOk st ∧ StB st ∧ StK st ∧ MuOk M ∧ MuQ M from by rw [← hst]; exact ⟨parQ_ok t, parQ_b (by omega), parQ_k hp, ok, mq⟩)
  have Hst := hide hst
  rw [hst] at hk
  obtain ⟨RR, hRR⟩ : ∃ r, stQ M s st = r := ⟨_, rfl⟩
  rw [e1, hRR]
  have HRR := hide hRR
  have o1 : Only (fun _ => False) w (w.alloc (.cells #[.int .i64 0, .int .i64 0, .slice none 0 0, .slice none 0 0] 52)) := (Only.refl _ w).alloc _
  have N1 := Has.new w #[.int .i64 0, .int .i64 0, .slice none 0 0, .slice none 0 0] 52
  have HE0 := hide E
  have HA := hide (show Has (w.alloc (.cells #[.int .i64 0, .int .i64 0, .slice none 0 0, .slice none 0 0] 52)) w.heap.size #[.int .i64 0, .int .i64 0, .slice none 0 0, .slice none 0 0] 52 ∧ Only (fun _ => False) w (w.alloc (.cells #[.int .i64 0, .int .i64 0, .slice none 0 0, .slice none 0 0] 52)) ∧ w.heap.size < (w.alloc (.cells #[.int .i64 0, .int .i64 0, .slice none 0 0, .slice none 0 0] 52)).heap.size from ⟨N1, o1, N1.lt⟩)
  have CG := xgood_any s (w.alloc (.cells #[.int .i64 0, .int .i64 0, .slice none 0 0, .slice none 0 0] 52))
  rw [decide_eq_true hg] at CG
  have CG := hide CG
  have b0 : ¬ ((t.size : Int) > 256) := by omega
  have CP := hide (smparse_any t (w.alloc (.cells #[.int .i64 0, .int .i64 0, .slice none 0 0, .slice none 0 0] 52)))
  have Hp := hide hp
  have HG := hide hg
  have HKD := hide hk
  clear e1 hRR hst o1 N1 E hl hg hp hk ok mq
  go_enter Tryz.func128, Tryz.ntmps128
  go_upto_region 1 with fail
  generalize w.alloc (.cells #[.int .i64 0, .int .i64 0, .slice none 0 0, .slice none 0 0] 52) = w1 at *
  generalize hH : w.heap.size = G at *
  have HG0 := hide hH
  go_wp2_with fail
  refine (unhide CG).mono ?_
  rintro e w2 ⟨rfl, rfl⟩
  clear CG
  go_wp2_with fail
  refine (unhide CP).mono ?_
  rintro e w2 ⟨S, rfl, hpp, _, o2⟩
  obtain ⟨hL, hO⟩ := hpp (unhide Hp)
  rw [unhide Hst] at hO
  rw [unhide Hp]
  obtain ⟨a2, n2, c2, a4, n4, c4, a5, n5, c5, a7, n7, c7, hcs⟩ := hO.cells_ hL
  have hcs : tabV 12 S.cell = #[.int .i64 5, .string st.table, .slice a2 n2 c2, .int .i64 st.pk, .slice a4 n4 c4, .slice a5 n5 c5, .bool st.star, .slice a7 n7 c7, .string st.order, .bool st.desc, .bool st.hasL, .int .i64 st.lim] := by
    have hk := unhide HKD
    rw [hcs, show (Ms.of st).kind = 5 from hk]
    rfl
  rw [hcs]
  have oP : Only (fun _ => False) w2 (w2.alloc (.cells #[.int .i64 5, .string st.table, .slice a2 n2 c2, .int .i64 st.pk, .slice a4 n4 c4, .slice a5 n5 c5, .bool st.star, .slice a7 n7 c7, .string st.order, .bool st.desc, .bool st.hasL, .int .i64 st.lim] 253)) := (Only.refl _ _).alloc _
  have NP := Has.new w2 #[.int .i64 5, .string st.table, .slice a2 n2 c2, .int .i64 st.pk, .slice a4 n4 c4, .slice a5 n5 c5, .bool st.star, .slice a7 n7 c7, .string st.order, .bool st.desc, .bool st.hasL, .int .i64 st.lim] 253
  have oA := ((unhide HA).2.1.trans o2 (fun _ _ e => e)).trans oP (fun _ _ e => e)
  have HX := hide (show Has (w2.alloc (.cells #[.int .i64 5, .string st.table, .slice a2 n2 c2, .int .i64 st.pk, .slice a4 n4 c4, .slice a5 n5 c5, .bool st.star, .slice a7 n7 c7, .string st.order, .bool st.desc, .bool st.hasL, .int .i64 st.lim] 253)) w2.heap.size #[.int .i64 5, .string st.table, .slice a2 n2 c2, .int .i64 st.pk, .slice a4 n4 c4, .slice a5 n5 c5, .bool st.star, .slice a7 n7 c7, .string st.order, .bool st.desc, .bool st.hasL, .int .i64 st.lim] 253 ∧ Has (w2.alloc (.cells #[.int .i64 5, .string st.table, .slice a2 n2 c2, .int .i64 st.pk, .slice a4 n4 c4, .slice a5 n5 c5, .bool st.star, .slice a7 n7 c7, .string st.order, .bool st.desc, .bool st.hasL, .int .i64 st.lim] 253)) G #[.int .i64 0, .int .i64 0, .slice none 0 0, .slice none 0 0] 52 ∧ ME (w2.alloc (.cells #[.int .i64 5, .string st.table, .slice a2 n2 c2, .int .i64 st.pk, .slice a4 n4 c4, .slice a5 n5 c5, .bool st.star, .slice a7 n7 c7, .string st.order, .bool st.desc, .bool st.hasL, .int .i64 st.lim] 253)) k q M H ∧ SML w1.heap.size (w2.alloc (.cells #[.int .i64 5, .string st.table, .slice a2 n2 c2, .int .i64 st.pk, .slice a4 n4 c4, .slice a5 n5 c5, .bool st.star, .slice a7 n7 c7, .string st.order, .bool st.desc, .bool st.hasL, .int .i64 st.lim] 253)) S ∧ SmOf S (Ms.of st) ∧ Only (fun _ => False) w (w2.alloc (.cells #[.int .i64 5, .string st.table, .slice a2 n2 c2, .int .i64 st.pk, .slice a4 n4 c4, .slice a5 n5 c5, .bool st.star, .slice a7 n7 c7, .string st.order, .bool st.desc, .bool st.hasL, .int .i64 st.lim] 253)) ∧ (∀ j, smj j → ∀ b, (S.cell j).ownBlock = some b → b < w2.heap.size) ∧ w2.heap.size < (w2.alloc (.cells #[.int .i64 5, .string st.table, .slice a2 n2 c2, .int .i64 st.pk, .slice a4 n4 c4, .slice a5 n5 c5, .bool st.star, .slice a7 n7 c7, .string st.order, .bool st.desc, .bool st.hasL, .int .i64 st.lim] 253)).heap.size ∧ G < w1.heap.size ∧ w1.heap.size ≤ w2.heap.size from ⟨NP, ((unhide HA).1.keep o2 (fun e => e)).keep oP (fun e => e), (unhide HE0).quiet oA, hL.quiet oP, hO, oA, fun j hj b hb => ownsRow_lt (hL.own j hj) b hb, NP.lt, (unhide HA).2.2, o2.size⟩)
  have HCS := hide hcs
  clear hL hO hcs oP NP oA o2 CP HA hpp
  go_upto_region 8 with fail
  generalize w2.alloc (.cells #[.int .i64 5, .string st.table, .slice a2 n2 c2, .int .i64 st.pk, .slice a4 n4 c4, .slice a5 n5 c5, .bool st.star, .slice a7 n7 c7, .string st.order, .bool st.desc, .bool st.hasL, .int .i64 st.lim] 253) = w3 at *
  generalize w2.heap.size = P at *
  have t0 : w3.cell? ⟨P, 0, none⟩ = some (.int .i64 5) := (unhide HX).1.cell 0
  have t1 : w3.cell? ⟨P, 1, none⟩ = some (.string st.table) := (unhide HX).1.cell 1
  have t2 : w3.cell? ⟨P, 2, none⟩ = some (.slice a2 n2 c2) := (unhide HX).1.cell 2
  have t3 : w3.cell? ⟨P, 3, none⟩ = some (.int .i64 st.pk) := (unhide HX).1.cell 3
  have t4 : w3.cell? ⟨P, 4, none⟩ = some (.slice a4 n4 c4) := (unhide HX).1.cell 4
  have t5 : w3.cell? ⟨P, 5, none⟩ = some (.slice a5 n5 c5) := (unhide HX).1.cell 5
  have t6 : w3.cell? ⟨P, 6, none⟩ = some (.bool st.star) := (unhide HX).1.cell 6
  have t7 : w3.cell? ⟨P, 7, none⟩ = some (.slice a7 n7 c7) := (unhide HX).1.cell 7
  have t8 : w3.cell? ⟨P, 8, none⟩ = some (.string st.order) := (unhide HX).1.cell 8
  have t9 : w3.cell? ⟨P, 9, none⟩ = some (.bool st.desc) := (unhide HX).1.cell 9
  have t10 : w3.cell? ⟨P, 10, none⟩ = some (.bool st.hasL) := (unhide HX).1.cell 10
  have t11 : w3.cell? ⟨P, 11, none⟩ = some (.int .i64 st.lim) := (unhide HX).1.cell 11
  have tl := (unhide HX).1.lt
  have e0 : w3.cell? ⟨k, 0, none⟩ = some (.pointer (some ⟨q, 0, none⟩)) := (unhide HX).2.2.1.has.cell 0
  have kl := (unhide HX).2.2.1.kl
  have CB := (xmdrop_any ((unhide HX).2.2.1.quiet ((Only.refl (fun _ => False) w3).drew)).mx s st.table).mono (fun e w' h => ci_sch h)
  have hq : schQ M s (drpD M.com st.table) = RR := by
    have hk := unhide HKD
    rw [← unhide HRR]; unfold stQ; rw [if_neg (show ¬ st.kind = 1 by rw [hk]; decide)]; rw [if_neg (show ¬ st.kind = 2 by rw [hk]; decide)]; rw [if_neg (show ¬ st.kind = 3 by rw [hk]; decide)]; rw [if_neg (show ¬ st.kind = 4 by rw [hk]; decide)]; rw [if_pos hk]
  have HLL := hide (show RR.2.cols = [] ∧ RR.2.rows = [] ∧ RR.2.n = 0 by rw [← hq]; unfold schQ; split; exact ⟨rfl, rfl, rfl⟩; split <;> exact ⟨rfl, rfl, rfl⟩)
  rw [hq] at CB
  obtain ⟨ze, hze⟩ : ∃ z, RR.2.e = z := ⟨_, rfl⟩
  have Hze := hide hze
  have CB : Calls Tryz.prog 189 #[.pointer (some ⟨q, 0, none⟩), .int .i64 s, .string st.table] w3.drew fun e w' => ∃ v, e = .returned v ∧ (v = .int .i64 ze ∧ (∃ H', MX w' q RR.1 H' ∧ ∀ b, H' b → H b ∨ w3.drew.heap.size ≤ b) ∧ Only H w3.drew w') := CB.mono (fun e w' h => ⟨_, h.1, by rw [hze], h.2.1, h.2.2⟩)
  have CB := hide CB
  have HG3 := hide (show G < w3.heap.size from by have h := (unhide HX).2.2.2.2.2.2.2; omega)
  have nG := hide (show ¬ H G from fun c => by have := (unhide HE0).mx.lt G c; have := unhide HG0; omega)
  have nk := hide (unhide HE0).kH
  have nP := hide (show ¬ H P from fun c => by have := (unhide HE0).mx.lt P c; have := unhide HG0; have h := (unhide HX).2.2.2.2.2.2.2; omega)
  clear hq hze
  go_upto_region 20 with fail
  refine wp_region_held_drew (S := (fun w' => w'.cell? ⟨k, 0, none⟩ = some (.pointer (some ⟨q, 0, none⟩)) ∧ w'.cell? ⟨P, 1, none⟩ = some (.string st.table))) (by kernel_rfl) ⟨e0, t1⟩ (fun hH0 => ?_)
  refine takeH 0 73 (v := ?vd51) rfl rfl (by kernel_rfl) (by kernel_rfl) (by kernel_rfl) (fun _ _ _ h => h) (Or.inl ⟨by rfl, ?hd51⟩) hH0 ?rd51
  case hd51 => (intro w hSw; clear hSw; go_simp; (try with_reducible rfl))
  case rd51 =>
  try simp only [Act.put, List.setIfInBounds_toArray, List.set_cons_zero, List.set_cons_succ]
  refine takeH 1 74 (v := ?vd52) rfl rfl (by kernel_rfl) (by kernel_rfl) (by kernel_rfl) (fun _ _ _ h => h) (Or.inl ⟨by rfl, ?hd52⟩) hH0 ?rd52
  case hd52 => (intro w hSw; clear hSw; go_simp; (try with_reducible rfl))
  case rd52 =>
  try simp only [Act.put, List.setIfInBounds_toArray, List.set_cons_zero, List.set_cons_succ]
  refine takeH 2 75 (v := ?vd53) rfl rfl (by kernel_rfl) (by kernel_rfl) (by kernel_rfl) (fun _ _ _ h => h) (Or.inl ⟨by rfl, ?hd53⟩) hH0 ?rd53
  case hd53 => (intro w hSw; clear hSw; go_simp; (try with_reducible rfl))
  case rd53 =>
  try simp only [Act.put, List.setIfInBounds_toArray, List.set_cons_zero, List.set_cons_succ]
  refine takeH 3 76 (v := ?vd54) rfl rfl (by kernel_rfl) (by kernel_rfl) (by kernel_rfl) (fun _ _ _ h => h) (Or.inl ⟨by rfl, ?hd54⟩) hH0 ?rd54
  case hd54 => (intro w hSw; obtain ⟨s0, s1⟩ := hSw; go_simp; (try with_reducible rfl))
  case rd54 =>
  try simp only [Act.put, List.setIfInBounds_toArray, List.set_cons_zero, List.set_cons_succ]
  refine takeH 4 77 (v := ?vd55) rfl rfl (by kernel_rfl) (by kernel_rfl) (by kernel_rfl) (fun _ _ _ h => h) (Or.inl ⟨by rfl, ?hd55⟩) hH0 ?rd55
  case hd55 => (intro w hSw; clear hSw; go_simp; (try with_reducible rfl))
  case rd55 =>
  try simp only [Act.put, List.setIfInBounds_toArray, List.set_cons_zero, List.set_cons_succ]
  refine takeH 5 78 (v := ?vd56) rfl rfl (by kernel_rfl) (by kernel_rfl) (by kernel_rfl) (fun _ _ _ h => h) (Or.inl ⟨by rfl, ?hd56⟩) hH0 ?rd56
  case hd56 => (intro w hSw; clear hSw; go_simp; (try with_reducible rfl))
  case rd56 =>
  try simp only [Act.put, List.setIfInBounds_toArray, List.set_cons_zero, List.set_cons_succ]
  refine takeH 6 79 (v := ?vd57) rfl rfl (by kernel_rfl) (by kernel_rfl) (by kernel_rfl) (fun _ _ _ h => h) (Or.inl ⟨by rfl, ?hd57⟩) hH0 ?rd57
  case hd57 => (intro w hSw; obtain ⟨s0, s1⟩ := hSw; go_simp; (try with_reducible rfl))
  case rd57 =>
  try simp only [Act.put, List.setIfInBounds_toArray, List.set_cons_zero, List.set_cons_succ]
  refine callH 7 (by kernel_rfl) rfl 80 rfl rfl 189 Tryz.func189 (by kernel_rfl) (by kernel_rfl) #[.tmp 76, .tmp 77, .tmp 79] #[104, 3, 9] rfl #[.pointer (some ⟨q, 0, none⟩), .int .i64 s, .string st.table] (by simp [Act.eval]) (R := fun v w' => v = .int .i64 ze ∧ (∃ H', MX w' q RR.1 H' ∧ ∀ b, H' b → H b ∨ w3.drew.heap.size ≤ b) ∧ Only H w3.drew w') (unhide CB) ?kd5
  case kd5 =>
  rintro _ w6 ⟨rfl, h5, o6⟩
  have S6 : w6.cell? ⟨k, 0, none⟩ = some (.pointer (some ⟨q, 0, none⟩)) ∧ w6.cell? ⟨P, 1, none⟩ = some (.string st.table) := ⟨cell_keep (hH0.1) o6 (unhide nk), cell_keep (hH0.2) o6 (unhide nP)⟩
  refine ⟨S6, ?_⟩
  try simp only [Act.put, List.setIfInBounds_toArray, List.set_cons_zero, List.set_cons_succ]
  refine takeH 8 9 (v := ?vd58) rfl rfl (by kernel_rfl) (by kernel_rfl) (by kernel_rfl) (fun _ _ _ h => h) (Or.inl ⟨by rfl, ?hd58⟩) S6 ?rd58
  case hd58 => (intro w hSw; clear hSw; go_simp; (try with_reducible rfl))
  case rd58 =>
  try simp only [Act.put, List.setIfInBounds_toArray, List.set_cons_zero, List.set_cons_succ]
  refine wpAnyH_done (by kernel_rfl) ?_ _
  have oD : Only (H) w3 w6 := (Only.refl (H) w3).drew.trans o6 (fun _ _ e => e)
  clear hH0 S6
  generalize w6 = w5 at *
  have HH5 := hide h5
  have HO5 := hide o6
  have HRBx := hide ((unhide HX).2.1.keep (((Only.refl (fun _ => False) w3).drew).mono (fun _ _ e => e.elim) |>.trans o6 (fun _ _ e => e)) (unhide nG))
  have o5 := o6
  clear CB h5 o5 t0 t1 t2 t3 t4 t5 t6 t7 t8 t9 t10 t11 tl e0 kl o6 oD
  have HO7x := HO5
  have CF := hide (smfailE_any ze w5)
  go_wp2_with fail
  refine (unhide CF).mono ?_
  rintro e w7 ⟨rfl, o7⟩
  have RB7 := (unhide HRBx).keep o7 (fun e => e)
  have HO7 := hide o7
  have r0 : w7.cell? ⟨G, 0, none⟩ = some (.int .i64 0) := RB7.cell 0
  have r1 : w7.cell? ⟨G, 1, none⟩ = some (.int .i64 0) := RB7.cell 1
  have r2 : w7.cell? ⟨G, 2, none⟩ = some (.slice none 0 0) := RB7.cell 2
  have r3 : w7.cell? ⟨G, 3, none⟩ = some (.slice none 0 0) := RB7.cell 3
  have rf0 := RB7.free 0
  have rf1 := RB7.free 1
  have rf2 := RB7.free 2
  have rf3 := RB7.free 3
  have rl := RB7.lt
  have H5 := has_setAll [.int .i64 ze, .int .i64 0, .slice none 0 0, .slice none 0 0] RB7 rfl
  have O5 := only_setW G [.int .i64 ze, .int .i64 0, .slice none 0 0, .slice none 0 0] 0 w7
  have FF := hide (And.intro H5 (show MnP w k q w.heap.size H RR (.returned (.agg #[.int .i64 ze, .int .i64 0, .slice none 0 0, .slice none 0 0])) (setW G [.int .i64 ze, .int .i64 0, .slice none 0 0, .slice none 0 0] 0 w7) from (by
      have h := MnP.fail (w3 := w3.drew) (w5 := w5) (unhide HE0) ((unhide HX).2.2.2.2.2.1.trans ((Only.refl (fun _ => False) w3).drew) (fun _ _ e => e)) (unhide HH5) (unhide HO7x) (unhide HO7) O5 (unhide HG0) (unhide HG3) (unhide HLL)
      rw [unhide Hze] at h
      exact h)))
  simp only [setW, Nat.zero_add, Nat.reduceAdd] at FF
  clear H5 O5
  clear CF o7 RB7
  go_wp2_with fail
  refine bodyPost_ret (sres_result rfl _ rfl (unhide FF).1 rfl) rfl ?_
  have hff := (unhide FF).2
  rw [unhide HG0] at hff
  exact hff
set_option maxRecDepth 100000 in
set_option maxHeartbeats 16000000 in
theorem smexec_index (E : ME w k q M H) (ok : MuOk M) (mq : MuQ M) (hl : ¬ 256 < t.size) (hg : gdS s) (hp : parB t = true) (hk : (parQ t).2.kind = 6) (hls : (parQ t).2.list ≠ []) : Calls Tryz.prog 128 #[.pointer (some ⟨k, 0, none⟩), .int .i64 s, .string t] w (MnP w k q w.heap.size H (exQ M s t)) := by
  have HLS := hide hls
  clear hls
  obtain ⟨st, hst⟩ : ∃ st, (parQ t).2 = st := ⟨_, rfl⟩
  have e1 : exQ M s t = stQ M s st := by unfold exQ; rw [if_neg hl, if_neg (fun c => c hg), hp, hst]; rfl
  have HOK := hide (show StOk st ∧ StB st ∧ StK st ∧ MuOk M ∧ MuQ M from by rw [← hst]; exact ⟨parQ_ok t, parQ_b (by omega), parQ_k hp, ok, mq⟩)
  have Hst := hide hst
  rw [hst] at hk
  obtain ⟨RR, hRR⟩ : ∃ r, stQ M s st = r := ⟨_, rfl⟩
  rw [e1, hRR]
  have HRR := hide hRR
  have o1 : Only (fun _ => False) w (w.alloc (.cells #[.int .i64 0, .int .i64 0, .slice none 0 0, .slice none 0 0] 52)) := (Only.refl _ w).alloc _
  have N1 := Has.new w #[.int .i64 0, .int .i64 0, .slice none 0 0, .slice none 0 0] 52
  have HE0 := hide E
  have HA := hide (show Has (w.alloc (.cells #[.int .i64 0, .int .i64 0, .slice none 0 0, .slice none 0 0] 52)) w.heap.size #[.int .i64 0, .int .i64 0, .slice none 0 0, .slice none 0 0] 52 ∧ Only (fun _ => False) w (w.alloc (.cells #[.int .i64 0, .int .i64 0, .slice none 0 0, .slice none 0 0] 52)) ∧ w.heap.size < (w.alloc (.cells #[.int .i64 0, .int .i64 0, .slice none 0 0, .slice none 0 0] 52)).heap.size from ⟨N1, o1, N1.lt⟩)
  have CG := xgood_any s (w.alloc (.cells #[.int .i64 0, .int .i64 0, .slice none 0 0, .slice none 0 0] 52))
  rw [decide_eq_true hg] at CG
  have CG := hide CG
  have b0 : ¬ ((t.size : Int) > 256) := by omega
  have CP := hide (smparse_any t (w.alloc (.cells #[.int .i64 0, .int .i64 0, .slice none 0 0, .slice none 0 0] 52)))
  have Hp := hide hp
  have HG := hide hg
  have HKD := hide hk
  clear e1 hRR hst o1 N1 E hl hg hp hk ok mq
  go_enter Tryz.func128, Tryz.ntmps128
  go_upto_region 1 with fail
  generalize w.alloc (.cells #[.int .i64 0, .int .i64 0, .slice none 0 0, .slice none 0 0] 52) = w1 at *
  generalize hH : w.heap.size = G at *
  have HG0 := hide hH
  go_wp2_with fail
  refine (unhide CG).mono ?_
  rintro e w2 ⟨rfl, rfl⟩
  clear CG
  go_wp2_with fail
  refine (unhide CP).mono ?_
  rintro e w2 ⟨S, rfl, hpp, _, o2⟩
  obtain ⟨hL, hO⟩ := hpp (unhide Hp)
  rw [unhide Hst] at hO
  rw [unhide Hp]
  obtain ⟨a2, n2, c2, a4, n4, c4, a5, n5, c5, a7, n7, c7, hcs⟩ := hO.cells_ hL
  have hcs : tabV 12 S.cell = #[.int .i64 6, .string st.table, .slice a2 n2 c2, .int .i64 st.pk, .slice a4 n4 c4, .slice a5 n5 c5, .bool st.star, .slice a7 n7 c7, .string st.order, .bool st.desc, .bool st.hasL, .int .i64 st.lim] := by
    have hk := unhide HKD
    rw [hcs, show (Ms.of st).kind = 6 from hk]
    rfl
  rw [hcs]
  have oP : Only (fun _ => False) w2 (w2.alloc (.cells #[.int .i64 6, .string st.table, .slice a2 n2 c2, .int .i64 st.pk, .slice a4 n4 c4, .slice a5 n5 c5, .bool st.star, .slice a7 n7 c7, .string st.order, .bool st.desc, .bool st.hasL, .int .i64 st.lim] 253)) := (Only.refl _ _).alloc _
  have NP := Has.new w2 #[.int .i64 6, .string st.table, .slice a2 n2 c2, .int .i64 st.pk, .slice a4 n4 c4, .slice a5 n5 c5, .bool st.star, .slice a7 n7 c7, .string st.order, .bool st.desc, .bool st.hasL, .int .i64 st.lim] 253
  have oA := ((unhide HA).2.1.trans o2 (fun _ _ e => e)).trans oP (fun _ _ e => e)
  have HX := hide (show Has (w2.alloc (.cells #[.int .i64 6, .string st.table, .slice a2 n2 c2, .int .i64 st.pk, .slice a4 n4 c4, .slice a5 n5 c5, .bool st.star, .slice a7 n7 c7, .string st.order, .bool st.desc, .bool st.hasL, .int .i64 st.lim] 253)) w2.heap.size #[.int .i64 6, .string st.table, .slice a2 n2 c2, .int .i64 st.pk, .slice a4 n4 c4, .slice a5 n5 c5, .bool st.star, .slice a7 n7 c7, .string st.order, .bool st.desc, .bool st.hasL, .int .i64 st.lim] 253 ∧ Has (w2.alloc (.cells #[.int .i64 6, .string st.table, .slice a2 n2 c2, .int .i64 st.pk, .slice a4 n4 c4, .slice a5 n5 c5, .bool st.star, .slice a7 n7 c7, .string st.order, .bool st.desc, .bool st.hasL, .int .i64 st.lim] 253)) G #[.int .i64 0, .int .i64 0, .slice none 0 0, .slice none 0 0] 52 ∧ ME (w2.alloc (.cells #[.int .i64 6, .string st.table, .slice a2 n2 c2, .int .i64 st.pk, .slice a4 n4 c4, .slice a5 n5 c5, .bool st.star, .slice a7 n7 c7, .string st.order, .bool st.desc, .bool st.hasL, .int .i64 st.lim] 253)) k q M H ∧ SML w1.heap.size (w2.alloc (.cells #[.int .i64 6, .string st.table, .slice a2 n2 c2, .int .i64 st.pk, .slice a4 n4 c4, .slice a5 n5 c5, .bool st.star, .slice a7 n7 c7, .string st.order, .bool st.desc, .bool st.hasL, .int .i64 st.lim] 253)) S ∧ SmOf S (Ms.of st) ∧ Only (fun _ => False) w (w2.alloc (.cells #[.int .i64 6, .string st.table, .slice a2 n2 c2, .int .i64 st.pk, .slice a4 n4 c4, .slice a5 n5 c5, .bool st.star, .slice a7 n7 c7, .string st.order, .bool st.desc, .bool st.hasL, .int .i64 st.lim] 253)) ∧ (∀ j, smj j → ∀ b, (S.cell j).ownBlock = some b → b < w2.heap.size) ∧ w2.heap.size < (w2.alloc (.cells #[.int .i64 6, .string st.table, .slice a2 n2 c2, .int .i64 st.pk, .slice a4 n4 c4, .slice a5 n5 c5, .bool st.star, .slice a7 n7 c7, .string st.order, .bool st.desc, .bool st.hasL, .int .i64 st.lim] 253)).heap.size ∧ G < w1.heap.size ∧ w1.heap.size ≤ w2.heap.size from ⟨NP, ((unhide HA).1.keep o2 (fun e => e)).keep oP (fun e => e), (unhide HE0).quiet oA, hL.quiet oP, hO, oA, fun j hj b hb => ownsRow_lt (hL.own j hj) b hb, NP.lt, (unhide HA).2.2, o2.size⟩)
  have HCS := hide hcs
  clear hL hO hcs oP NP oA o2 CP HA hpp
  go_upto_region 8 with fail
  generalize w2.alloc (.cells #[.int .i64 6, .string st.table, .slice a2 n2 c2, .int .i64 st.pk, .slice a4 n4 c4, .slice a5 n5 c5, .bool st.star, .slice a7 n7 c7, .string st.order, .bool st.desc, .bool st.hasL, .int .i64 st.lim] 253) = w3 at *
  generalize w2.heap.size = P at *
  have t0 : w3.cell? ⟨P, 0, none⟩ = some (.int .i64 6) := (unhide HX).1.cell 0
  have t1 : w3.cell? ⟨P, 1, none⟩ = some (.string st.table) := (unhide HX).1.cell 1
  have t2 : w3.cell? ⟨P, 2, none⟩ = some (.slice a2 n2 c2) := (unhide HX).1.cell 2
  have t3 : w3.cell? ⟨P, 3, none⟩ = some (.int .i64 st.pk) := (unhide HX).1.cell 3
  have t4 : w3.cell? ⟨P, 4, none⟩ = some (.slice a4 n4 c4) := (unhide HX).1.cell 4
  have t5 : w3.cell? ⟨P, 5, none⟩ = some (.slice a5 n5 c5) := (unhide HX).1.cell 5
  have t6 : w3.cell? ⟨P, 6, none⟩ = some (.bool st.star) := (unhide HX).1.cell 6
  have t7 : w3.cell? ⟨P, 7, none⟩ = some (.slice a7 n7 c7) := (unhide HX).1.cell 7
  have t8 : w3.cell? ⟨P, 8, none⟩ = some (.string st.order) := (unhide HX).1.cell 8
  have t9 : w3.cell? ⟨P, 9, none⟩ = some (.bool st.desc) := (unhide HX).1.cell 9
  have t10 : w3.cell? ⟨P, 10, none⟩ = some (.bool st.hasL) := (unhide HX).1.cell 10
  have t11 : w3.cell? ⟨P, 11, none⟩ = some (.int .i64 st.lim) := (unhide HX).1.cell 11
  have tl := (unhide HX).1.lt
  have e0 : w3.cell? ⟨k, 0, none⟩ = some (.pointer (some ⟨q, 0, none⟩)) := (unhide HX).2.2.1.has.cell 0
  have kl := (unhide HX).2.2.1.kl
  have CB := smcidx_any (s := s) (unhide HX).2.2.1 (unhide HX).2.2.2.1 (unhide HX).2.2.2.2.1 rfl ((unhide HOK).2.2.1.a7.elim (fun c => by rw [unhide HKD] at c; cases c) id) (by rw [← unhide Hst]; exact unhide HLS) (unhide HOK).2.1
  have hq : schQ M s (cixD M.com st.table (qcol (tabE M.com st.table).cols ((st.list)[0]?.getD ⟨#[]⟩))) = RR := by
    have hk := unhide HKD
    rw [← unhide HRR]; unfold stQ; rw [if_neg (show ¬ st.kind = 1 by rw [hk]; decide)]; rw [if_neg (show ¬ st.kind = 2 by rw [hk]; decide)]; rw [if_neg (show ¬ st.kind = 3 by rw [hk]; decide)]; rw [if_neg (show ¬ st.kind = 4 by rw [hk]; decide)]; rw [if_neg (show ¬ st.kind = 5 by rw [hk]; decide)]; rw [if_pos hk]
  have HLL := hide (show RR.2.cols = [] ∧ RR.2.rows = [] ∧ RR.2.n = 0 by rw [← hq]; unfold schQ; split; exact ⟨rfl, rfl, rfl⟩; split <;> exact ⟨rfl, rfl, rfl⟩)
  rw [hq] at CB
  rw [unhide HCS] at CB
  obtain ⟨ze, hze⟩ : ∃ z, RR.2.e = z := ⟨_, rfl⟩
  have Hze := hide hze
  have CB : Calls Tryz.prog 190 #[.pointer (some ⟨k, 0, none⟩), .int .i64 s, .agg #[.int .i64 6, .string st.table, .slice a2 n2 c2, .int .i64 st.pk, .slice a4 n4 c4, .slice a5 n5 c5, .bool st.star, .slice a7 n7 c7, .string st.order, .bool st.desc, .bool st.hasL, .int .i64 st.lim]] w3 fun e w' => ∃ v, e = .returned v ∧ (v = .int .i64 ze ∧ (∃ H', MX w' q RR.1 H' ∧ ∀ b, H' b → H b ∨ w3.heap.size ≤ b) ∧ Only H w3 w') := CB.mono (fun e w' h => ⟨_, h.1, by rw [hze], h.2.1, h.2.2⟩)
  have CB := hide CB
  have HG3 := hide (show G < w3.heap.size from by have h := (unhide HX).2.2.2.2.2.2.2; omega)
  have nG := hide (show ¬ H G from fun c => by have := (unhide HE0).mx.lt G c; have := unhide HG0; omega)
  have nk := hide (unhide HE0).kH
  have nP := hide (show ¬ H P from fun c => by have := (unhide HE0).mx.lt P c; have := unhide HG0; have h := (unhide HX).2.2.2.2.2.2.2; omega)
  clear hq hze
  go_wp2_with fail
  refine (unhide CB).mono ?_
  rintro _ w5 ⟨_, rfl, rfl, h5, o5⟩
  have HH5 := hide h5
  have HO5 := hide o5
  have HRBx := hide ((unhide HX).2.1.keep o5 (unhide nG))
  clear CB h5 o5 t0 t1 t2 t3 t4 t5 t6 t7 t8 t9 t10 t11 tl e0 kl
  have HO7x := HO5
  have CF := hide (smfailE_any ze w5)
  go_wp2_with fail
  refine (unhide CF).mono ?_
  rintro e w7 ⟨rfl, o7⟩
  have RB7 := (unhide HRBx).keep o7 (fun e => e)
  have HO7 := hide o7
  have r0 : w7.cell? ⟨G, 0, none⟩ = some (.int .i64 0) := RB7.cell 0
  have r1 : w7.cell? ⟨G, 1, none⟩ = some (.int .i64 0) := RB7.cell 1
  have r2 : w7.cell? ⟨G, 2, none⟩ = some (.slice none 0 0) := RB7.cell 2
  have r3 : w7.cell? ⟨G, 3, none⟩ = some (.slice none 0 0) := RB7.cell 3
  have rf0 := RB7.free 0
  have rf1 := RB7.free 1
  have rf2 := RB7.free 2
  have rf3 := RB7.free 3
  have rl := RB7.lt
  have H5 := has_setAll [.int .i64 ze, .int .i64 0, .slice none 0 0, .slice none 0 0] RB7 rfl
  have O5 := only_setW G [.int .i64 ze, .int .i64 0, .slice none 0 0, .slice none 0 0] 0 w7
  have FF := hide (And.intro H5 (show MnP w k q w.heap.size H RR (.returned (.agg #[.int .i64 ze, .int .i64 0, .slice none 0 0, .slice none 0 0])) (setW G [.int .i64 ze, .int .i64 0, .slice none 0 0, .slice none 0 0] 0 w7) from (by
      have h := MnP.fail (w3 := w3) (w5 := w5) (unhide HE0) (unhide HX).2.2.2.2.2.1 (unhide HH5) (unhide HO7x) (unhide HO7) O5 (unhide HG0) (unhide HG3) (unhide HLL)
      rw [unhide Hze] at h
      exact h)))
  simp only [setW, Nat.zero_add, Nat.reduceAdd] at FF
  clear H5 O5
  clear CF o7 RB7
  go_wp2_with fail
  refine bodyPost_ret (sres_result rfl _ rfl (unhide FF).1 rfl) rfl ?_
  have hff := (unhide FF).2
  rw [unhide HG0] at hff
  exact hff
end
end Go.Proofs.Qxb6500412aGreat
