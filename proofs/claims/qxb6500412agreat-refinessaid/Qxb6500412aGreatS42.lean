/-
  OWN WORK. QUERY: Exec: refusals, BEGIN, COMMIT, ROLLBACK (written by tools/gen_s42.py).
-/
import Derived.Test.Qxb6500412aGreatS41
namespace Go.Proofs.Qxb6500412aGreat
open Go.RowKit Go.PlainAid
set_option linter.unusedSimpArgs false
set_option linter.unusedVariables false

section
variable {L : Prop} {q : Gnd} {w : World} {k g x : Nat} {M : Mu} {K : Nat → Prop} {last : Int} {s : Int} {t : ByteArray}
set_option maxRecDepth 100000 in
set_option maxHeartbeats 16000000 in
theorem sqexec_long (R : QR q w k g x M K last) (hl : 256 < t.size) : Calls Tryz.prog 53 #[.pointer (some ⟨k, 0, none⟩), .int .i64 s, .string t] w (ExP L q w k g x M K (exQ M s t) (plnQ M s t last)) := by
  have e1 : exQ M s t = (M, Rs.err 24) := by unfold exQ; rw [if_pos hl]
  have e2 : plnQ M s t last = last := by unfold plnQ; rw [if_pos (.inl hl)]
  rw [e1, e2]
  have o1 : Only (fun _ => False) w (w.alloc (.cells #[.int .i64 0, .int .i64 0, .slice none 0 0, .slice none 0 0] 52)) := (Only.refl _ w).alloc _
  have N1 := Has.new w #[.int .i64 0, .int .i64 0, .slice none 0 0, .slice none 0 0] 52
  have HR := hide R
  have HA := hide (show Has (w.alloc (.cells #[.int .i64 0, .int .i64 0, .slice none 0 0, .slice none 0 0] 52)) w.heap.size #[.int .i64 0, .int .i64 0, .slice none 0 0, .slice none 0 0] 52 ∧ Only (fun _ => False) w (w.alloc (.cells #[.int .i64 0, .int .i64 0, .slice none 0 0, .slice none 0 0] 52)) from ⟨N1, o1⟩)
  clear e1 e2 o1 N1 R
  have b0 : ((t.size : Int) > 256) := by omega
  clear hl
  go_enter Tryz.func53, Tryz.ntmps53
  go_upto_region 1 with fail
  generalize w.alloc (.cells #[.int .i64 0, .int .i64 0, .slice none 0 0, .slice none 0 0] 52) = w1 at *
  generalize hH : w.heap.size = H at *
  have CF := hide (sqfailE_any 24 w1)
  go_wp2_with fail
  refine (unhide CF).mono ?_
  rintro e w7 ⟨rfl, o7⟩
  have RB7 := (unhide HA).1.keep o7 (fun e => e)
  have HO7 := hide ((unhide HA).2.trans o7 (fun _ _ e => e))
  have r0 : w7.cell? ⟨H, 0, none⟩ = some (.int .i64 0) := RB7.cell 0
  have r1 : w7.cell? ⟨H, 1, none⟩ = some (.int .i64 0) := RB7.cell 1
  have r2 : w7.cell? ⟨H, 2, none⟩ = some (.slice none 0 0) := RB7.cell 2
  have r3 : w7.cell? ⟨H, 3, none⟩ = some (.slice none 0 0) := RB7.cell 3
  have rf0 := RB7.free 0
  have rf1 := RB7.free 1
  have rf2 := RB7.free 2
  have rf3 := RB7.free 3
  have rl := RB7.lt
  have H5 := has_setAll [.int .i64 24, .int .i64 0, .slice none 0 0, .slice none 0 0] RB7 rfl
  have O5 := only_setW H [.int .i64 24, .int .i64 0, .slice none 0 0, .slice none 0 0] 0 w7
  have FF := hide (And.intro H5 (show ExP L q w k g x M K (M, Rs.err 24) last (.returned (.agg #[.int .i64 24, .int .i64 0, .slice none 0 0, .slice none 0 0])) (setW H [.int .i64 24, .int .i64 0, .slice none 0 0, .slice none 0 0] 0 w7) from (by
    have o9 := (unhide HO7).lateS O5 (fun b (e : b = H) => by omega)
    exact ⟨none, 0, 0, none, 0, 0, w.heap.size, q, K, rfl, RsQ.none_ rfl rfl, fun b h1 h2 => by omega, (unhide HR).quiet o9, fun b hb => .inl hb, .inl ⟨rfl, rfl, o9.mono (fun _ _ e => e.elim)⟩⟩)))
  simp only [setW, Nat.zero_add, Nat.reduceAdd] at FF
  clear H5 O5
  clear CF o7 RB7
  go_wp2_with fail
  refine bodyPost_ret (sres_result rfl _ rfl (unhide FF).1 rfl) rfl ?_
  exact (unhide FF).2
set_option maxRecDepth 100000 in
set_option maxHeartbeats 16000000 in
theorem sqexec_sess (R : QR q w k g x M K last) (hl : ¬ 256 < t.size) (hg : ¬ gdS s) : Calls Tryz.prog 53 #[.pointer (some ⟨k, 0, none⟩), .int .i64 s, .string t] w (ExP L q w k g x M K (exQ M s t) (plnQ M s t last)) := by
  have e1 : exQ M s t = (M, Rs.err 20) := by unfold exQ; rw [if_neg hl, if_pos hg]
  have e2 : plnQ M s t last = last := by unfold plnQ; rw [if_pos (.inr (.inl hg))]
  rw [e1, e2]
  have o1 : Only (fun _ => False) w (w.alloc (.cells #[.int .i64 0, .int .i64 0, .slice none 0 0, .slice none 0 0] 52)) := (Only.refl _ w).alloc _
  have N1 := Has.new w #[.int .i64 0, .int .i64 0, .slice none 0 0, .slice none 0 0] 52
  have HR := hide R
  have HA := hide (show Has (w.alloc (.cells #[.int .i64 0, .int .i64 0, .slice none 0 0, .slice none 0 0] 52)) w.heap.size #[.int .i64 0, .int .i64 0, .slice none 0 0, .slice none 0 0] 52 ∧ Only (fun _ => False) w (w.alloc (.cells #[.int .i64 0, .int .i64 0, .slice none 0 0, .slice none 0 0] 52)) from ⟨N1, o1⟩)
  clear e1 e2 o1 N1 R
  have b0 : ¬ ((t.size : Int) > 256) := by omega
  have CG := xgood_any s (w.alloc (.cells #[.int .i64 0, .int .i64 0, .slice none 0 0, .slice none 0 0] 52))
  rw [decide_eq_false hg] at CG
  have CG := hide CG
  clear hg hl
  go_enter Tryz.func53, Tryz.ntmps53
  go_upto_region 1 with fail
  generalize w.alloc (.cells #[.int .i64 0, .int .i64 0, .slice none 0 0, .slice none 0 0] 52) = w1 at *
  generalize hH : w.heap.size = H at *
  go_wp2_with fail
  refine (unhide CG).mono ?_
  rintro e w2 ⟨rfl, rfl⟩
  clear CG
  have CF := hide (sqfailE_any 20 w1)
  go_wp2_with fail
  refine (unhide CF).mono ?_
  rintro e w7 ⟨rfl, o7⟩
  have RB7 := (unhide HA).1.keep o7 (fun e => e)
  have HO7 := hide ((unhide HA).2.trans o7 (fun _ _ e => e))
  have r0 : w7.cell? ⟨H, 0, none⟩ = some (.int .i64 0) := RB7.cell 0
  have r1 : w7.cell? ⟨H, 1, none⟩ = some (.int .i64 0) := RB7.cell 1
  have r2 : w7.cell? ⟨H, 2, none⟩ = some (.slice none 0 0) := RB7.cell 2
  have r3 : w7.cell? ⟨H, 3, none⟩ = some (.slice none 0 0) := RB7.cell 3
  have rf0 := RB7.free 0
  have rf1 := RB7.free 1
  have rf2 := RB7.free 2
  have rf3 := RB7.free 3
  have rl := RB7.lt
  have H5 := has_setAll [.int .i64 20, .int .i64 0, .slice none 0 0, .slice none 0 0] RB7 rfl
  have O5 := only_setW H [.int .i64 20, .int .i64 0, .slice none 0 0, .slice none 0 0] 0 w7
  have FF := hide (And.intro H5 (show ExP L q w k g x M K (M, Rs.err 20) last (.returned (.agg #[.int .i64 20, .int .i64 0, .slice none 0 0, .slice none 0 0])) (setW H [.int .i64 20, .int .i64 0, .slice none 0 0, .slice none 0 0] 0 w7) from (by
    have o9 := (unhide HO7).lateS O5 (fun b (e : b = H) => by omega)
    exact ⟨none, 0, 0, none, 0, 0, w.heap.size, q, K, rfl, RsQ.none_ rfl rfl, fun b h1 h2 => by omega, (unhide HR).quiet o9, fun b hb => .inl hb, .inl ⟨rfl, rfl, o9.mono (fun _ _ e => e.elim)⟩⟩)))
  simp only [setW, Nat.zero_add, Nat.reduceAdd] at FF
  clear H5 O5
  clear CF o7 RB7
  go_wp2_with fail
  refine bodyPost_ret (sres_result rfl _ rfl (unhide FF).1 rfl) rfl ?_
  exact (unhide FF).2
set_option maxRecDepth 100000 in
set_option maxHeartbeats 16000000 in
theorem sqexec_syn (R : QR q w k g x M K last) (hl : ¬ 256 < t.size) (hg : gdS s) (hp : parB t = false) : Calls Tryz.prog 53 #[.pointer (some ⟨k, 0, none⟩), .int .i64 s, .string t] w (ExP L q w k g x M K (exQ M s t) (plnQ M s t last)) := by
  have e1 : exQ M s t = (M, Rs.err 22) := by unfold exQ; rw [if_neg hl, if_neg (fun c => c hg), if_pos hp]
  have e2 : plnQ M s t last = last := by unfold plnQ; rw [if_pos (.inr (.inr hp))]
  rw [e1, e2]
  have o1 : Only (fun _ => False) w (w.alloc (.cells #[.int .i64 0, .int .i64 0, .slice none 0 0, .slice none 0 0] 52)) := (Only.refl _ w).alloc _
  have N1 := Has.new w #[.int .i64 0, .int .i64 0, .slice none 0 0, .slice none 0 0] 52
  have HR := hide R
  have HA := hide (show Has (w.alloc (.cells #[.int .i64 0, .int .i64 0, .slice none 0 0, .slice none 0 0] 52)) w.heap.size #[.int .i64 0, .int .i64 0, .slice none 0 0, .slice none 0 0] 52 ∧ Only (fun _ => False) w (w.alloc (.cells #[.int .i64 0, .int .i64 0, .slice none 0 0, .slice none 0 0] 52)) from ⟨N1, o1⟩)
  clear e1 e2 o1 N1 R
  have b0 : ¬ ((t.size : Int) > 256) := by omega
  have CG := xgood_any s (w.alloc (.cells #[.int .i64 0, .int .i64 0, .slice none 0 0, .slice none 0 0] 52))
  rw [decide_eq_true hg] at CG
  have CG := hide CG
  clear hg hl
  have CP := sqparse_any t (w.alloc (.cells #[.int .i64 0, .int .i64 0, .slice none 0 0, .slice none 0 0] 52))
  have Hp := hide hp
  clear hp
  have CP := hide CP
  go_enter Tryz.func53, Tryz.ntmps53
  go_upto_region 1 with fail
  generalize w.alloc (.cells #[.int .i64 0, .int .i64 0, .slice none 0 0, .slice none 0 0] 52) = w1 at *
  generalize hH : w.heap.size = H at *
  go_wp2_with fail
  refine (unhide CG).mono ?_
  rintro e w2 ⟨rfl, rfl⟩
  clear CG
  go_wp2_with fail
  refine (unhide CP).mono ?_
  rintro e w2 ⟨S, st, rfl, hL, hO, _, o2⟩
  rw [unhide Hp]
  obtain ⟨a2, n2, c2, a4, n4, c4, a6, n6, c6, a7, n7, c7, a8, n8, c8, hcs⟩ := hO.cells_ hL
  rw [hcs]
  have HA2 := hide (And.intro ((unhide HA).1.keep o2 (fun e => e)) ((unhide HA).2.trans o2 (fun _ _ e => e)))
  clear HA CP hL hO hcs o2
  obtain ⟨cells, hcells⟩ : ∃ c : Array Value, c = #[.int .i64 st.kind, .string st.table, .slice a2 n2 c2, .int .i64 st.pk, .slice a4 n4 c4, .bool st.star, .slice a6 n6 c6, .slice a7 n7 c7, .slice a8 n8 c8, .string st.order, .bool st.desc, .bool st.hasL, .int .i64 st.lim] := ⟨_, rfl⟩
  have oP : Only (fun _ => False) w2 (w2.alloc (.cells cells 173)) := (Only.refl _ _).alloc _
  have HA := hide (And.intro ((unhide HA2).1.keep oP (fun e => e)) ((unhide HA2).2.trans oP (fun _ _ e => e)))
  rw [hcells] at HA
  clear oP HA2
  go_upto_region 6 with fail
  generalize w2.alloc (.cells #[.int .i64 st.kind, .string st.table, .slice a2 n2 c2, .int .i64 st.pk, .slice a4 n4 c4, .bool st.star, .slice a6 n6 c6, .slice a7 n7 c7, .slice a8 n8 c8, .string st.order, .bool st.desc, .bool st.hasL, .int .i64 st.lim] 173) = w3 at *
  clear hcells
  have CF := hide (sqfailE_any 22 w3)
  go_wp2_with fail
  refine (unhide CF).mono ?_
  rintro e w7 ⟨rfl, o7⟩
  have RB7 := (unhide HA).1.keep o7 (fun e => e)
  have HO7 := hide ((unhide HA).2.trans o7 (fun _ _ e => e))
  have r0 : w7.cell? ⟨H, 0, none⟩ = some (.int .i64 0) := RB7.cell 0
  have r1 : w7.cell? ⟨H, 1, none⟩ = some (.int .i64 0) := RB7.cell 1
  have r2 : w7.cell? ⟨H, 2, none⟩ = some (.slice none 0 0) := RB7.cell 2
  have r3 : w7.cell? ⟨H, 3, none⟩ = some (.slice none 0 0) := RB7.cell 3
  have rf0 := RB7.free 0
  have rf1 := RB7.free 1
  have rf2 := RB7.free 2
  have rf3 := RB7.free 3
  have rl := RB7.lt
  have H5 := has_setAll [.int .i64 22, .int .i64 0, .slice none 0 0, .slice none 0 0] RB7 rfl
  have O5 := only_setW H [.int .i64 22, .int .i64 0, .slice none 0 0, .slice none 0 0] 0 w7
  have FF := hide (And.intro H5 (show ExP L q w k g x M K (M, Rs.err 22) last (.returned (.agg #[.int .i64 22, .int .i64 0, .slice none 0 0, .slice none 0 0])) (setW H [.int .i64 22, .int .i64 0, .slice none 0 0, .slice none 0 0] 0 w7) from (by
    have o9 := (unhide HO7).lateS O5 (fun b (e : b = H) => by omega)
    exact ⟨none, 0, 0, none, 0, 0, w.heap.size, q, K, rfl, RsQ.none_ rfl rfl, fun b h1 h2 => by omega, (unhide HR).quiet o9, fun b hb => .inl hb, .inl ⟨rfl, rfl, o9.mono (fun _ _ e => e.elim)⟩⟩)))
  simp only [setW, Nat.zero_add, Nat.reduceAdd] at FF
  clear H5 O5
  clear CF o7 RB7
  go_wp2_with fail
  refine bodyPost_ret (sres_result rfl _ rfl (unhide FF).1 rfl) rfl ?_
  exact (unhide FF).2
set_option maxRecDepth 100000 in
set_option maxHeartbeats 16000000 in
theorem sqexec_begin (R : QR q w k g x M K last) (hrc : q.recs.length ≤ 300) (hl : ¬ 256 < t.size) (hg : gdS s) (hp : parB t = true) (hk : (parQ t).2.kind = 1) : Calls Tryz.prog 53 #[.pointer (some ⟨k, 0, none⟩), .int .i64 s, .string t] w (ExP L q w k g x M K (exQ M s t) (plnQ M s t last)) := by
  obtain ⟨st, hst⟩ : ∃ st, (parQ t).2 = st := ⟨_, rfl⟩
  have e1 : exQ M s t = stQ M s st := by unfold exQ; rw [if_neg hl, if_neg (fun c => c hg), hp, hst]; rfl
  have HOK := hide (show StOk st ∧ StB st from by rw [← hst]; exact ⟨parQ_ok t, parQ_b (by omega)⟩)
  have hpl : plnQ M s t last = (if st.kind = 8 ∨ st.kind = 9 ∨ st.kind = 10 then plnR M st last else last) := by unfold plnQ; rw [if_neg (fun c => c.elim hl (fun c => c.elim (fun c => c hg) (fun c => by rw [hp] at c; cases c))), hst]
  rw [hst] at hk
  obtain ⟨RR, hRR⟩ : ∃ r, stQ M s st = r := ⟨_, rfl⟩
  rw [e1, hRR, hpl]
  obtain ⟨pl, hpl2⟩ : ∃ p, (if st.kind = 8 ∨ st.kind = 9 ∨ st.kind = 10 then plnR M st last else last) = p := ⟨_, rfl⟩
  rw [hpl2]
  have HRR := hide hRR
  have HPL := hide hpl2
  have Hst := hide hst
  have o1 : Only (fun _ => False) w (w.alloc (.cells #[.int .i64 0, .int .i64 0, .slice none 0 0, .slice none 0 0] 52)) := (Only.refl _ w).alloc _
  have N1 := Has.new w #[.int .i64 0, .int .i64 0, .slice none 0 0, .slice none 0 0] 52
  have HR := hide R
  have HA := hide (show Has (w.alloc (.cells #[.int .i64 0, .int .i64 0, .slice none 0 0, .slice none 0 0] 52)) w.heap.size #[.int .i64 0, .int .i64 0, .slice none 0 0, .slice none 0 0] 52 ∧ Only (fun _ => False) w (w.alloc (.cells #[.int .i64 0, .int .i64 0, .slice none 0 0, .slice none 0 0] 52)) ∧ (w.alloc (.cells #[.int .i64 0, .int .i64 0, .slice none 0 0, .slice none 0 0] 52)).heap.size = w.heap.size + 1 from ⟨N1, o1, by simp⟩)
  have CG := xgood_any s (w.alloc (.cells #[.int .i64 0, .int .i64 0, .slice none 0 0, .slice none 0 0] 52))
  rw [decide_eq_true hg] at CG
  have CG := hide CG
  have b0 : ¬ ((t.size : Int) > 256) := by omega
  have CP := sqparse_any t (w.alloc (.cells #[.int .i64 0, .int .i64 0, .slice none 0 0, .slice none 0 0] 52))
  have Hp := hide hp
  have CP := hide CP
  have HG := hide hg
  have HKD := hide hk
  clear e1 hpl hpl2 hRR hst o1 N1 R hl hg hp hk
  go_enter Tryz.func53, Tryz.ntmps53
  go_upto_region 1 with fail
  generalize w.alloc (.cells #[.int .i64 0, .int .i64 0, .slice none 0 0, .slice none 0 0] 52) = w1 at *
  generalize hH : w.heap.size = H at *
  go_wp2_with fail
  refine (unhide CG).mono ?_
  rintro e w2 ⟨rfl, rfl⟩
  clear CG
  go_wp2_with fail
  refine (unhide CP).mono ?_
  rintro e w2 ⟨S, st', rfl, hL, hO, hse, o2⟩
  have hse := ((hse (unhide Hp)).trans (unhide Hst)).symm
  subst hse
  rw [unhide Hp]
  have hsz := (unhide HA).2.2
  have hS : StM q x k K w2 S st := ⟨⟨hL.own, hL.sep, fun j hj b hb => Nat.zero_le _⟩, hO, fun j hj b hb => (unhide HR).apn (by have := hL.new j hj b hb; omega)⟩
  have hls : ∀ j, sqj j → ∀ b, (S.cell j).ownBlock = some b → w.heap.size + 1 ≤ b := fun j hj b hb => by have := hL.new j hj b hb; omega
  obtain ⟨a2, c2, a4, c4, a6, c6, a7, c7, a8, c8, hcs, _⟩ := hS.cells_
  rw [hcs]
  have oP : Only (fun _ => False) w2 (w2.alloc (.cells #[.int .i64 st.kind, .string st.table, .slice a2 st.defs.length c2, .int .i64 st.pk, .slice a4 st.lits.length c4, .bool st.star, .slice a6 st.list.length c6, .slice a7 st.sets.length c7, .slice a8 st.wh.length c8, .string st.order, .bool st.desc, .bool st.hasL, .int .i64 st.lim] 173)) := (Only.refl _ _).alloc _
  have NP := Has.new w2 #[.int .i64 st.kind, .string st.table, .slice a2 st.defs.length c2, .int .i64 st.pk, .slice a4 st.lits.length c4, .bool st.star, .slice a6 st.list.length c6, .slice a7 st.sets.length c7, .slice a8 st.wh.length c8, .string st.order, .bool st.desc, .bool st.hasL, .int .i64 st.lim] 173
  have oA := ((unhide HA).2.1.trans o2 (fun _ _ e => e)).trans oP (fun _ _ e => e)
  have zz := o2.size
  have HX := hide (show Has (w2.alloc (.cells #[.int .i64 st.kind, .string st.table, .slice a2 st.defs.length c2, .int .i64 st.pk, .slice a4 st.lits.length c4, .bool st.star, .slice a6 st.list.length c6, .slice a7 st.sets.length c7, .slice a8 st.wh.length c8, .string st.order, .bool st.desc, .bool st.hasL, .int .i64 st.lim] 173)) w2.heap.size #[.int .i64 st.kind, .string st.table, .slice a2 st.defs.length c2, .int .i64 st.pk, .slice a4 st.lits.length c4, .bool st.star, .slice a6 st.list.length c6, .slice a7 st.sets.length c7, .slice a8 st.wh.length c8, .string st.order, .bool st.desc, .bool st.hasL, .int .i64 st.lim] 173 ∧ Has (w2.alloc (.cells #[.int .i64 st.kind, .string st.table, .slice a2 st.defs.length c2, .int .i64 st.pk, .slice a4 st.lits.length c4, .bool st.star, .slice a6 st.list.length c6, .slice a7 st.sets.length c7, .slice a8 st.wh.length c8, .string st.order, .bool st.desc, .bool st.hasL, .int .i64 st.lim] 173)) H #[.int .i64 0, .int .i64 0, .slice none 0 0, .slice none 0 0] 52 ∧ QR q (w2.alloc (.cells #[.int .i64 st.kind, .string st.table, .slice a2 st.defs.length c2, .int .i64 st.pk, .slice a4 st.lits.length c4, .bool st.star, .slice a6 st.list.length c6, .slice a7 st.sets.length c7, .slice a8 st.wh.length c8, .string st.order, .bool st.desc, .bool st.hasL, .int .i64 st.lim] 173)) k g x M K last ∧ StM q x k K (w2.alloc (.cells #[.int .i64 st.kind, .string st.table, .slice a2 st.defs.length c2, .int .i64 st.pk, .slice a4 st.lits.length c4, .bool st.star, .slice a6 st.list.length c6, .slice a7 st.sets.length c7, .slice a8 st.wh.length c8, .string st.order, .bool st.desc, .bool st.hasL, .int .i64 st.lim] 173)) S st ∧ Only (fun _ => False) w (w2.alloc (.cells #[.int .i64 st.kind, .string st.table, .slice a2 st.defs.length c2, .int .i64 st.pk, .slice a4 st.lits.length c4, .bool st.star, .slice a6 st.list.length c6, .slice a7 st.sets.length c7, .slice a8 st.wh.length c8, .string st.order, .bool st.desc, .bool st.hasL, .int .i64 st.lim] 173)) ∧ H < w2.heap.size from ⟨NP, ((unhide HA).1.keep o2 (fun e => e)).keep oP (fun e => e), (unhide HR).quiet oA, (hS.quiet oP), oA, by omega⟩)
  have HCS := hide (And.intro hcs hls)
  clear hL hO hS hls hcs oP NP oA zz o2 hsz CP HA
  go_upto_region 8 with fail
  generalize w2.alloc (.cells #[.int .i64 st.kind, .string st.table, .slice a2 st.defs.length c2, .int .i64 st.pk, .slice a4 st.lits.length c4, .bool st.star, .slice a6 st.list.length c6, .slice a7 st.sets.length c7, .slice a8 st.wh.length c8, .string st.order, .bool st.desc, .bool st.hasL, .int .i64 st.lim] 173) = w3 at *
  generalize w2.heap.size = P at *
  have t0 : w3.cell? ⟨P, 0, none⟩ = some (.int .i64 st.kind) := (unhide HX).1.cell 0
  have t1 : w3.cell? ⟨P, 1, none⟩ = some (.string st.table) := (unhide HX).1.cell 1
  have t2 : w3.cell? ⟨P, 2, none⟩ = some (.slice a2 st.defs.length c2) := (unhide HX).1.cell 2
  have t3 : w3.cell? ⟨P, 3, none⟩ = some (.int .i64 st.pk) := (unhide HX).1.cell 3
  have t4 : w3.cell? ⟨P, 4, none⟩ = some (.slice a4 st.lits.length c4) := (unhide HX).1.cell 4
  have t5 : w3.cell? ⟨P, 5, none⟩ = some (.bool st.star) := (unhide HX).1.cell 5
  have t6 : w3.cell? ⟨P, 6, none⟩ = some (.slice a6 st.list.length c6) := (unhide HX).1.cell 6
  have t7 : w3.cell? ⟨P, 7, none⟩ = some (.slice a7 st.sets.length c7) := (unhide HX).1.cell 7
  have t8 : w3.cell? ⟨P, 8, none⟩ = some (.slice a8 st.wh.length c8) := (unhide HX).1.cell 8
  have t9 : w3.cell? ⟨P, 9, none⟩ = some (.string st.order) := (unhide HX).1.cell 9
  have t10 : w3.cell? ⟨P, 10, none⟩ = some (.bool st.desc) := (unhide HX).1.cell 10
  have t11 : w3.cell? ⟨P, 11, none⟩ = some (.bool st.hasL) := (unhide HX).1.cell 11
  have t12 : w3.cell? ⟨P, 12, none⟩ = some (.int .i64 st.lim) := (unhide HX).1.cell 12
  have tl := (unhide HX).1.lt
  have e0 : w3.cell? ⟨k, 0, none⟩ = some (.pointer (some ⟨g, 0, none⟩)) := (unhide HX).2.2.1.has.cell 0
  have kl := (unhide HX).2.2.1.has.lt
  have hk := unhide HKD
  have b1 : (st.kind == 1) = true := by simp [hk]
  have b2 : (st.kind == 2) = false := by simp [hk]
  have b3 : (st.kind == 3) = false := by simp [hk]
  have b4 : (st.kind == 4) = false := by simp [hk]
  have b5 : (st.kind == 5) = false := by simp [hk]
  have b6 : (st.kind == 6) = false := by simp [hk]
  have CB := qbegin_any (L := L) (unhide HX).2.2.1.rx (unhide HG)
  have hq : beQ M s = RR := by rw [← unhide HRR]; unfold stQ; rw [if_pos hk]; rfl
  have hp2 : last = pl := by rw [← unhide HPL, if_neg (show ¬ (st.kind = 8 ∨ st.kind = 9 ∨ st.kind = 10) by rw [hk]; decide)]
  subst hp2
  have HLL := hide (show RR.2.cols = [] ∧ RR.2.rows = [] ∧ RR.2.n = 0 by rw [← hq]; exact beQ_l)
  rw [hq] at CB
  have CB := hide CB
  clear hq hk
  go_wp2_with fail
  refine (unhide CB).mono ?_
  rintro e w5 hb
  have RBc := (unhide HX).2.1
  have hen := hb.en (unhide HX).2.2.1
  obtain ⟨rfl, _⟩ := hb
  have RB5 : Has w5 H #[.int .i64 0, .int .i64 0, .slice none 0 0, .slice none 0 0] 52 := by
    obtain ⟨q', K', hQ, hK, hA, hc⟩ := hen
    have ha : Apa q x k K H := (unhide HR).apn (by omega)
    rcases hc with ⟨_, _, o⟩ | ⟨_, _, _, _, _, _, _, _, o⟩
    · exact (RBc).keep o ha.SK
    · exact (RBc).keep o (fun c => c.elim ha.1 ha.2.2.1)
  have HEN := hide hen
  have HRB5 := hide RB5
  clear hen RB5
  clear CB RBc t0 t1 t2 t3 t4 t5 t6 t7 t8 t9 t10 t11 t12 tl e0 kl
  have CF := hide (sqfailE_any RR.2.e w5)
  go_wp2_with fail
  refine (unhide CF).mono ?_
  rintro e w7 ⟨rfl, o7⟩
  have RB7 := (unhide HRB5).keep o7 (fun e => e)
  have HO7 := hide o7
  have r0 : w7.cell? ⟨H, 0, none⟩ = some (.int .i64 0) := RB7.cell 0
  have r1 : w7.cell? ⟨H, 1, none⟩ = some (.int .i64 0) := RB7.cell 1
  have r2 : w7.cell? ⟨H, 2, none⟩ = some (.slice none 0 0) := RB7.cell 2
  have r3 : w7.cell? ⟨H, 3, none⟩ = some (.slice none 0 0) := RB7.cell 3
  have rf0 := RB7.free 0
  have rf1 := RB7.free 1
  have rf2 := RB7.free 2
  have rf3 := RB7.free 3
  have rl := RB7.lt
  have H5 := has_setAll [.int .i64 RR.2.e, .int .i64 0, .slice none 0 0, .slice none 0 0] RB7 rfl
  have O5 := only_setW H [.int .i64 RR.2.e, .int .i64 0, .slice none 0 0, .slice none 0 0] 0 w7
  have FF := hide (And.intro H5 (show ExP L q w k g x M K RR last (.returned (.agg #[.int .i64 RR.2.e, .int .i64 0, .slice none 0 0, .slice none 0 0])) (setW H [.int .i64 RR.2.e, .int .i64 0, .slice none 0 0, .slice none 0 0] 0 w7) from (by
    exact EnP.ex (unhide HEN) ((unhide HX).2.2.2.2.1.mono (fun _ _ e => e.elim)) (unhide HR) (by omega) (by have := (unhide HX).2.1.lt; omega) (((unhide HO7).mono (fun _ _ e => e.elim)).trans O5 (fun _ _ e => e)) (unhide HLL))))
  simp only [setW, Nat.zero_add, Nat.reduceAdd] at FF
  clear H5 O5
  clear CF o7 RB7
  go_wp2_with fail
  refine bodyPost_ret (sres_result rfl _ rfl (unhide FF).1 rfl) rfl ?_
  exact (unhide FF).2
set_option maxRecDepth 100000 in
set_option maxHeartbeats 16000000 in
theorem sqexec_commit (R : QR q w k g x M K last) (hL : L) (hrc : q.recs.length ≤ 300) (hl : ¬ 256 < t.size) (hg : gdS s) (hp : parB t = true) (hk : (parQ t).2.kind = 2) : Calls Tryz.prog 53 #[.pointer (some ⟨k, 0, none⟩), .int .i64 s, .string t] w (ExP L q w k g x M K (exQ M s t) (plnQ M s t last)) := by
  obtain ⟨st, hst⟩ : ∃ st, (parQ t).2 = st := ⟨_, rfl⟩
  have e1 : exQ M s t = stQ M s st := by unfold exQ; rw [if_neg hl, if_neg (fun c => c hg), hp, hst]; rfl
  have HOK := hide (show StOk st ∧ StB st from by rw [← hst]; exact ⟨parQ_ok t, parQ_b (by omega)⟩)
  have hpl : plnQ M s t last = (if st.kind = 8 ∨ st.kind = 9 ∨ st.kind = 10 then plnR M st last else last) := by unfold plnQ; rw [if_neg (fun c => c.elim hl (fun c => c.elim (fun c => c hg) (fun c => by rw [hp] at c; cases c))), hst]
  rw [hst] at hk
  obtain ⟨RR, hRR⟩ : ∃ r, stQ M s st = r := ⟨_, rfl⟩
  rw [e1, hRR, hpl]
  obtain ⟨pl, hpl2⟩ : ∃ p, (if st.kind = 8 ∨ st.kind = 9 ∨ st.kind = 10 then plnR M st last else last) = p := ⟨_, rfl⟩
  rw [hpl2]
  have HRR := hide hRR
  have HPL := hide hpl2
  have Hst := hide hst
  have o1 : Only (fun _ => False) w (w.alloc (.cells #[.int .i64 0, .int .i64 0, .slice none 0 0, .slice none 0 0] 52)) := (Only.refl _ w).alloc _
  have N1 := Has.new w #[.int .i64 0, .int .i64 0, .slice none 0 0, .slice none 0 0] 52
  have HR := hide R
  have HA := hide (show Has (w.alloc (.cells #[.int .i64 0, .int .i64 0, .slice none 0 0, .slice none 0 0] 52)) w.heap.size #[.int .i64 0, .int .i64 0, .slice none 0 0, .slice none 0 0] 52 ∧ Only (fun _ => False) w (w.alloc (.cells #[.int .i64 0, .int .i64 0, .slice none 0 0, .slice none 0 0] 52)) ∧ (w.alloc (.cells #[.int .i64 0, .int .i64 0, .slice none 0 0, .slice none 0 0] 52)).heap.size = w.heap.size + 1 from ⟨N1, o1, by simp⟩)
  have CG := xgood_any s (w.alloc (.cells #[.int .i64 0, .int .i64 0, .slice none 0 0, .slice none 0 0] 52))
  rw [decide_eq_true hg] at CG
  have CG := hide CG
  have b0 : ¬ ((t.size : Int) > 256) := by omega
  have CP := sqparse_any t (w.alloc (.cells #[.int .i64 0, .int .i64 0, .slice none 0 0, .slice none 0 0] 52))
  have Hp := hide hp
  have CP := hide CP
  have HG := hide hg
  have HKD := hide hk
  clear e1 hpl hpl2 hRR hst o1 N1 R hl hg hp hk
  go_enter Tryz.func53, Tryz.ntmps53
  go_upto_region 1 with fail
  generalize w.alloc (.cells #[.int .i64 0, .int .i64 0, .slice none 0 0, .slice none 0 0] 52) = w1 at *
  generalize hH : w.heap.size = H at *
  go_wp2_with fail
  refine (unhide CG).mono ?_
  rintro e w2 ⟨rfl, rfl⟩
  clear CG
  go_wp2_with fail
  refine (unhide CP).mono ?_
  rintro e w2 ⟨S, st', rfl, hL, hO, hse, o2⟩
  have hse := ((hse (unhide Hp)).trans (unhide Hst)).symm
  subst hse
  rw [unhide Hp]
  have hsz := (unhide HA).2.2
  have hS : StM q x k K w2 S st := ⟨⟨hL.own, hL.sep, fun j hj b hb => Nat.zero_le _⟩, hO, fun j hj b hb => (unhide HR).apn (by have := hL.new j hj b hb; omega)⟩
  have hls : ∀ j, sqj j → ∀ b, (S.cell j).ownBlock = some b → w.heap.size + 1 ≤ b := fun j hj b hb => by have := hL.new j hj b hb; omega
  obtain ⟨a2, c2, a4, c4, a6, c6, a7, c7, a8, c8, hcs, _⟩ := hS.cells_
  rw [hcs]
  have oP : Only (fun _ => False) w2 (w2.alloc (.cells #[.int .i64 st.kind, .string st.table, .slice a2 st.defs.length c2, .int .i64 st.pk, .slice a4 st.lits.length c4, .bool st.star, .slice a6 st.list.length c6, .slice a7 st.sets.length c7, .slice a8 st.wh.length c8, .string st.order, .bool st.desc, .bool st.hasL, .int .i64 st.lim] 173)) := (Only.refl _ _).alloc _
  have NP := Has.new w2 #[.int .i64 st.kind, .string st.table, .slice a2 st.defs.length c2, .int .i64 st.pk, .slice a4 st.lits.length c4, .bool st.star, .slice a6 st.list.length c6, .slice a7 st.sets.length c7, .slice a8 st.wh.length c8, .string st.order, .bool st.desc, .bool st.hasL, .int .i64 st.lim] 173
  have oA := ((unhide HA).2.1.trans o2 (fun _ _ e => e)).trans oP (fun _ _ e => e)
  have zz := o2.size
  have HX := hide (show Has (w2.alloc (.cells #[.int .i64 st.kind, .string st.table, .slice a2 st.defs.length c2, .int .i64 st.pk, .slice a4 st.lits.length c4, .bool st.star, .slice a6 st.list.length c6, .slice a7 st.sets.length c7, .slice a8 st.wh.length c8, .string st.order, .bool st.desc, .bool st.hasL, .int .i64 st.lim] 173)) w2.heap.size #[.int .i64 st.kind, .string st.table, .slice a2 st.defs.length c2, .int .i64 st.pk, .slice a4 st.lits.length c4, .bool st.star, .slice a6 st.list.length c6, .slice a7 st.sets.length c7, .slice a8 st.wh.length c8, .string st.order, .bool st.desc, .bool st.hasL, .int .i64 st.lim] 173 ∧ Has (w2.alloc (.cells #[.int .i64 st.kind, .string st.table, .slice a2 st.defs.length c2, .int .i64 st.pk, .slice a4 st.lits.length c4, .bool st.star, .slice a6 st.list.length c6, .slice a7 st.sets.length c7, .slice a8 st.wh.length c8, .string st.order, .bool st.desc, .bool st.hasL, .int .i64 st.lim] 173)) H #[.int .i64 0, .int .i64 0, .slice none 0 0, .slice none 0 0] 52 ∧ QR q (w2.alloc (.cells #[.int .i64 st.kind, .string st.table, .slice a2 st.defs.length c2, .int .i64 st.pk, .slice a4 st.lits.length c4, .bool st.star, .slice a6 st.list.length c6, .slice a7 st.sets.length c7, .slice a8 st.wh.length c8, .string st.order, .bool st.desc, .bool st.hasL, .int .i64 st.lim] 173)) k g x M K last ∧ StM q x k K (w2.alloc (.cells #[.int .i64 st.kind, .string st.table, .slice a2 st.defs.length c2, .int .i64 st.pk, .slice a4 st.lits.length c4, .bool st.star, .slice a6 st.list.length c6, .slice a7 st.sets.length c7, .slice a8 st.wh.length c8, .string st.order, .bool st.desc, .bool st.hasL, .int .i64 st.lim] 173)) S st ∧ Only (fun _ => False) w (w2.alloc (.cells #[.int .i64 st.kind, .string st.table, .slice a2 st.defs.length c2, .int .i64 st.pk, .slice a4 st.lits.length c4, .bool st.star, .slice a6 st.list.length c6, .slice a7 st.sets.length c7, .slice a8 st.wh.length c8, .string st.order, .bool st.desc, .bool st.hasL, .int .i64 st.lim] 173)) ∧ H < w2.heap.size from ⟨NP, ((unhide HA).1.keep o2 (fun e => e)).keep oP (fun e => e), (unhide HR).quiet oA, (hS.quiet oP), oA, by omega⟩)
  have HCS := hide (And.intro hcs hls)
  clear hL hO hS hls hcs oP NP oA zz o2 hsz CP HA
  go_upto_region 8 with fail
  generalize w2.alloc (.cells #[.int .i64 st.kind, .string st.table, .slice a2 st.defs.length c2, .int .i64 st.pk, .slice a4 st.lits.length c4, .bool st.star, .slice a6 st.list.length c6, .slice a7 st.sets.length c7, .slice a8 st.wh.length c8, .string st.order, .bool st.desc, .bool st.hasL, .int .i64 st.lim] 173) = w3 at *
  generalize w2.heap.size = P at *
  have t0 : w3.cell? ⟨P, 0, none⟩ = some (.int .i64 st.kind) := (unhide HX).1.cell 0
  have t1 : w3.cell? ⟨P, 1, none⟩ = some (.string st.table) := (unhide HX).1.cell 1
  have t2 : w3.cell? ⟨P, 2, none⟩ = some (.slice a2 st.defs.length c2) := (unhide HX).1.cell 2
  have t3 : w3.cell? ⟨P, 3, none⟩ = some (.int .i64 st.pk) := (unhide HX).1.cell 3
  have t4 : w3.cell? ⟨P, 4, none⟩ = some (.slice a4 st.lits.length c4) := (unhide HX).1.cell 4
  have t5 : w3.cell? ⟨P, 5, none⟩ = some (.bool st.star) := (unhide HX).1.cell 5
  have t6 : w3.cell? ⟨P, 6, none⟩ = some (.slice a6 st.list.length c6) := (unhide HX).1.cell 6
  have t7 : w3.cell? ⟨P, 7, none⟩ = some (.slice a7 st.sets.length c7) := (unhide HX).1.cell 7
  have t8 : w3.cell? ⟨P, 8, none⟩ = some (.slice a8 st.wh.length c8) := (unhide HX).1.cell 8
  have t9 : w3.cell? ⟨P, 9, none⟩ = some (.string st.order) := (unhide HX).1.cell 9
  have t10 : w3.cell? ⟨P, 10, none⟩ = some (.bool st.desc) := (unhide HX).1.cell 10
  have t11 : w3.cell? ⟨P, 11, none⟩ = some (.bool st.hasL) := (unhide HX).1.cell 11
  have t12 : w3.cell? ⟨P, 12, none⟩ = some (.int .i64 st.lim) := (unhide HX).1.cell 12
  have tl := (unhide HX).1.lt
  have e0 : w3.cell? ⟨k, 0, none⟩ = some (.pointer (some ⟨g, 0, none⟩)) := (unhide HX).2.2.1.has.cell 0
  have kl := (unhide HX).2.2.1.has.lt
  have hk := unhide HKD
  have b1 : (st.kind == 1) = false := by simp [hk]
  have b2 : (st.kind == 2) = true := by simp [hk]
  have b3 : (st.kind == 3) = false := by simp [hk]
  have b4 : (st.kind == 4) = false := by simp [hk]
  have b5 : (st.kind == 5) = false := by simp [hk]
  have b6 : (st.kind == 6) = false := by simp [hk]
  have CB := qcommit_any (L := L) (unhide HX).2.2.1.rx hrc (unhide HG) hL
  have hq : coQ M s = RR := by rw [← unhide HRR]; unfold stQ; rw [if_neg (show ¬ st.kind = 1 by rw [hk]; decide)]; rw [if_pos hk]; rfl
  have hp2 : last = pl := by rw [← unhide HPL, if_neg (show ¬ (st.kind = 8 ∨ st.kind = 9 ∨ st.kind = 10) by rw [hk]; decide)]
  subst hp2
  have HLL := hide (show RR.2.cols = [] ∧ RR.2.rows = [] ∧ RR.2.n = 0 by rw [← hq]; exact coQ_l)
  rw [hq] at CB
  have CB := hide CB
  clear hq hk
  go_wp2_with fail
  refine (unhide CB).mono ?_
  rintro e w5 hb
  have RBc := (unhide HX).2.1
  have hen := hb.en (unhide HX).2.2.1
  obtain ⟨rfl, _⟩ := hb
  have RB5 : Has w5 H #[.int .i64 0, .int .i64 0, .slice none 0 0, .slice none 0 0] 52 := by
    obtain ⟨q', K', hQ, hK, hA, hc⟩ := hen
    have ha : Apa q x k K H := (unhide HR).apn (by omega)
    rcases hc with ⟨_, _, o⟩ | ⟨_, _, _, _, _, _, _, _, o⟩
    · exact (RBc).keep o ha.SK
    · exact (RBc).keep o (fun c => c.elim ha.1 ha.2.2.1)
  have HEN := hide hen
  have HRB5 := hide RB5
  clear hen RB5
  clear CB RBc t0 t1 t2 t3 t4 t5 t6 t7 t8 t9 t10 t11 t12 tl e0 kl
  have CF := hide (sqfailE_any RR.2.e w5)
  go_wp2_with fail
  refine (unhide CF).mono ?_
  rintro e w7 ⟨rfl, o7⟩
  have RB7 := (unhide HRB5).keep o7 (fun e => e)
  have HO7 := hide o7
  have r0 : w7.cell? ⟨H, 0, none⟩ = some (.int .i64 0) := RB7.cell 0
  have r1 : w7.cell? ⟨H, 1, none⟩ = some (.int .i64 0) := RB7.cell 1
  have r2 : w7.cell? ⟨H, 2, none⟩ = some (.slice none 0 0) := RB7.cell 2
  have r3 : w7.cell? ⟨H, 3, none⟩ = some (.slice none 0 0) := RB7.cell 3
  have rf0 := RB7.free 0
  have rf1 := RB7.free 1
  have rf2 := RB7.free 2
  have rf3 := RB7.free 3
  have rl := RB7.lt
  have H5 := has_setAll [.int .i64 RR.2.e, .int .i64 0, .slice none 0 0, .slice none 0 0] RB7 rfl
  have O5 := only_setW H [.int .i64 RR.2.e, .int .i64 0, .slice none 0 0, .slice none 0 0] 0 w7
  have FF := hide (And.intro H5 (show ExP L q w k g x M K RR last (.returned (.agg #[.int .i64 RR.2.e, .int .i64 0, .slice none 0 0, .slice none 0 0])) (setW H [.int .i64 RR.2.e, .int .i64 0, .slice none 0 0, .slice none 0 0] 0 w7) from (by
    exact EnP.ex (unhide HEN) ((unhide HX).2.2.2.2.1.mono (fun _ _ e => e.elim)) (unhide HR) (by omega) (by have := (unhide HX).2.1.lt; omega) (((unhide HO7).mono (fun _ _ e => e.elim)).trans O5 (fun _ _ e => e)) (unhide HLL))))
  simp only [setW, Nat.zero_add, Nat.reduceAdd] at FF
  clear H5 O5
  clear CF o7 RB7
  go_wp2_with fail
  refine bodyPost_ret (sres_result rfl _ rfl (unhide FF).1 rfl) rfl ?_
  exact (unhide FF).2
set_option maxRecDepth 100000 in
set_option maxHeartbeats 16000000 in
theorem sqexec_roll (R : QR q w k g x M K last) (hrc : q.recs.length ≤ 300) (hl : ¬ 256 < t.size) (hg : gdS s) (hp : parB t = true) (hk : (parQ t).2.kind = 3) : Calls Tryz.prog 53 #[.pointer (some ⟨k, 0, none⟩), .int .i64 s, .string t] w (ExP L q w k g x M K (exQ M s t) (plnQ M s t last)) := by
  obtain ⟨st, hst⟩ : ∃ st, (parQ t).2 = st := ⟨_, rfl⟩
  have e1 : exQ M s t = stQ M s st := by unfold exQ; rw [if_neg hl, if_neg (fun c => c hg), hp, hst]; rfl
  have HOK := hide (show StOk st ∧ StB st from by rw [← hst]; exact ⟨parQ_ok t, parQ_b (by omega)⟩)
  have hpl : plnQ M s t last = (if st.kind = 8 ∨ st.kind = 9 ∨ st.kind = 10 then plnR M st last else last) := by unfold plnQ; rw [if_neg (fun c => c.elim hl (fun c => c.elim (fun c => c hg) (fun c => by rw [hp] at c; cases c))), hst]
  rw [hst] at hk
  obtain ⟨RR, hRR⟩ : ∃ r, stQ M s st = r := ⟨_, rfl⟩
  rw [e1, hRR, hpl]
  obtain ⟨pl, hpl2⟩ : ∃ p, (if st.kind = 8 ∨ st.kind = 9 ∨ st.kind = 10 then plnR M st last else last) = p := ⟨_, rfl⟩
  rw [hpl2]
  have HRR := hide hRR
  have HPL := hide hpl2
  have Hst := hide hst
  have o1 : Only (fun _ => False) w (w.alloc (.cells #[.int .i64 0, .int .i64 0, .slice none 0 0, .slice none 0 0] 52)) := (Only.refl _ w).alloc _
  have N1 := Has.new w #[.int .i64 0, .int .i64 0, .slice none 0 0, .slice none 0 0] 52
  have HR := hide R
  have HA := hide (show Has (w.alloc (.cells #[.int .i64 0, .int .i64 0, .slice none 0 0, .slice none 0 0] 52)) w.heap.size #[.int .i64 0, .int .i64 0, .slice none 0 0, .slice none 0 0] 52 ∧ Only (fun _ => False) w (w.alloc (.cells #[.int .i64 0, .int .i64 0, .slice none 0 0, .slice none 0 0] 52)) ∧ (w.alloc (.cells #[.int .i64 0, .int .i64 0, .slice none 0 0, .slice none 0 0] 52)).heap.size = w.heap.size + 1 from ⟨N1, o1, by simp⟩)
  have CG := xgood_any s (w.alloc (.cells #[.int .i64 0, .int .i64 0, .slice none 0 0, .slice none 0 0] 52))
  rw [decide_eq_true hg] at CG
  have CG := hide CG
  have b0 : ¬ ((t.size : Int) > 256) := by omega
  have CP := sqparse_any t (w.alloc (.cells #[.int .i64 0, .int .i64 0, .slice none 0 0, .slice none 0 0] 52))
  have Hp := hide hp
  have CP := hide CP
  have HG := hide hg
  have HKD := hide hk
  clear e1 hpl hpl2 hRR hst o1 N1 R hl hg hp hk
  go_enter Tryz.func53, Tryz.ntmps53
  go_upto_region 1 with fail
  generalize w.alloc (.cells #[.int .i64 0, .int .i64 0, .slice none 0 0, .slice none 0 0] 52) = w1 at *
  generalize hH : w.heap.size = H at *
  go_wp2_with fail
  refine (unhide CG).mono ?_
  rintro e w2 ⟨rfl, rfl⟩
  clear CG
  go_wp2_with fail
  refine (unhide CP).mono ?_
  rintro e w2 ⟨S, st', rfl, hL, hO, hse, o2⟩
  have hse := ((hse (unhide Hp)).trans (unhide Hst)).symm
  subst hse
  rw [unhide Hp]
  have hsz := (unhide HA).2.2
  have hS : StM q x k K w2 S st := ⟨⟨hL.own, hL.sep, fun j hj b hb => Nat.zero_le _⟩, hO, fun j hj b hb => (unhide HR).apn (by have := hL.new j hj b hb; omega)⟩
  have hls : ∀ j, sqj j → ∀ b, (S.cell j).ownBlock = some b → w.heap.size + 1 ≤ b := fun j hj b hb => by have := hL.new j hj b hb; omega
  obtain ⟨a2, c2, a4, c4, a6, c6, a7, c7, a8, c8, hcs, _⟩ := hS.cells_
  rw [hcs]
  have oP : Only (fun _ => False) w2 (w2.alloc (.cells #[.int .i64 st.kind, .string st.table, .slice a2 st.defs.length c2, .int .i64 st.pk, .slice a4 st.lits.length c4, .bool st.star, .slice a6 st.list.length c6, .slice a7 st.sets.length c7, .slice a8 st.wh.length c8, .string st.order, .bool st.desc, .bool st.hasL, .int .i64 st.lim] 173)) := (Only.refl _ _).alloc _
  have NP := Has.new w2 #[.int .i64 st.kind, .string st.table, .slice a2 st.defs.length c2, .int .i64 st.pk, .slice a4 st.lits.length c4, .bool st.star, .slice a6 st.list.length c6, .slice a7 st.sets.length c7, .slice a8 st.wh.length c8, .string st.order, .bool st.desc, .bool st.hasL, .int .i64 st.lim] 173
  have oA := ((unhide HA).2.1.trans o2 (fun _ _ e => e)).trans oP (fun _ _ e => e)
  have zz := o2.size
  have HX := hide (show Has (w2.alloc (.cells #[.int .i64 st.kind, .string st.table, .slice a2 st.defs.length c2, .int .i64 st.pk, .slice a4 st.lits.length c4, .bool st.star, .slice a6 st.list.length c6, .slice a7 st.sets.length c7, .slice a8 st.wh.length c8, .string st.order, .bool st.desc, .bool st.hasL, .int .i64 st.lim] 173)) w2.heap.size #[.int .i64 st.kind, .string st.table, .slice a2 st.defs.length c2, .int .i64 st.pk, .slice a4 st.lits.length c4, .bool st.star, .slice a6 st.list.length c6, .slice a7 st.sets.length c7, .slice a8 st.wh.length c8, .string st.order, .bool st.desc, .bool st.hasL, .int .i64 st.lim] 173 ∧ Has (w2.alloc (.cells #[.int .i64 st.kind, .string st.table, .slice a2 st.defs.length c2, .int .i64 st.pk, .slice a4 st.lits.length c4, .bool st.star, .slice a6 st.list.length c6, .slice a7 st.sets.length c7, .slice a8 st.wh.length c8, .string st.order, .bool st.desc, .bool st.hasL, .int .i64 st.lim] 173)) H #[.int .i64 0, .int .i64 0, .slice none 0 0, .slice none 0 0] 52 ∧ QR q (w2.alloc (.cells #[.int .i64 st.kind, .string st.table, .slice a2 st.defs.length c2, .int .i64 st.pk, .slice a4 st.lits.length c4, .bool st.star, .slice a6 st.list.length c6, .slice a7 st.sets.length c7, .slice a8 st.wh.length c8, .string st.order, .bool st.desc, .bool st.hasL, .int .i64 st.lim] 173)) k g x M K last ∧ StM q x k K (w2.alloc (.cells #[.int .i64 st.kind, .string st.table, .slice a2 st.defs.length c2, .int .i64 st.pk, .slice a4 st.lits.length c4, .bool st.star, .slice a6 st.list.length c6, .slice a7 st.sets.length c7, .slice a8 st.wh.length c8, .string st.order, .bool st.desc, .bool st.hasL, .int .i64 st.lim] 173)) S st ∧ Only (fun _ => False) w (w2.alloc (.cells #[.int .i64 st.kind, .string st.table, .slice a2 st.defs.length c2, .int .i64 st.pk, .slice a4 st.lits.length c4, .bool st.star, .slice a6 st.list.length c6, .slice a7 st.sets.length c7, .slice a8 st.wh.length c8, .string st.order, .bool st.desc, .bool st.hasL, .int .i64 st.lim] 173)) ∧ H < w2.heap.size from ⟨NP, ((unhide HA).1.keep o2 (fun e => e)).keep oP (fun e => e), (unhide HR).quiet oA, (hS.quiet oP), oA, by omega⟩)
  have HCS := hide (And.intro hcs hls)
  clear hL hO hS hls hcs oP NP oA zz o2 hsz CP HA
  go_upto_region 8 with fail
  generalize w2.alloc (.cells #[.int .i64 st.kind, .string st.table, .slice a2 st.defs.length c2, .int .i64 st.pk, .slice a4 st.lits.length c4, .bool st.star, .slice a6 st.list.length c6, .slice a7 st.sets.length c7, .slice a8 st.wh.length c8, .string st.order, .bool st.desc, .bool st.hasL, .int .i64 st.lim] 173) = w3 at *
  generalize w2.heap.size = P at *
  have t0 : w3.cell? ⟨P, 0, none⟩ = some (.int .i64 st.kind) := (unhide HX).1.cell 0
  have t1 : w3.cell? ⟨P, 1, none⟩ = some (.string st.table) := (unhide HX).1.cell 1
  have t2 : w3.cell? ⟨P, 2, none⟩ = some (.slice a2 st.defs.length c2) := (unhide HX).1.cell 2
  have t3 : w3.cell? ⟨P, 3, none⟩ = some (.int .i64 st.pk) := (unhide HX).1.cell 3
  have t4 : w3.cell? ⟨P, 4, none⟩ = some (.slice a4 st.lits.length c4) := (unhide HX).1.cell 4
  have t5 : w3.cell? ⟨P, 5, none⟩ = some (.bool st.star) := (unhide HX).1.cell 5
  have t6 : w3.cell? ⟨P, 6, none⟩ = some (.slice a6 st.list.length c6) := (unhide HX).1.cell 6
  have t7 : w3.cell? ⟨P, 7, none⟩ = some (.slice a7 st.sets.length c7) := (unhide HX).1.cell 7
  have t8 : w3.cell? ⟨P, 8, none⟩ = some (.slice a8 st.wh.length c8) := (unhide HX).1.cell 8
  have t9 : w3.cell? ⟨P, 9, none⟩ = some (.string st.order) := (unhide HX).1.cell 9
  have t10 : w3.cell? ⟨P, 10, none⟩ = some (.bool st.desc) := (unhide HX).1.cell 10
  have t11 : w3.cell? ⟨P, 11, none⟩ = some (.bool st.hasL) := (unhide HX).1.cell 11
  have t12 : w3.cell? ⟨P, 12, none⟩ = some (.int .i64 st.lim) := (unhide HX).1.cell 12
  have tl := (unhide HX).1.lt
  have e0 : w3.cell? ⟨k, 0, none⟩ = some (.pointer (some ⟨g, 0, none⟩)) := (unhide HX).2.2.1.has.cell 0
  have kl := (unhide HX).2.2.1.has.lt
  have hk := unhide HKD
  have b1 : (st.kind == 1) = false := by simp [hk]
  have b2 : (st.kind == 2) = false := by simp [hk]
  have b3 : (st.kind == 3) = true := by simp [hk]
  have b4 : (st.kind == 4) = false := by simp [hk]
  have b5 : (st.kind == 5) = false := by simp [hk]
  have b6 : (st.kind == 6) = false := by simp [hk]
  have CB := qroll_any (L := L) (unhide HX).2.2.1.rx (unhide HG)
  have hq : roQ M s = RR := by rw [← unhide HRR]; unfold stQ; rw [if_neg (show ¬ st.kind = 1 by rw [hk]; decide)]; rw [if_neg (show ¬ st.kind = 2 by rw [hk]; decide)]; rw [if_pos hk]; rfl
  have hp2 : last = pl := by rw [← unhide HPL, if_neg (show ¬ (st.kind = 8 ∨ st.kind = 9 ∨ st.kind = 10) by rw [hk]; decide)]
  subst hp2
  have HLL := hide (show RR.2.cols = [] ∧ RR.2.rows = [] ∧ RR.2.n = 0 by rw [← hq]; exact roQ_l)
  rw [hq] at CB
  have CB := hide CB
  clear hq hk
  go_wp2_with fail
  refine (unhide CB).mono ?_
  rintro e w5 hb
  have RBc := (unhide HX).2.1
  have hen := hb.en (unhide HX).2.2.1
  obtain ⟨rfl, _⟩ := hb
  have RB5 : Has w5 H #[.int .i64 0, .int .i64 0, .slice none 0 0, .slice none 0 0] 52 := by
    obtain ⟨q', K', hQ, hK, hA, hc⟩ := hen
    have ha : Apa q x k K H := (unhide HR).apn (by omega)
    rcases hc with ⟨_, _, o⟩ | ⟨_, _, _, _, _, _, _, _, o⟩
    · exact (RBc).keep o ha.SK
    · exact (RBc).keep o (fun c => c.elim ha.1 ha.2.2.1)
  have HEN := hide hen
  have HRB5 := hide RB5
  clear hen RB5
  clear CB RBc t0 t1 t2 t3 t4 t5 t6 t7 t8 t9 t10 t11 t12 tl e0 kl
  have CF := hide (sqfailE_any RR.2.e w5)
  go_wp2_with fail
  refine (unhide CF).mono ?_
  rintro e w7 ⟨rfl, o7⟩
  have RB7 := (unhide HRB5).keep o7 (fun e => e)
  have HO7 := hide o7
  have r0 : w7.cell? ⟨H, 0, none⟩ = some (.int .i64 0) := RB7.cell 0
  have r1 : w7.cell? ⟨H, 1, none⟩ = some (.int .i64 0) := RB7.cell 1
  have r2 : w7.cell? ⟨H, 2, none⟩ = some (.slice none 0 0) := RB7.cell 2
  have r3 : w7.cell? ⟨H, 3, none⟩ = some (.slice none 0 0) := RB7.cell 3
  have rf0 := RB7.free 0
  have rf1 := RB7.free 1
  have rf2 := RB7.free 2
  have rf3 := RB7.free 3
  have rl := RB7.lt
  have H5 := has_setAll [.int .i64 RR.2.e, .int .i64 0, .slice none 0 0, .slice none 0 0] RB7 rfl
  have O5 := only_setW H [.int .i64 RR.2.e, .int .i64 0, .slice none 0 0, .slice none 0 0] 0 w7
  have FF := hide (And.intro H5 (show ExP L q w k g x M K RR last (.returned (.agg #[.int .i64 RR.2.e, .int .i64 0, .slice none 0 0, .slice none 0 0])) (setW H [.int .i64 RR.2.e, .int .i64 0, .slice none 0 0, .slice none 0 0] 0 w7) from (by
    exact EnP.ex (unhide HEN) ((unhide HX).2.2.2.2.1.mono (fun _ _ e => e.elim)) (unhide HR) (by omega) (by have := (unhide HX).2.1.lt; omega) (((unhide HO7).mono (fun _ _ e => e.elim)).trans O5 (fun _ _ e => e)) (unhide HLL))))
  simp only [setW, Nat.zero_add, Nat.reduceAdd] at FF
  clear H5 O5
  clear CF o7 RB7
  go_wp2_with fail
  refine bodyPost_ret (sres_result rfl _ rfl (unhide FF).1 rfl) rfl ?_
  exact (unhide FF).2
end
end Go.Proofs.Qxb6500412aGreat
