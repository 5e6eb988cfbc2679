/-
  OWN WORK. QUERY: Exec: a statement within a transaction (written by tools/gen_s42.py).
-/
import Derived.Test.Qxb6500412aGreatS44
namespace Go.Proofs.Qxb6500412aGreat
open Go.RowKit Go.PlainAid
set_option linter.unusedSimpArgs false
set_option linter.unusedVariables false

section
variable {L : Prop} {q : Gnd} {w : World} {k g x : Nat} {M : Mu} {K : Nat → Prop} {last : Int} {s : Int} {t : ByteArray}
/-- run. -/
theorem sqrun_any {lo : Nat} {S : Sq} {st : St} (R : QR q w k g x M K last) (hin : M.inT s = 0) (hS : StM q x k K w S st) (hok : StOk st) (hB : StB st) (hk : st.kind = 7 ∨ st.kind = 8 ∨ st.kind = 9 ∨ st.kind = 10) (hlo : lo ≤ w.heap.size) (hap : ∀ b, lo ≤ b → Apa q x k K b) (hls : ∀ j, sqj j → ∀ b, (S.cell j).ownBlock = some b → lo ≤ b) : Calls Tryz.prog 113 #[.pointer (some ⟨k, 0, none⟩), .int .i64 s, .agg (tabV 13 S.cell)] w (RnP q w k g x lo (S.cell 6) K (runQ M s st) (if st.kind = 8 ∨ st.kind = 9 ∨ st.kind = 10 then plnR M st last else last)) := by
  rcases hk with h | h
  · rw [if_neg (by rw [h]; decide)]
    exact sqrun_ins R hS hok hB h hlo hap
  · rw [if_pos h]
    exact sqrun_sel R hin hS hok hB h hlo hap hls
theorem RsQ.lower {lo lo' hi : Nat} {cv rv : Value} {R : Rs} (h : RsQ lo hi w cv rv R) (hl : lo' ≤ lo) : RsQ lo' hi w cv rv R := by
  obtain ⟨Y, h1, h2⟩ := h.rl
  exact ⟨h.cn, fun b hb => ⟨Nat.le_trans hl (h.cb b hb).1, (h.cb b hb).2⟩, Y, h1.lower hl, h2⟩
/-- What run leaves, as a statement's end. -/
theorem RnP.cases_ {lo : Nat} {RR : Mu × Rs} {pln : Int} {e : Ending} {w' : World} {lv : Value} (h : RnP q w k g x lo lv K RR pln e w') (hap : ∀ b, lo ≤ b → Apa q x k K b) (hz : lo ≤ w.heap.size) : ∃ na nn nc ra rn rc hi K', e = .returned (.agg #[.int .i64 RR.2.e, .int .i64 RR.2.n, .slice na nn nc, .slice ra rn rc]) ∧ RsQ lo hi w' (.slice na nn nc) (.slice ra rn rc) RR.2 ∧ (∀ b, lo ≤ b → b < hi → Apa q x k K' b) ∧ hi ≤ w'.heap.size ∧ QR q w' k g x RR.1 K' pln ∧ (∀ b, K' b → K b ∨ w.heap.size ≤ b) ∧ Only (fun b => q.S b ∨ K b ∨ b = k ∨ lv.ownBlock = some b) w w' := by
  obtain ⟨na, nn, nc, ra, rn, rc, K', rfl, hM, hb, hQ, hK, _, hc, o⟩ := h
  rcases hc with ⟨rfl, rfl⟩ | rfl
  · exact ⟨none, nn, nc, none, rn, rc, lo, K', rfl, hM.rsq0, fun b h1 h2 => by omega, Nat.le_trans hz o.size, hQ, hK, o⟩
  · exact ⟨na, nn, nc, ra, rn, rc, w'.heap.size, K', rfl, hM.rsq hb, fun b h1 h2 => hap b h1, Nat.le_refl _, hQ, hK, o⟩
set_option maxRecDepth 100000 in
set_option maxHeartbeats 16000000 in
theorem sqexec_in (R : QR q w k g x M K last) (hl : ¬ 256 < t.size) (hg : gdS s) (hp : parB t = true) (hk : (parQ t).2.kind = 7 ∨ (parQ t).2.kind = 8 ∨ (parQ t).2.kind = 9 ∨ (parQ t).2.kind = 10) (ha : M.act s.toNat = true) : Calls Tryz.prog 53 #[.pointer (some ⟨k, 0, none⟩), .int .i64 s, .string t] w (ExP L q w k g x M K (exQ M s t) (plnQ M s t last)) := by
  have HACT := hide ha
  clear ha
  obtain ⟨st, hst⟩ : ∃ st, (parQ t).2 = st := ⟨_, rfl⟩
  have e1 : exQ M s t = stQ M s st := by unfold exQ; rw [if_neg hl, if_neg (fun c => c hg), hp, hst]; rfl
  have HOK := hide (show StOk st ∧ StB st from by rw [← hst]; exact ⟨parQ_ok t, parQ_b (by omega)⟩)
  have hpl : plnQ M s t last = (if st.kind = 8 ∨ st.kind = 9 ∨ st.kind = 10 then plnR M st last else last) := by unfold plnQ; rw [if_neg (fun c => c.elim hl (fun c => c.elim (fun c => c hg) (fun c => by rw [hp] at c; cases c))), hst]
  rw [hst] at hk
  obtain ⟨RR, hRR⟩ : ∃ r, stQ M s st = r := ⟨_, rfl⟩
  rw [e1, hRR, hpl]
  obtain ⟨pl, hpl2⟩ : ∃ p, (if st.kind = 8 ∨ st.kind = 9 ∨ st.kind = 10 then plnR M st last else last) = p := ⟨_, rfl⟩
  rw [hpl2]
  have HRR := hide hRR
  have HPL := hide hpl2
  have Hst := hide hst
  have o1 : Only (fun _ => False) w (w.alloc (.cells #[.int .i64 0, .int .i64 0, .slice none 0 0, .slice none 0 0] 52)) := (Only.refl _ w).alloc _
  have N1 := Has.new w #[.int .i64 0, .int .i64 0, .slice none 0 0, .slice none 0 0] 52
  have HR := hide R
  have HA := hide (show Has (w.alloc (.cells #[.int .i64 0, .int .i64 0, .slice none 0 0, .slice none 0 0] 52)) w.heap.size #[.int .i64 0, .int .i64 0, .slice none 0 0, .slice none 0 0] 52 ∧ Only (fun _ => False) w (w.alloc (.cells #[.int .i64 0, .int .i64 0, .slice none 0 0, .slice none 0 0] 52)) ∧ (w.alloc (.cells #[.int .i64 0, .int .i64 0, .slice none 0 0, .slice none 0 0] 52)).heap.size = w.heap.size + 1 from ⟨N1, o1, by simp⟩)
  have CG := xgood_any s (w.alloc (.cells #[.int .i64 0, .int .i64 0, .slice none 0 0, .slice none 0 0] 52))
  rw [decide_eq_true hg] at CG
  have CG := hide CG
  have b0 : ¬ ((t.size : Int) > 256) := by omega
  have CP := sqparse_any t (w.alloc (.cells #[.int .i64 0, .int .i64 0, .slice none 0 0, .slice none 0 0] 52))
  have Hp := hide hp
  have CP := hide CP
  have HG := hide hg
  have HKD := hide hk
  clear e1 hpl hpl2 hRR hst o1 N1 R hl hg hp hk
  go_enter Tryz.func53, Tryz.ntmps53
  go_upto_region 1 with fail
  generalize w.alloc (.cells #[.int .i64 0, .int .i64 0, .slice none 0 0, .slice none 0 0] 52) = w1 at *
  generalize hH : w.heap.size = H at *
  go_wp2_with fail
  refine (unhide CG).mono ?_
  rintro e w2 ⟨rfl, rfl⟩
  clear CG
  go_wp2_with fail
  refine (unhide CP).mono ?_
  rintro e w2 ⟨S, st', rfl, hL, hO, hse, o2⟩
  have hse := ((hse (unhide Hp)).trans (unhide Hst)).symm
  subst hse
  rw [unhide Hp]
  have hsz := (unhide HA).2.2
  have hS : StM q x k K w2 S st := ⟨⟨hL.own, hL.sep, fun j hj b hb => Nat.zero_le _⟩, hO, fun j hj b hb => (unhide HR).apn (by have := hL.new j hj b hb; omega)⟩
  have hls : ∀ j, sqj j → ∀ b, (S.cell j).ownBlock = some b → w.heap.size + 1 ≤ b := fun j hj b hb => by have := hL.new j hj b hb; omega
  obtain ⟨a2, c2, a4, c4, a6, c6, a7, c7, a8, c8, hcs, _⟩ := hS.cells_
  rw [hcs]
  have oP : Only (fun _ => False) w2 (w2.alloc (.cells #[.int .i64 st.kind, .string st.table, .slice a2 st.defs.length c2, .int .i64 st.pk, .slice a4 st.lits.length c4, .bool st.star, .slice a6 st.list.length c6, .slice a7 st.sets.length c7, .slice a8 st.wh.length c8, .string st.order, .bool st.desc, .bool st.hasL, .int .i64 st.lim] 173)) := (Only.refl _ _).alloc _
  have NP := Has.new w2 #[.int .i64 st.kind, .string st.table, .slice a2 st.defs.length c2, .int .i64 st.pk, .slice a4 st.lits.length c4, .bool st.star, .slice a6 st.list.length c6, .slice a7 st.sets.length c7, .slice a8 st.wh.length c8, .string st.order, .bool st.desc, .bool st.hasL, .int .i64 st.lim] 173
  have oA := ((unhide HA).2.1.trans o2 (fun _ _ e => e)).trans oP (fun _ _ e => e)
  have zz := o2.size
  have HX := hide (show Has (w2.alloc (.cells #[.int .i64 st.kind, .string st.table, .slice a2 st.defs.length c2, .int .i64 st.pk, .slice a4 st.lits.length c4, .bool st.star, .slice a6 st.list.length c6, .slice a7 st.sets.length c7, .slice a8 st.wh.length c8, .string st.order, .bool st.desc, .bool st.hasL, .int .i64 st.lim] 173)) w2.heap.size #[.int .i64 st.kind, .string st.table, .slice a2 st.defs.length c2, .int .i64 st.pk, .slice a4 st.lits.length c4, .bool st.star, .slice a6 st.list.length c6, .slice a7 st.sets.length c7, .slice a8 st.wh.length c8, .string st.order, .bool st.desc, .bool st.hasL, .int .i64 st.lim] 173 ∧ Has (w2.alloc (.cells #[.int .i64 st.kind, .string st.table, .slice a2 st.defs.length c2, .int .i64 st.pk, .slice a4 st.lits.length c4, .bool st.star, .slice a6 st.list.length c6, .slice a7 st.sets.length c7, .slice a8 st.wh.length c8, .string st.order, .bool st.desc, .bool st.hasL, .int .i64 st.lim] 173)) H #[.int .i64 0, .int .i64 0, .slice none 0 0, .slice none 0 0] 52 ∧ QR q (w2.alloc (.cells #[.int .i64 st.kind, .string st.table, .slice a2 st.defs.length c2, .int .i64 st.pk, .slice a4 st.lits.length c4, .bool st.star, .slice a6 st.list.length c6, .slice a7 st.sets.length c7, .slice a8 st.wh.length c8, .string st.order, .bool st.desc, .bool st.hasL, .int .i64 st.lim] 173)) k g x M K last ∧ StM q x k K (w2.alloc (.cells #[.int .i64 st.kind, .string st.table, .slice a2 st.defs.length c2, .int .i64 st.pk, .slice a4 st.lits.length c4, .bool st.star, .slice a6 st.list.length c6, .slice a7 st.sets.length c7, .slice a8 st.wh.length c8, .string st.order, .bool st.desc, .bool st.hasL, .int .i64 st.lim] 173)) S st ∧ Only (fun _ => False) w (w2.alloc (.cells #[.int .i64 st.kind, .string st.table, .slice a2 st.defs.length c2, .int .i64 st.pk, .slice a4 st.lits.length c4, .bool st.star, .slice a6 st.list.length c6, .slice a7 st.sets.length c7, .slice a8 st.wh.length c8, .string st.order, .bool st.desc, .bool st.hasL, .int .i64 st.lim] 173)) ∧ H < w2.heap.size from ⟨NP, ((unhide HA).1.keep o2 (fun e => e)).keep oP (fun e => e), (unhide HR).quiet oA, (hS.quiet oP), oA, by omega⟩)
  have HCS := hide (And.intro hcs hls)
  clear hL hO hS hls hcs oP NP oA zz o2 hsz CP HA
  go_upto_region 8 with fail
  generalize w2.alloc (.cells #[.int .i64 st.kind, .string st.table, .slice a2 st.defs.length c2, .int .i64 st.pk, .slice a4 st.lits.length c4, .bool st.star, .slice a6 st.list.length c6, .slice a7 st.sets.length c7, .slice a8 st.wh.length c8, .string st.order, .bool st.desc, .bool st.hasL, .int .i64 st.lim] 173) = w3 at *
  generalize w2.heap.size = P at *
  have t0 : w3.cell? ⟨P, 0, none⟩ = some (.int .i64 st.kind) := (unhide HX).1.cell 0
  have t1 : w3.cell? ⟨P, 1, none⟩ = some (.string st.table) := (unhide HX).1.cell 1
  have t2 : w3.cell? ⟨P, 2, none⟩ = some (.slice a2 st.defs.length c2) := (unhide HX).1.cell 2
  have t3 : w3.cell? ⟨P, 3, none⟩ = some (.int .i64 st.pk) := (unhide HX).1.cell 3
  have t4 : w3.cell? ⟨P, 4, none⟩ = some (.slice a4 st.lits.length c4) := (unhide HX).1.cell 4
  have t5 : w3.cell? ⟨P, 5, none⟩ = some (.bool st.star) := (unhide HX).1.cell 5
  have t6 : w3.cell? ⟨P, 6, none⟩ = some (.slice a6 st.list.length c6) := (unhide HX).1.cell 6
  have t7 : w3.cell? ⟨P, 7, none⟩ = some (.slice a7 st.sets.length c7) := (unhide HX).1.cell 7
  have t8 : w3.cell? ⟨P, 8, none⟩ = some (.slice a8 st.wh.length c8) := (unhide HX).1.cell 8
  have t9 : w3.cell? ⟨P, 9, none⟩ = some (.string st.order) := (unhide HX).1.cell 9
  have t10 : w3.cell? ⟨P, 10, none⟩ = some (.bool st.desc) := (unhide HX).1.cell 10
  have t11 : w3.cell? ⟨P, 11, none⟩ = some (.bool st.hasL) := (unhide HX).1.cell 11
  have t12 : w3.cell? ⟨P, 12, none⟩ = some (.int .i64 st.lim) := (unhide HX).1.cell 12
  have tl := (unhide HX).1.lt
  have e0 : w3.cell? ⟨k, 0, none⟩ = some (.pointer (some ⟨g, 0, none⟩)) := (unhide HX).2.2.1.has.cell 0
  have kl := (unhide HX).2.2.1.has.lt
  have hk := unhide HKD
  have b1 : (st.kind == 1) = false := by (rcases hk with h | h | h | h <;> simp [h])
  have b2 : (st.kind == 2) = false := by (rcases hk with h | h | h | h <;> simp [h])
  have b3 : (st.kind == 3) = false := by (rcases hk with h | h | h | h <;> simp [h])
  have b4 : (st.kind == 4) = false := by (rcases hk with h | h | h | h <;> simp [h])
  have b5 : (st.kind == 5) = false := by (rcases hk with h | h | h | h <;> simp [h])
  have b6 : (st.kind == 6) = false := by (rcases hk with h | h | h | h <;> simp [h])
  have hq : runQ M s st = RR := by rw [← unhide HRR]; unfold stQ; rw [if_neg (show ¬ st.kind = 1 by rcases hk with h | h | h | h <;> rw [h] <;> decide)]; rw [if_neg (show ¬ st.kind = 2 by rcases hk with h | h | h | h <;> rw [h] <;> decide)]; rw [if_neg (show ¬ st.kind = 3 by rcases hk with h | h | h | h <;> rw [h] <;> decide)]; rw [if_neg (show ¬ st.kind = 4 by rcases hk with h | h | h | h <;> rw [h] <;> decide)]; rw [if_neg (show ¬ st.kind = 5 by rcases hk with h | h | h | h <;> rw [h] <;> decide)]; rw [if_neg (show ¬ st.kind = 6 by rcases hk with h | h | h | h <;> rw [h] <;> decide)]; rw [if_pos (unhide HACT)]
  have CA := ractive_any (unhide HX).2.2.1.rx s
  rw [decide_eq_true (unhide HG), unhide HACT] at CA
  have CA := hide CA
  have CR : Calls Tryz.prog 113 #[.pointer (some ⟨k, 0, none⟩), .int .i64 s, .agg #[.int .i64 st.kind, .string st.table, .slice a2 st.defs.length c2, .int .i64 st.pk, .slice a4 st.lits.length c4, .bool st.star, .slice a6 st.list.length c6, .slice a7 st.sets.length c7, .slice a8 st.wh.length c8, .string st.order, .bool st.desc, .bool st.hasL, .int .i64 st.lim]] w3 (RnP q w3 k g x (H + 1) (S.cell 6) K RR pl) := by have h := sqrun_any (lo := H + 1) (unhide HX).2.2.1 (inT_of (unhide HG) (unhide HACT)) (unhide HX).2.2.2.1 (unhide HOK).1 (unhide HOK).2 hk (by have := (unhide HX).2.1.lt; omega) (fun b hb => (unhide HR).apn (by omega)) (fun j hj b hb => by have := (unhide HCS).2 j hj b hb; omega); rw [(unhide HCS).1, hq, unhide HPL] at h; exact h
  have CR := hide CR
  have hq9 := hq
  have Hq9 := hide hq
  clear hq hq9 hk
  go_wp2_with fail
  refine (unhide CA).mono ?_
  rintro e w4 ⟨rfl, rfl⟩
  clear CA
  go_wp2_with fail
  refine (unhide CR).mono ?_
  intro e w5 h
  obtain ⟨na, nn, nc, ra, rn, rc, hi, K', rfl, hM, hA, hhi, hQ, hK, o⟩ := h.cases_ (fun b hb => (unhide HR).apn (by omega)) (by have := (unhide HX).2.1.lt; omega)
  have hz3 := (unhide HX).2.1.lt
  have z5 := o.size
  have nR : ∀ b, (q.S b ∨ K b ∨ b = k ∨ (S.cell 6).ownBlock = some b) → b ≠ H := fun b hb e => by
    subst e
    have ha := (unhide HR).apn (b := b) (by omega)
    rcases hb with c | c | c | c
    · exact ha.S c
    · exact ha.2.2.1 c
    · exact ha.2.2.2 c
    · exact ownsRow_ne ((unhide HX).2.2.2.1.l.own 6 (by unfold sqj; omega)) (unhide HX).2.1 (by decide) b c rfl
  have RB5 := (unhide HX).2.1.keep o (fun h => nR _ h rfl)
  have W5 : Only (fun b => q.S b ∨ K b ∨ b = k) w w5 := (unhide HX).2.2.2.2.1.mono (fun _ _ e => e.elim) |>.trans o (fun b hl h => h.imp id (fun h => h.imp id (fun h => h.elim id (fun h => by have := (unhide HCS).2 6 (by unfold sqj; omega) b h; omega))))
  have hc5 : RR.1.com = M.com := by rw [← unhide Hq9]; exact runQ_com
  have HE := hide (And.intro hM (And.intro hA (And.intro hQ (And.intro hK (And.intro W5 (And.intro hc5 hhi))))))
  have HRB5 := hide RB5
  have r0 : w5.cell? ⟨H, 0, none⟩ = some (.int .i64 0) := RB5.cell 0
  have r1 : w5.cell? ⟨H, 1, none⟩ = some (.int .i64 0) := RB5.cell 1
  have r2 : w5.cell? ⟨H, 2, none⟩ = some (.slice none 0 0) := RB5.cell 2
  have r3 : w5.cell? ⟨H, 3, none⟩ = some (.slice none 0 0) := RB5.cell 3
  have rf0 := RB5.free 0
  have rf1 := RB5.free 1
  have rf2 := RB5.free 2
  have rf3 := RB5.free 3
  have rl := RB5.lt
  have H5 := has_setAll [.int .i64 RR.2.e, .int .i64 RR.2.n, .slice na nn nc, .slice ra rn rc] RB5 rfl
  have O5 := only_setW H [.int .i64 RR.2.e, .int .i64 RR.2.n, .slice na nn nc, .slice ra rn rc] 0 w5
  have FF := hide (And.intro H5 (show ExP L q w k g x M K RR pl (.returned (.agg #[.int .i64 RR.2.e, .int .i64 RR.2.n, .slice na nn nc, .slice ra rn rc])) (setW H [.int .i64 RR.2.e, .int .i64 RR.2.n, .slice na nn nc, .slice ra rn rc] 0 w5) from (by
    obtain ⟨d1, d2, d3, d4, d5, d6, d7⟩ := unhide HE
    have hz3 := (unhide HX).2.1.lt
    have ha0 := (unhide HR).apn (b := H) (by omega)
    have haH : Apa q x k K' H := ⟨ha0.1, ha0.2.1, fun c => (d4 H c).elim ha0.2.2.1 (fun c => by omega), ha0.2.2.2⟩
    refine ⟨na, nn, nc, ra, rn, rc, hi, q, K', rfl, ?_, fun b h1 h2 => ?_, d3.keep O5 (fun b hb (e : b = H) => ?_), fun b hb => (d4 b hb).imp id (fun h => by omega), .inl ⟨rfl, d6, d5.lateS O5 (fun b (e : b = H) => by omega)⟩⟩
    · exact (d1.keep O5 (fun b h1 h2 (e : b = H) => by omega)).lower (by omega)
    · by_cases hb : b = H
      · rw [hb]; exact haH
      · exact d2 b (by omega) h2
    · subst e
      rcases hb with c | c | c | c
      · exact haH.1 c
      · exact haH.2.1 c
      · exact haH.2.2.1 c
      · exact haH.2.2.2 c)))
  simp only [setW, Nat.zero_add, Nat.reduceAdd] at FF
  clear H5 O5
  clear CR o nR RB5 W5 hM hA hQ hK hc5 hhi t0 t1 t2 t3 t4 t5 t6 t7 t8 t9 t10 t11 t12 tl e0 kl
  go_wp2_with fail
  refine bodyPost_ret (sres_result rfl _ rfl (unhide FF).1 rfl) rfl ?_
  exact (unhide FF).2
end
end Go.Proofs.Qxb6500412aGreat
