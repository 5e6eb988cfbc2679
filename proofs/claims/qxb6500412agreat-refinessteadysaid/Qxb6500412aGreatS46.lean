/-
  OWN WORK. QUERY: Exec: a statement of its own (written by tools/gen_s42.py).
-/
import Derived.Test.Qxb6500412aGreatS45
namespace Go.Proofs.Qxb6500412aGreat
open Go.RowKit Go.PlainAid
set_option linter.unusedSimpArgs false
set_option linter.unusedVariables false

section
variable {L : Prop} {q : Gnd} {w : World} {k g x : Nat} {M : Mu} {K : Nat → Prop} {last : Int} {s : Int} {t : ByteArray}
/-- Begin of a session that is in no transaction: the manager's blocks stand. -/
theorem rbeginK_any (R : RX q w g x M K) (gd : gdS s) (ha0 : M.act s.toNat = false) : Calls Tryz.prog 106 #[.pointer (some ⟨g, 0, none⟩), .int .i64 s] w fun e w' => e = .returned (.int .i64 0) ∧ RX q w' g x (M.begin s.toNat) K ∧ Only (fun b => q.S b ∨ K b) w w' := by
  obtain ⟨X, S, T, hx, la, cf, ok, sh, hk⟩ := R.ex
  refine (xbegin_any hx.xm s).mono ?_
  rintro e w1 ⟨rfl, hM, ho⟩
  have hB : ∀ k, k = g → q.S k ∨ K k := fun k e => .inr (hk k (.inl e))
  have hs4 : s.toNat < 4 := by have := gd.1; have := gd.2; omega
  have ha : X.act s.toNat = false := by rw [← sh.act _ hs4]; exact ha0
  have hz : bgE X s = 0 := by unfold bgE; rw [if_pos gd, ha]; rfl
  rw [hz, if_pos rfl] at hM
  rw [hz]
  obtain ⟨k1, k2⟩ := ok.begin sh hs4 ha
  exact ⟨rfl, R.turnK (hx.own hM.has ho rfl rfl) la cf k1 k2 (fun k h => hk k h) ho hB⟩
/-- Rollback of a session that is in a transaction. -/
theorem qrollK_any (R : RX q w g x M K) (gd : gdS s) (ha : M.act s.toNat = true) : Calls Tryz.prog 108 #[.pointer (some ⟨g, 0, none⟩), .int .i64 s] w fun e w' => e = .returned (.int .i64 0) ∧ Rp q w g x (M.roll s.toNat) K w' :=
  (rroll_any R s).mono (by
    intro e w1 h
    rcases h with ⟨z, rfl, hz, hc, hR⟩ | ⟨rfl, h0, hR⟩
    · rw [inT_val gd, if_pos ha] at hc
      exact absurd hc hz
    · exact ⟨rfl, hR⟩)
/-- What the end of the transaction leaves. -/
theorem auto_end {H G hi : Nat} {w6 w7 : World} {K' : Nat → Prop} {cv rv : Value} {M1 M2 : Mu} {R1 : Rs} {pl : Int} {cg ch : Array Value} {P : Prop} (hG : Has w6 G cg 52) (hH : Has w6 H ch 52) (hM : RsQ (H + 1) hi w6 cv rv R1) (hA : ∀ b, H + 1 ≤ b → b < hi → Apa q x k K' b) (hhi : hi ≤ w6.heap.size) (hQ : QR q w6 k g x M1 K' pl) (hK : ∀ b, K' b → K b ∨ H + 1 ≤ b) (W6 : Only (fun b => q.S b ∨ K b ∨ b = k) w w6) (aH : Apa q x k K' H) (aG : Apa q x k K' G) (hw : w.heap.size = H) (hc : (Rp q w6 g x M2 K' w7 ∧ M2.com = M1.com) ∨ (P ∧ Rc q w6 g x M2 K' w7)) : Has w7 G cg 52 ∧ Has w7 H ch 52 ∧ RsQ (H + 1) hi w7 cv rv R1 ∧ ∃ q' K2, (∀ b, H + 1 ≤ b → b < hi → Apa q' x k K2 b) ∧ QR q' w7 k g x M2 K2 pl ∧ (∀ b, K2 b → K b ∨ w.heap.size ≤ b) ∧ Apa q' x k K2 H ∧ ((q' = q ∧ M2.com = M1.com ∧ Only (fun b => q.S b ∨ K b ∨ b = k) w w7) ∨ ∃ rs com wa wb, q' = q.done rs com wa wb ∧ P ∧ w.heap.size ≤ wa.heap.size ∧ CutInv q.blk rs q.com com ∧ Only (fun b => q.A b ∨ K b ∨ b = k) w w7) := by
  have hHl := hH.lt
  rcases hc with ⟨⟨K2, r, hk2, o⟩, hcm⟩ | ⟨hP, rs, com, wa, wb, K2, r, hwa, hi2, hk2, o⟩
  · refine ⟨hG.keep o aG.SK, hH.keep o aH.SK, hM.keep o (fun b h1 h2 => (hA b h1 h2).SK), q, K2, fun b h1 h2 => (hA b h1 h2).next hk2 (by omega), hQ.turn r o hQ.kSK hk2, fun b hb => (hk2 b hb).elim (fun h => (hK b h).imp id (fun h => by omega)) (fun h => .inr (by omega)), aH.next hk2 hHl, .inl ⟨rfl, hcm, W6.trans o (fun b hl h => h.imp id (fun h => .inl ((hK b h).elim id (fun h => by omega))))⟩⟩
  · have nx : ∀ {b}, Apa q x k K' b → b < w6.heap.size → Apa (q.done rs com wa wb) x k K2 b := fun ha hb => ⟨fun c => (Gnd.done_A c).elim ha.1 (fun c => by omega), ha.2.1, fun c => (hk2 _ c).elim ha.2.2.1 (fun c => by omega), ha.2.2.2⟩
    have nA : ∀ {b}, Apa q x k K' b → ¬ (q.A b ∨ K' b) := fun ha c => c.elim ha.1 ha.2.2.1
    have zw := W6.size
    refine ⟨hG.keep o (nA aG), hH.keep o (nA aH), hM.keep o (fun b h1 h2 => nA (hA b h1 h2)), q.done rs com wa wb, K2, fun b h1 h2 => nx (hA b h1 h2) (by omega), ⟨r, hQ.has.keep o (fun c => c.elim hQ.off.1 hQ.off.2.2), fun c => (Gnd.done_A c).elim hQ.off.1 (fun c => by have := hQ.has.lt; omega), hQ.off.2.1, fun c => (hk2 k c).elim hQ.off.2.2 (fun c => by have := hQ.has.lt; omega)⟩, fun b hb => (hk2 b hb).elim (fun h => (hK b h).imp id (fun h => by omega)) (fun h => .inr (by omega)), nx aH hHl, .inr ⟨rs, com, wa, wb, rfl, hP, by omega, hi2, ?_⟩⟩
    exact (W6.mono (fun b _ h => h.imp Gnd.S_A id)).trans o (fun b hl h => h.imp id (fun h => .inl ((hK b h).elim id (fun h => by omega))))
theorem qcommitK_any (R : RX q w g x M K) (hrc : q.recs.length ≤ 300) (gd : gdS s) (ha : M.act s.toNat = true) : Calls Tryz.prog 107 #[.pointer (some ⟨g, 0, none⟩), .int .i64 s] w fun e w' => e = .returned (.int .i64 0) ∧ ((Rp q w g x (M.commit s.toNat) K w' ∧ (M.commit s.toNat).com = M.com) ∨ Rc q w g x (M.commit s.toNat) K w') :=
  (rcommit_any R hrc s).mono (by
    intro e w1 h
    rcases h with ⟨z, rfl, hz, hc, hR⟩ | ⟨rfl, h0, hR⟩
    · rw [inT_val gd, if_pos ha] at hc
      exact absurd hc hz
    · exact ⟨rfl, hR⟩)
set_option maxRecDepth 100000 in
set_option maxHeartbeats 16000000 in
theorem sqexec_auto (R : QR q w k g x M K last) (hL : L) (hrc : q.recs.length ≤ 300) (hl : ¬ 256 < t.size) (hg : gdS s) (hp : parB t = true) (hk : (parQ t).2.kind = 7 ∨ (parQ t).2.kind = 8 ∨ (parQ t).2.kind = 9 ∨ (parQ t).2.kind = 10) (ha : M.act s.toNat = false) : Calls Tryz.prog 53 #[.pointer (some ⟨k, 0, none⟩), .int .i64 s, .string t] w (ExP L q w k g x M K (exQ M s t) (plnQ M s t last)) := by
  have HACT := hide ha
  clear ha
  obtain ⟨st, hst⟩ : ∃ st, (parQ t).2 = st := ⟨_, rfl⟩
  have e1 : exQ M s t = stQ M s st := by unfold exQ; rw [if_neg hl, if_neg (fun c => c hg), hp, hst]; rfl
  have HOK := hide (show StOk st ∧ StB st from by rw [← hst]; exact ⟨parQ_ok t, parQ_b (by omega)⟩)
  have hpl : plnQ M s t last = (if st.kind = 8 ∨ st.kind = 9 ∨ st.kind = 10 then plnR M st last else last) := by unfold plnQ; rw [if_neg (fun c => c.elim hl (fun c => c.elim (fun c => c hg) (fun c => by rw [hp] at c; cases c))), hst]
  rw [hst] at hk
  obtain ⟨RR, hRR⟩ : ∃ r, stQ M s st = r := ⟨_, rfl⟩
  rw [e1, hRR, hpl]
  obtain ⟨pl, hpl2⟩ : ∃ p, (if st.kind = 8 ∨ st.kind = 9 ∨ st.kind = 10 then plnR M st last else last) = p := ⟨_, rfl⟩
  rw [hpl2]
  have HRR := hide hRR
  have HPL := hide hpl2
  have Hst := hide hst
  have o1 : Only (fun _ => False) w (w.alloc (.cells #[.int .i64 0, .int .i64 0, .slice none 0 0, .slice none 0 0] 52)) := (Only.refl _ w).alloc _
  have N1 := Has.new w #[.int .i64 0, .int .i64 0, .slice none 0 0, .slice none 0 0] 52
  have HR := hide R
  have HA := hide (show Has (w.alloc (.cells #[.int .i64 0, .int .i64 0, .slice none 0 0, .slice none 0 0] 52)) w.heap.size #[.int .i64 0, .int .i64 0, .slice none 0 0, .slice none 0 0] 52 ∧ Only (fun _ => False) w (w.alloc (.cells #[.int .i64 0, .int .i64 0, .slice none 0 0, .slice none 0 0] 52)) ∧ (w.alloc (.cells #[.int .i64 0, .int .i64 0, .slice none 0 0, .slice none 0 0] 52)).heap.size = w.heap.size + 1 from ⟨N1, o1, by simp⟩)
  have CG := xgood_any s (w.alloc (.cells #[.int .i64 0, .int .i64 0, .slice none 0 0, .slice none 0 0] 52))
  rw [decide_eq_true hg] at CG
  have CG := hide CG
  have b0 : ¬ ((t.size : Int) > 256) := by omega
  have CP := sqparse_any t (w.alloc (.cells #[.int .i64 0, .int .i64 0, .slice none 0 0, .slice none 0 0] 52))
  have Hp := hide hp
  have CP := hide CP
  have HG := hide hg
  have HKD := hide hk
  clear e1 hpl hpl2 hRR hst o1 N1 R hl hg hp hk
  go_enter Tryz.func53, Tryz.ntmps53
  go_upto_region 1 with fail
  generalize w.alloc (.cells #[.int .i64 0, .int .i64 0, .slice none 0 0, .slice none 0 0] 52) = w1 at *
  generalize hH : w.heap.size = H at *
  go_wp2_with fail
  refine (unhide CG).mono ?_
  rintro e w2 ⟨rfl, rfl⟩
  clear CG
  go_wp2_with fail
  refine (unhide CP).mono ?_
  rintro e w2 ⟨S, st', rfl, hL, hO, hse, o2⟩
  have hse := ((hse (unhide Hp)).trans (unhide Hst)).symm
  subst hse
  rw [unhide Hp]
  have hsz := (unhide HA).2.2
  have hS : StM q x k K w2 S st := ⟨⟨hL.own, hL.sep, fun j hj b hb => Nat.zero_le _⟩, hO, fun j hj b hb => (unhide HR).apn (by have := hL.new j hj b hb; omega)⟩
  have hls : ∀ j, sqj j → ∀ b, (S.cell j).ownBlock = some b → w.heap.size + 1 ≤ b := fun j hj b hb => by have := hL.new j hj b hb; omega
  obtain ⟨a2, c2, a4, c4, a6, c6, a7, c7, a8, c8, hcs, _⟩ := hS.cells_
  rw [hcs]
  have oP : Only (fun _ => False) w2 (w2.alloc (.cells #[.int .i64 st.kind, .string st.table, .slice a2 st.defs.length c2, .int .i64 st.pk, .slice a4 st.lits.length c4, .bool st.star, .slice a6 st.list.length c6, .slice a7 st.sets.length c7, .slice a8 st.wh.length c8, .string st.order, .bool st.desc, .bool st.hasL, .int .i64 st.lim] 173)) := (Only.refl _ _).alloc _
  have NP := Has.new w2 #[.int .i64 st.kind, .string st.table, .slice a2 st.defs.length c2, .int .i64 st.pk, .slice a4 st.lits.length c4, .bool st.star, .slice a6 st.list.length c6, .slice a7 st.sets.length c7, .slice a8 st.wh.length c8, .string st.order, .bool st.desc, .bool st.hasL, .int .i64 st.lim] 173
  have oA := ((unhide HA).2.1.trans o2 (fun _ _ e => e)).trans oP (fun _ _ e => e)
  have zz := o2.size
  have HX := hide (show Has (w2.alloc (.cells #[.int .i64 st.kind, .string st.table, .slice a2 st.defs.length c2, .int .i64 st.pk, .slice a4 st.lits.length c4, .bool st.star, .slice a6 st.list.length c6, .slice a7 st.sets.length c7, .slice a8 st.wh.length c8, .string st.order, .bool st.desc, .bool st.hasL, .int .i64 st.lim] 173)) w2.heap.size #[.int .i64 st.kind, .string st.table, .slice a2 st.defs.length c2, .int .i64 st.pk, .slice a4 st.lits.length c4, .bool st.star, .slice a6 st.list.length c6, .slice a7 st.sets.length c7, .slice a8 st.wh.length c8, .string st.order, .bool st.desc, .bool st.hasL, .int .i64 st.lim] 173 ∧ Has (w2.alloc (.cells #[.int .i64 st.kind, .string st.table, .slice a2 st.defs.length c2, .int .i64 st.pk, .slice a4 st.lits.length c4, .bool st.star, .slice a6 st.list.length c6, .slice a7 st.sets.length c7, .slice a8 st.wh.length c8, .string st.order, .bool st.desc, .bool st.hasL, .int .i64 st.lim] 173)) H #[.int .i64 0, .int .i64 0, .slice none 0 0, .slice none 0 0] 52 ∧ QR q (w2.alloc (.cells #[.int .i64 st.kind, .string st.table, .slice a2 st.defs.length c2, .int .i64 st.pk, .slice a4 st.lits.length c4, .bool st.star, .slice a6 st.list.length c6, .slice a7 st.sets.length c7, .slice a8 st.wh.length c8, .string st.order, .bool st.desc, .bool st.hasL, .int .i64 st.lim] 173)) k g x M K last ∧ StM q x k K (w2.alloc (.cells #[.int .i64 st.kind, .string st.table, .slice a2 st.defs.length c2, .int .i64 st.pk, .slice a4 st.lits.length c4, .bool st.star, .slice a6 st.list.length c6, .slice a7 st.sets.length c7, .slice a8 st.wh.length c8, .string st.order, .bool st.desc, .bool st.hasL, .int .i64 st.lim] 173)) S st ∧ Only (fun _ => False) w (w2.alloc (.cells #[.int .i64 st.kind, .string st.table, .slice a2 st.defs.length c2, .int .i64 st.pk, .slice a4 st.lits.length c4, .bool st.star, .slice a6 st.list.length c6, .slice a7 st.sets.length c7, .slice a8 st.wh.length c8, .string st.order, .bool st.desc, .bool st.hasL, .int .i64 st.lim] 173)) ∧ H < w2.heap.size from ⟨NP, ((unhide HA).1.keep o2 (fun e => e)).keep oP (fun e => e), (unhide HR).quiet oA, (hS.quiet oP), oA, by omega⟩)
  have HCS := hide (And.intro hcs hls)
  clear hL hO hS hls hcs oP NP oA zz o2 hsz CP HA
  go_upto_region 8 with fail
  generalize w2.alloc (.cells #[.int .i64 st.kind, .string st.table, .slice a2 st.defs.length c2, .int .i64 st.pk, .slice a4 st.lits.length c4, .bool st.star, .slice a6 st.list.length c6, .slice a7 st.sets.length c7, .slice a8 st.wh.length c8, .string st.order, .bool st.desc, .bool st.hasL, .int .i64 st.lim] 173) = w3 at *
  generalize w2.heap.size = P at *
  have t0 : w3.cell? ⟨P, 0, none⟩ = some (.int .i64 st.kind) := (unhide HX).1.cell 0
  have t1 : w3.cell? ⟨P, 1, none⟩ = some (.string st.table) := (unhide HX).1.cell 1
  have t2 : w3.cell? ⟨P, 2, none⟩ = some (.slice a2 st.defs.length c2) := (unhide HX).1.cell 2
  have t3 : w3.cell? ⟨P, 3, none⟩ = some (.int .i64 st.pk) := (unhide HX).1.cell 3
  have t4 : w3.cell? ⟨P, 4, none⟩ = some (.slice a4 st.lits.length c4) := (unhide HX).1.cell 4
  have t5 : w3.cell? ⟨P, 5, none⟩ = some (.bool st.star) := (unhide HX).1.cell 5
  have t6 : w3.cell? ⟨P, 6, none⟩ = some (.slice a6 st.list.length c6) := (unhide HX).1.cell 6
  have t7 : w3.cell? ⟨P, 7, none⟩ = some (.slice a7 st.sets.length c7) := (unhide HX).1.cell 7
  have t8 : w3.cell? ⟨P, 8, none⟩ = some (.slice a8 st.wh.length c8) := (unhide HX).1.cell 8
  have t9 : w3.cell? ⟨P, 9, none⟩ = some (.string st.order) := (unhide HX).1.cell 9
  have t10 : w3.cell? ⟨P, 10, none⟩ = some (.bool st.desc) := (unhide HX).1.cell 10
  have t11 : w3.cell? ⟨P, 11, none⟩ = some (.bool st.hasL) := (unhide HX).1.cell 11
  have t12 : w3.cell? ⟨P, 12, none⟩ = some (.int .i64 st.lim) := (unhide HX).1.cell 12
  have tl := (unhide HX).1.lt
  have e0 : w3.cell? ⟨k, 0, none⟩ = some (.pointer (some ⟨g, 0, none⟩)) := (unhide HX).2.2.1.has.cell 0
  have kl := (unhide HX).2.2.1.has.lt
  have hk := unhide HKD
  have b1 : (st.kind == 1) = false := by (rcases hk with h | h | h | h <;> simp [h])
  have b2 : (st.kind == 2) = false := by (rcases hk with h | h | h | h <;> simp [h])
  have b3 : (st.kind == 3) = false := by (rcases hk with h | h | h | h <;> simp [h])
  have b4 : (st.kind == 4) = false := by (rcases hk with h | h | h | h <;> simp [h])
  have b5 : (st.kind == 5) = false := by (rcases hk with h | h | h | h <;> simp [h])
  have b6 : (st.kind == 6) = false := by (rcases hk with h | h | h | h <;> simp [h])
  obtain ⟨R1, hR1⟩ : ∃ r, runQ (M.begin s.toNat) s st = r := ⟨_, rfl⟩
  have hq : (if R1.2.e = 0 then (R1.1.commit s.toNat, R1.2) else (R1.1.roll s.toNat, R1.2)) = RR := by rw [← unhide HRR]; unfold stQ; rw [if_neg (show ¬ st.kind = 1 by rcases hk with h | h | h | h <;> rw [h] <;> decide)]; rw [if_neg (show ¬ st.kind = 2 by rcases hk with h | h | h | h <;> rw [h] <;> decide)]; rw [if_neg (show ¬ st.kind = 3 by rcases hk with h | h | h | h <;> rw [h] <;> decide)]; rw [if_neg (show ¬ st.kind = 4 by rcases hk with h | h | h | h <;> rw [h] <;> decide)]; rw [if_neg (show ¬ st.kind = 5 by rcases hk with h | h | h | h <;> rw [h] <;> decide)]; rw [if_neg (show ¬ st.kind = 6 by rcases hk with h | h | h | h <;> rw [h] <;> decide)]; rw [if_neg (show ¬ M.act s.toNat = true by rw [unhide HACT]; decide), hR1]
  have hpl3 : (if st.kind = 8 ∨ st.kind = 9 ∨ st.kind = 10 then plnR (M.begin s.toNat) st last else last) = pl := unhide HPL
  have hcm : R1.1.com = M.com := by rw [← hR1]; exact runQ_com
  have hac : R1.1.act s.toNat = true := by rw [← hR1, runQ_act]; exact if_pos rfl
  have HQ := hide (And.intro hq (And.intro hpl3 (And.intro hcm (And.intro hac (And.intro hk hR1)))))
  have CA := ractive_any (unhide HX).2.2.1.rx s
  rw [decide_eq_true (unhide HG), unhide HACT] at CA
  have CA := hide CA
  have CB := hide (rbeginK_any (unhide HX).2.2.1.rx (unhide HG) (unhide HACT))
  clear hq hk hpl3 hcm hac hR1
  go_wp2_with fail
  refine (unhide CA).mono ?_
  rintro e w4 ⟨rfl, rfl⟩
  clear CA
  go_wp2_with fail
  refine (unhide CB).mono ?_
  rintro e w4 ⟨rfl, r4, o4⟩
  have hz3 := (unhide HX).2.1.lt
  have hPH := (unhide HX).2.2.2.2.2
  have Q4 := (unhide HX).2.2.1.turn r4 o4 (unhide HX).2.2.1.kSK (fun b hb => .inl hb)
  have aH := (unhide HR).apn (b := H) (by omega)
  have aP := (unhide HR).apn (b := P) (by omega)
  have RB4 := (unhide HX).2.1.keep o4 aH.SK
  have PS4 := (unhide HX).1.keep o4 aP.SK
  have SM4 := (unhide HX).2.2.2.1.keep o4 (fun b _ ha => ha.SK)
  have W4 : Only (fun b => q.S b ∨ K b) w w4 := ((unhide HX).2.2.2.2.1.mono (fun _ _ e => e.elim)).trans o4 (fun _ _ e => e)
  have z4 := o4.size
  have CR : Calls Tryz.prog 113 #[.pointer (some ⟨k, 0, none⟩), .int .i64 s, .agg #[.int .i64 st.kind, .string st.table, .slice a2 st.defs.length c2, .int .i64 st.pk, .slice a4 st.lits.length c4, .bool st.star, .slice a6 st.list.length c6, .slice a7 st.sets.length c7, .slice a8 st.wh.length c8, .string st.order, .bool st.desc, .bool st.hasL, .int .i64 st.lim]] w4 (RnP q w4 k g x (H + 1) (S.cell 6) K R1 pl) := by have h := sqrun_any (lo := H + 1) Q4 (begin_inT (unhide HG)) SM4 (unhide HOK).1 (unhide HOK).2 (unhide HQ).2.2.2.2.1 (by omega) (fun b hb => (unhide HR).apn (by omega)) (fun j hj b hb => by have := (unhide HCS).2 j hj b hb; omega); rw [(unhide HCS).1, (unhide HQ).2.2.2.2.2, (unhide HQ).2.1] at h; exact h
  have CR := hide CR
  have H4 := hide (And.intro RB4 (And.intro W4 (And.intro SM4 (And.intro z4 (And.intro hz3 (And.intro aH Q4))))))
  clear CB r4 o4 e0 kl t0 t1 t2 t3 t4 t5 t6 t7 t8 t9 t10 t11 t12 tl
  have t0 : w4.cell? ⟨P, 0, none⟩ = some (.int .i64 st.kind) := PS4.cell 0
  have t1 : w4.cell? ⟨P, 1, none⟩ = some (.string st.table) := PS4.cell 1
  have t2 : w4.cell? ⟨P, 2, none⟩ = some (.slice a2 st.defs.length c2) := PS4.cell 2
  have t3 : w4.cell? ⟨P, 3, none⟩ = some (.int .i64 st.pk) := PS4.cell 3
  have t4 : w4.cell? ⟨P, 4, none⟩ = some (.slice a4 st.lits.length c4) := PS4.cell 4
  have t5 : w4.cell? ⟨P, 5, none⟩ = some (.bool st.star) := PS4.cell 5
  have t6 : w4.cell? ⟨P, 6, none⟩ = some (.slice a6 st.list.length c6) := PS4.cell 6
  have t7 : w4.cell? ⟨P, 7, none⟩ = some (.slice a7 st.sets.length c7) := PS4.cell 7
  have t8 : w4.cell? ⟨P, 8, none⟩ = some (.slice a8 st.wh.length c8) := PS4.cell 8
  have t9 : w4.cell? ⟨P, 9, none⟩ = some (.string st.order) := PS4.cell 9
  have t10 : w4.cell? ⟨P, 10, none⟩ = some (.bool st.desc) := PS4.cell 10
  have t11 : w4.cell? ⟨P, 11, none⟩ = some (.bool st.hasL) := PS4.cell 11
  have t12 : w4.cell? ⟨P, 12, none⟩ = some (.int .i64 st.lim) := PS4.cell 12
  have tl := PS4.lt
  clear RB4 W4 SM4 z4 hz3 Q4 aH aP PS4
  go_wp2_with fail
  refine (unhide CR).mono ?_
  intro e w5 h
  have hz3 := (unhide H4).2.2.2.2.1
  have hz4 := (unhide H4).2.2.2.1
  obtain ⟨na, nn, nc, ra, rn, rc, hi, K', rfl, hM, hA, hhi, hQ5, hK5, o5⟩ := h.cases_ (fun b hb => (unhide HR).apn (by omega)) (by omega)
  have z5 := o5.size
  have nR : ∀ b, (q.S b ∨ K b ∨ b = k ∨ (S.cell 6).ownBlock = some b) → b ≠ H := fun b hb e => by
    subst e
    have ha := (unhide H4).2.2.2.2.2.1
    rcases hb with c | c | c | c
    · exact ha.S c
    · exact ha.2.2.1 c
    · exact ha.2.2.2 c
    · exact ownsRow_ne ((unhide H4).2.2.1.l.own 6 (by unfold sqj; omega)) (unhide H4).1 (by decide) b c rfl
  have RB5 := (unhide H4).1.keep o5 (fun h => nR _ h rfl)
  have W5 : Only (fun b => q.S b ∨ K b ∨ b = k) w w5 := ((unhide H4).2.1.mono (fun b _ h => h.imp id .inl)).trans o5 (fun b hl h => h.imp id (fun h => h.imp id (fun h => h.elim id (fun h => by have := (unhide HCS).2 6 (by unfold sqj; omega) b h; omega))))
  have hK3 : ∀ b, K' b → K b ∨ H + 1 ≤ b := fun b hb => (hK5 b hb).imp id (fun h => by omega)
  have aH5 : Apa q x k K' H := ⟨(unhide H4).2.2.2.2.2.1.1, (unhide H4).2.2.2.2.2.1.2.1, fun c => (hK3 H c).elim (unhide H4).2.2.2.2.2.1.2.2.1 (fun c => by omega), (unhide H4).2.2.2.2.2.1.2.2.2⟩
  have N6 := Has.new w5 #[.int .i64 R1.2.e, .int .i64 R1.2.n, .slice na nn nc, .slice ra rn rc] 52
  have o6 : Only (fun _ => False) w5 (w5.alloc (.cells #[.int .i64 R1.2.e, .int .i64 R1.2.n, .slice na nn nc, .slice ra rn rc] 52)) := (Only.refl _ _).alloc _
  have H6 := hide (show Has (w5.alloc (.cells #[.int .i64 R1.2.e, .int .i64 R1.2.n, .slice na nn nc, .slice ra rn rc] 52)) w5.heap.size #[.int .i64 R1.2.e, .int .i64 R1.2.n, .slice na nn nc, .slice ra rn rc] 52 ∧ Has (w5.alloc (.cells #[.int .i64 R1.2.e, .int .i64 R1.2.n, .slice na nn nc, .slice ra rn rc] 52)) H #[.int .i64 0, .int .i64 0, .slice none 0 0, .slice none 0 0] 52 ∧ RsQ (H + 1) hi (w5.alloc (.cells #[.int .i64 R1.2.e, .int .i64 R1.2.n, .slice na nn nc, .slice ra rn rc] 52)) (.slice na nn nc) (.slice ra rn rc) R1.2 ∧ (∀ b, H + 1 ≤ b → b < hi → Apa q x k K' b) ∧ hi ≤ (w5.alloc (.cells #[.int .i64 R1.2.e, .int .i64 R1.2.n, .slice na nn nc, .slice ra rn rc] 52)).heap.size ∧ QR q (w5.alloc (.cells #[.int .i64 R1.2.e, .int .i64 R1.2.n, .slice na nn nc, .slice ra rn rc] 52)) k g x R1.1 K' pl ∧ (∀ b, K' b → K b ∨ H + 1 ≤ b) ∧ Only (fun b => q.S b ∨ K b ∨ b = k) w (w5.alloc (.cells #[.int .i64 R1.2.e, .int .i64 R1.2.n, .slice na nn nc, .slice ra rn rc] 52)) ∧ Apa q x k K' H ∧ Apa q x k K' w5.heap.size from ⟨N6, RB5.keep o6 (fun e => e), hM.keep o6 (fun _ _ _ e => e), hA, Nat.le_trans hhi o6.size, hQ5.quiet o6, hK3, W5.trans (o6.mono (fun _ _ e => e.elim)) (fun _ _ e => e), aH5, hQ5.apn (Nat.le_refl _)⟩)
  clear CR hz3 hz4 hM hA hhi hQ5 hK5 o5 z5 nR RB5 W5 hK3 aH5 N6 o6 t0 t1 t2 t3 t4 t5 t6 t7 t8 t9 t10 t11 t12 tl hPH
  go_upto_region 33 with fail
  generalize w5.alloc (.cells #[.int .i64 R1.2.e, .int .i64 R1.2.n, .slice na nn nc, .slice ra rn rc] 52) = w6 at *
  generalize w5.heap.size = G at *
  have g0 : w6.cell? ⟨G, 0, none⟩ = some (.int .i64 R1.2.e) := (unhide H6).1.cell 0
  have g1 : w6.cell? ⟨G, 1, none⟩ = some (.int .i64 R1.2.n) := (unhide H6).1.cell 1
  have g2 : w6.cell? ⟨G, 2, none⟩ = some (.slice na nn nc) := (unhide H6).1.cell 2
  have g3 : w6.cell? ⟨G, 3, none⟩ = some (.slice ra rn rc) := (unhide H6).1.cell 3
  have gl := (unhide H6).1.lt
  have e0 : w6.cell? ⟨k, 0, none⟩ = some (.pointer (some ⟨g, 0, none⟩)) := (unhide H6).2.2.2.2.2.1.has.cell 0
  have kl := (unhide H6).2.2.2.2.2.1.has.lt
  obtain ⟨z, hz⟩ : ∃ z, R1.2.e = z := ⟨_, rfl⟩
  rw [hz] at g0 ⊢
  have Hz := hide hz
  have hq := (unhide HQ).1
  rw [hz] at hq
  clear hz
  by_cases h0 : z = 0
  · subst h0
    have hrr := hq.symm
    rw [if_pos rfl] at hrr
    clear hq
    have HR2 := hide (show RR.2 = R1.2 by rw [hrr])
    have HRR1 := hide (show RR.1 = R1.1.commit s.toNat by rw [hrr])
    clear hrr
    have CC := hide (qcommitK_any (unhide H6).2.2.2.2.2.1.rx hrc (unhide HG) (unhide HQ).2.2.2.1)
    go_wp2_with fail
    refine (unhide CC).mono ?_
    rintro e w7 ⟨rfl, hc⟩
    have hc2 : (Rp q w6 g x RR.1 K' w7 ∧ RR.1.com = R1.1.com) ∨ (True ∧ Rc q w6 g x RR.1 K' w7) := by rw [unhide HRR1]; exact hc.imp id (fun h => ⟨trivial, h⟩)
    obtain ⟨k1, k2, k3, q', K2, k4, k5, k6, k7, k8⟩ := auto_end (unhide H6).1 (unhide H6).2.1 (unhide H6).2.2.1 (unhide H6).2.2.2.1 (unhide H6).2.2.2.2.1 (unhide H6).2.2.2.2.2.1 (unhide H6).2.2.2.2.2.2.1 (unhide H6).2.2.2.2.2.2.2.1 (unhide H6).2.2.2.2.2.2.2.2.1 (unhide H6).2.2.2.2.2.2.2.2.2 hH hc2
    have HE := hide (And.intro k3 (And.intro k4 (And.intro k5 (And.intro k6 (And.intro k7 k8)))))
    have HRB7 := hide k2
    have g0 : w7.cell? ⟨G, 0, none⟩ = some (.int .i64 R1.2.e) := k1.cell 0
    have g1 : w7.cell? ⟨G, 1, none⟩ = some (.int .i64 R1.2.n) := k1.cell 1
    have g2 : w7.cell? ⟨G, 2, none⟩ = some (.slice na nn nc) := k1.cell 2
    have g3 : w7.cell? ⟨G, 3, none⟩ = some (.slice ra rn rc) := k1.cell 3
    rw [unhide Hz] at g0
    have gl := k1.lt
    have RB7 := k2
    have r0 : w7.cell? ⟨H, 0, none⟩ = some (.int .i64 0) := RB7.cell 0
    have r1 : w7.cell? ⟨H, 1, none⟩ = some (.int .i64 0) := RB7.cell 1
    have r2 : w7.cell? ⟨H, 2, none⟩ = some (.slice none 0 0) := RB7.cell 2
    have r3 : w7.cell? ⟨H, 3, none⟩ = some (.slice none 0 0) := RB7.cell 3
    have rf0 := RB7.free 0
    have rf1 := RB7.free 1
    have rf2 := RB7.free 2
    have rf3 := RB7.free 3
    have rl := RB7.lt
    have H5 := has_setAll [.int .i64 0, .int .i64 R1.2.n, .slice na nn nc, .slice ra rn rc] RB7 rfl
    have O5 := only_setW H [.int .i64 0, .int .i64 R1.2.n, .slice na nn nc, .slice ra rn rc] 0 w7
    have FF := hide (And.intro H5 (show ExP L q w k g x M K RR pl (.returned (.agg #[.int .i64 0, .int .i64 R1.2.n, .slice na nn nc, .slice ra rn rc])) (setW H [.int .i64 0, .int .i64 R1.2.n, .slice na nn nc, .slice ra rn rc] 0 w7) from (by
      obtain ⟨d1, d2, d3, d4, d5, d6⟩ := unhide HE
      have hgl := (unhide HRB7).lt
      have e2 : RR.2 = R1.2 := unhide HR2
      refine ⟨na, nn, nc, ra, rn, rc, hi, q', K2, by rw [e2, unhide Hz], ?_, fun b h1 h2 => ?_, d3.keep O5 (fun b hb (e : b = H) => ?_), d4, ?_⟩
      · rw [e2]
        exact (d1.keep O5 (fun b h1 h2 (e : b = H) => by omega)).lower (by omega)
      · by_cases hb : b = H
        · rw [hb]; exact d5
        · exact d2 b (by omega) h2
      · subst e
        rcases hb with c | c | c | c
        · exact d5.1 c
        · exact d5.2.1 c
        · exact d5.2.2.1 c
        · exact d5.2.2.2 c
      · rcases d6 with ⟨h1, h2, h3⟩ | ⟨rs, com, wa, wb, h1, h2, h3, h4, h5⟩
        · exact .inl ⟨h1, h2.trans (unhide HQ).2.2.1, h3.lateS O5 (fun b (e : b = H) => by omega)⟩
        · exact .inr ⟨rs, com, wa, wb, h1, (by first | exact h2.elim | exact ⟨by rw [e2, unhide Hz], hL⟩), h3, h4, h5.lateS O5 (fun b (e : b = H) => by omega)⟩)))
    simp only [setW, Nat.zero_add, Nat.reduceAdd] at FF
    clear H5 O5
    clear RB7 k1 k2 k3 k4 k5 k6 k7 k8 hc hc2 CC e0 kl
    go_wp2_with fail
    refine bodyPost_ret (sres_result rfl _ rfl (unhide FF).1 rfl) rfl ?_
    exact (unhide FF).2
  · have bz : (z == 0) = false := by simp [h0]
    have hrr := hq.symm
    rw [if_neg h0] at hrr
    clear hq
    have HR2 := hide (show RR.2 = R1.2 by rw [hrr])
    have HRR1 := hide (show RR.1 = R1.1.roll s.toNat by rw [hrr])
    clear hrr
    have CC := hide (qrollK_any (unhide H6).2.2.2.2.2.1.rx (unhide HG) (unhide HQ).2.2.2.1)
    clear h0
    go_wp2_with fail
    refine (unhide CC).mono ?_
    rintro e w7 ⟨rfl, hc⟩
    have hc2 : (Rp q w6 g x RR.1 K' w7 ∧ RR.1.com = R1.1.com) ∨ (False ∧ Rc q w6 g x RR.1 K' w7) := by rw [unhide HRR1]; exact .inl ⟨hc, rfl⟩
    obtain ⟨k1, k2, k3, q', K2, k4, k5, k6, k7, k8⟩ := auto_end (unhide H6).1 (unhide H6).2.1 (unhide H6).2.2.1 (unhide H6).2.2.2.1 (unhide H6).2.2.2.2.1 (unhide H6).2.2.2.2.2.1 (unhide H6).2.2.2.2.2.2.1 (unhide H6).2.2.2.2.2.2.2.1 (unhide H6).2.2.2.2.2.2.2.2.1 (unhide H6).2.2.2.2.2.2.2.2.2 hH hc2
    have HE := hide (And.intro k3 (And.intro k4 (And.intro k5 (And.intro k6 (And.intro k7 k8)))))
    have HRB7 := hide k2
    have g0 : w7.cell? ⟨G, 0, none⟩ = some (.int .i64 R1.2.e) := k1.cell 0
    have g1 : w7.cell? ⟨G, 1, none⟩ = some (.int .i64 R1.2.n) := k1.cell 1
    have g2 : w7.cell? ⟨G, 2, none⟩ = some (.slice na nn nc) := k1.cell 2
    have g3 : w7.cell? ⟨G, 3, none⟩ = some (.slice ra rn rc) := k1.cell 3
    rw [unhide Hz] at g0
    have gl := k1.lt
    have RB7 := k2
    have r0 : w7.cell? ⟨H, 0, none⟩ = some (.int .i64 0) := RB7.cell 0
    have r1 : w7.cell? ⟨H, 1, none⟩ = some (.int .i64 0) := RB7.cell 1
    have r2 : w7.cell? ⟨H, 2, none⟩ = some (.slice none 0 0) := RB7.cell 2
    have r3 : w7.cell? ⟨H, 3, none⟩ = some (.slice none 0 0) := RB7.cell 3
    have rf0 := RB7.free 0
    have rf1 := RB7.free 1
    have rf2 := RB7.free 2
    have rf3 := RB7.free 3
    have rl := RB7.lt
    have H5 := has_setAll [.int .i64 z, .int .i64 R1.2.n, .slice na nn nc, .slice ra rn rc] RB7 rfl
    have O5 := only_setW H [.int .i64 z, .int .i64 R1.2.n, .slice na nn nc, .slice ra rn rc] 0 w7
    have FF := hide (And.intro H5 (show ExP L q w k g x M K RR pl (.returned (.agg #[.int .i64 z, .int .i64 R1.2.n, .slice na nn nc, .slice ra rn rc])) (setW H [.int .i64 z, .int .i64 R1.2.n, .slice na nn nc, .slice ra rn rc] 0 w7) from (by
      obtain ⟨d1, d2, d3, d4, d5, d6⟩ := unhide HE
      have hgl := (unhide HRB7).lt
      have e2 : RR.2 = R1.2 := unhide HR2
      refine ⟨na, nn, nc, ra, rn, rc, hi, q', K2, by rw [e2, unhide Hz], ?_, fun b h1 h2 => ?_, d3.keep O5 (fun b hb (e : b = H) => ?_), d4, ?_⟩
      · rw [e2]
        exact (d1.keep O5 (fun b h1 h2 (e : b = H) => by omega)).lower (by omega)
      · by_cases hb : b = H
        · rw [hb]; exact d5
        · exact d2 b (by omega) h2
      · subst e
        rcases hb with c | c | c | c
        · exact d5.1 c
        · exact d5.2.1 c
        · exact d5.2.2.1 c
        · exact d5.2.2.2 c
      · rcases d6 with ⟨h1, h2, h3⟩ | ⟨rs, com, wa, wb, h1, h2, h3, h4, h5⟩
        · exact .inl ⟨h1, h2.trans (unhide HQ).2.2.1, h3.lateS O5 (fun b (e : b = H) => by omega)⟩
        · exact .inr ⟨rs, com, wa, wb, h1, (by first | exact h2.elim | exact ⟨by rw [e2, unhide Hz], hL⟩), h3, h4, h5.lateS O5 (fun b (e : b = H) => by omega)⟩)))
    simp only [setW, Nat.zero_add, Nat.reduceAdd] at FF
    clear H5 O5
    clear RB7 k1 k2 k3 k4 k5 k6 k7 k8 hc hc2 CC e0 kl
    go_wp2_with fail
    refine bodyPost_ret (sres_result rfl _ rfl (unhide FF).1 rfl) rfl ?_
    exact (unhide FF).2
end
end Go.Proofs.Qxb6500412aGreat
