/-
  OWN WORK. QUERY's MODEL: Exec: sentences on rows; whole (written by tools/gen_qe16.py).
-/
import Derived.Test.Qxb6500412aGreatQE15
namespace Go.Proofs.Qxb6500412aGreat
open Go.RowKit Go.PlainAid
set_option linter.unusedSimpArgs false
set_option linter.unusedVariables false

section
variable {w w3 w4 w5 w6 w7 w9 : World} {k q G lo : Nat} {M : Mu} {H H1 H2 H3 B : Nat → Prop} {cv rv : Value} {R : Mu × Rs} {Q : Mu}
/-- What a sentence on rows leaves, seen from w3. -/
structure RwQ (w3 : World) (k q lo : Nat) (H : Nat → Prop) (M : Mu) (R : Rs) (cv rv : Value) (w5 : World) : Prop where
  ex : ∃ H' B, RsN B w5 cv rv R ∧ (∀ b, B b → lo ≤ b ∧ b < w5.heap.size ∧ ¬ H' b) ∧ ME w5 k q M H' ∧ (∀ b, H' b → H b ∨ w3.heap.size ≤ b)
  on : Only H w3 w5
theorem RwQ.quiet {S : Rs} (h : RwQ w3 k q lo H Q S cv rv w5) (o : Only (fun _ => False) w5 w6) : RwQ w3 k q lo H Q S cv rv w6 := by
  obtain ⟨H', B, h1, h2, h3, h4⟩ := h.ex
  exact ⟨⟨H', B, h1.keep o (fun _ _ e => e), fun b hb => ⟨(h2 b hb).1, Nat.lt_of_lt_of_le (h2 b hb).2.1 o.size, (h2 b hb).2.2⟩, h3.quiet o, h4⟩, h.on.trans (o.mono (fun _ _ e => e.elim)) (fun _ _ e => e)⟩
/-- Behind Begin. -/
theorem RwQ.behind {S : Rs} (h : RwQ w4 k q lo H1 Q S cv rv w5) (hH : ∀ b, H1 b → H b ∨ w3.heap.size ≤ b) (o : Only H w3 w4) : RwQ w3 k q lo H Q S cv rv w5 := by
  obtain ⟨H', B, h1, h2, h3, h4⟩ := h.ex
  have z := o.size
  exact ⟨⟨H', B, h1, h2, h3, fun b hb => (h4 b hb).elim (fun c => hH b c) (fun c => .inr (by omega))⟩, o.trans h.on (fun b hl hb => (hH b hb).elim id (fun c => by omega))⟩
/-- The answer laid into the result. -/
theorem RwQ.fin {na ra : Option Addr} {nn nc rn rc : Nat} (E : ME w k q M H) (oA : Only (fun _ => False) w w3) (h : RwQ w3 k q lo H R.1 R.2 (.slice na nn nc) (.slice ra rn rc) w6) (o9 : Only (fun b => b = G) w6 w9) (hG : w.heap.size = G) (hl : G < lo) (hG3 : G < w3.heap.size) : MnP w k q w.heap.size H R (.returned (.agg #[.int .i64 R.2.e, .int .i64 R.2.n, .slice na nn nc, .slice ra rn rc])) w9 := by
  obtain ⟨H', B, h1, h2, h3, h4⟩ := h.ex
  have kl := E.kl
  have z1 := oA.size
  have z9 := o9.size
  have nG : ¬ H' G := fun c => (h4 G c).elim (fun d => by have := E.mx.lt G d; omega) (fun d => by omega)
  refine ⟨na, nn, nc, ra, rn, rc, H', B, rfl, h1.keep o9 (fun b hb (e : b = G) => by have := (h2 b hb).1; omega), fun b hb => ⟨by have := (h2 b hb).1; omega, by have := (h2 b hb).2.1; omega, (h2 b hb).2.2⟩, h3.keep o9 (fun b hb (e : b = G) => hb.elim (fun c => nG (by rw [← e]; exact c)) (fun c => by omega)), fun b hb => (h4 b hb).imp id (fun c => by omega), ?_⟩
  exact ((oA.mono (fun _ _ e => e.elim)).trans h.on (fun _ _ e => e)).lateS o9 (fun b (e : b = G) => by omega)
end
section
variable {w : World} {k q : Nat} {M : Mu} {H : Nat → Prop} {s : Int} {t : ByteArray}
set_option maxRecDepth 100000 in
set_option maxHeartbeats 16000000 in
theorem smexec_in (E : ME w k q M H) (ok : MuOk M) (mq : MuQ M) (hl : ¬ 256 < t.size) (hg : gdS s) (hp : parB t = true) (hk : (parQ t).2.kind = 7 ∨ (parQ t).2.kind = 8 ∨ (parQ t).2.kind = 9 ∨ (parQ t).2.kind = 10) (ha : M.act s.toNat = true) : Calls Tryz.prog 128 #[.pointer (some ⟨k, 0, none⟩), .int .i64 s, .string t] w (MnP w k q w.heap.size H (exQ M s t)) := by
  obtain ⟨n, rfl⟩ : ∃ n : Nat, s = n := ⟨s.toNat, by have := hg.1; omega⟩
  have hn : n < 4 := by have := hg.2; omega
  have n4 : (n : Int) < 4 := by omega
  have en : ((n : Nat) : Int).toNat = n := by omega
  have HEN := hide (And.intro en hn)
  have HAC := hide ha
  rw [en] at ha
  obtain ⟨Z, hZ, hZS, hZA⟩ := E.mx.ex
  have a0 := hZ.cA hn
  rw [← hZS.act n hn, ha] at a0
  have Ha0 := hide a0
  clear a0 ha hZ hZS hZA Z en hn
  obtain ⟨st, hst⟩ : ∃ st, (parQ t).2 = st := ⟨_, rfl⟩
  have e1 : exQ M (n : Int) t = stQ M (n : Int) st := by unfold exQ; rw [if_neg hl, if_neg (fun c => c hg), hp, hst]; rfl
  have HOK := hide (show StOk st ∧ StB st ∧ StK st ∧ MuOk M ∧ MuQ M from by rw [← hst]; exact ⟨parQ_ok t, parQ_b (by omega), parQ_k hp, ok, mq⟩)
  have Hst := hide hst
  rw [hst] at hk
  obtain ⟨RR, hRR⟩ : ∃ r, stQ M (n : Int) st = r := ⟨_, rfl⟩
  rw [e1, hRR]
  have HRR := hide hRR
  have o1 : Only (fun _ => False) w (w.alloc (.cells #[.int .i64 0, .int .i64 0, .slice none 0 0, .slice none 0 0] 52)) := (Only.refl _ w).alloc _
  have N1 := Has.new w #[.int .i64 0, .int .i64 0, .slice none 0 0, .slice none 0 0] 52
  have HE0 := hide E
  have HA := hide (show Has (w.alloc (.cells #[.int .i64 0, .int .i64 0, .slice none 0 0, .slice none 0 0] 52)) w.heap.size #[.int .i64 0, .int .i64 0, .slice none 0 0, .slice none 0 0] 52 ∧ Only (fun _ => False) w (w.alloc (.cells #[.int .i64 0, .int .i64 0, .slice none 0 0, .slice none 0 0] 52)) ∧ w.heap.size < (w.alloc (.cells #[.int .i64 0, .int .i64 0, .slice none 0 0, .slice none 0 0] 52)).heap.size from ⟨N1, o1, N1.lt⟩)
  have CG := xgood_any (n : Int) (w.alloc (.cells #[.int .i64 0, .int .i64 0, .slice none 0 0, .slice none 0 0] 52))
  rw [decide_eq_true hg] at CG
  have CG := hide CG
  have b0 : ¬ ((t.size : Int) > 256) := by omega
  have CP := hide (smparse_any t (w.alloc (.cells #[.int .i64 0, .int .i64 0, .slice none 0 0, .slice none 0 0] 52)))
  have Hp := hide hp
  have HG := hide hg
  have HKD := hide hk
  clear e1 hRR hst o1 N1 E hl hg hp hk ok mq
  go_enter Tryz.func128, Tryz.ntmps128
  go_upto_region 1 with fail
  generalize w.alloc (.cells #[.int .i64 0, .int .i64 0, .slice none 0 0, .slice none 0 0] 52) = w1 at *
  generalize hH : w.heap.size = G at *
  have HG0 := hide hH
  go_wp2_with fail
  refine (unhide CG).mono ?_
  rintro e w2 ⟨rfl, rfl⟩
  clear CG
  go_wp2_with fail
  refine (unhide CP).mono ?_
  rintro e w2 ⟨S, rfl, hpp, _, o2⟩
  obtain ⟨hL, hO⟩ := hpp (unhide Hp)
  rw [unhide Hst] at hO
  rw [unhide Hp]
  obtain ⟨a2, n2, c2, a4, n4, c4, a5, n5, c5, a7, n7, c7, hcs⟩ := hO.cells_ hL
  have hcs : tabV 12 S.cell = #[.int .i64 st.kind, .string st.table, .slice a2 n2 c2, .int .i64 st.pk, .slice a4 n4 c4, .slice a5 n5 c5, .bool st.star, .slice a7 n7 c7, .string st.order, .bool st.desc, .bool st.hasL, .int .i64 st.lim] := hcs
  rw [hcs]
  have oP : Only (fun _ => False) w2 (w2.alloc (.cells #[.int .i64 st.kind, .string st.table, .slice a2 n2 c2, .int .i64 st.pk, .slice a4 n4 c4, .slice a5 n5 c5, .bool st.star, .slice a7 n7 c7, .string st.order, .bool st.desc, .bool st.hasL, .int .i64 st.lim] 253)) := (Only.refl _ _).alloc _
  have NP := Has.new w2 #[.int .i64 st.kind, .string st.table, .slice a2 n2 c2, .int .i64 st.pk, .slice a4 n4 c4, .slice a5 n5 c5, .bool st.star, .slice a7 n7 c7, .string st.order, .bool st.desc, .bool st.hasL, .int .i64 st.lim] 253
  have oA := ((unhide HA).2.1.trans o2 (fun _ _ e => e)).trans oP (fun _ _ e => e)
  have HX := hide (show Has (w2.alloc (.cells #[.int .i64 st.kind, .string st.table, .slice a2 n2 c2, .int .i64 st.pk, .slice a4 n4 c4, .slice a5 n5 c5, .bool st.star, .slice a7 n7 c7, .string st.order, .bool st.desc, .bool st.hasL, .int .i64 st.lim] 253)) w2.heap.size #[.int .i64 st.kind, .string st.table, .slice a2 n2 c2, .int .i64 st.pk, .slice a4 n4 c4, .slice a5 n5 c5, .bool st.star, .slice a7 n7 c7, .string st.order, .bool st.desc, .bool st.hasL, .int .i64 st.lim] 253 ∧ Has (w2.alloc (.cells #[.int .i64 st.kind, .string st.table, .slice a2 n2 c2, .int .i64 st.pk, .slice a4 n4 c4, .slice a5 n5 c5, .bool st.star, .slice a7 n7 c7, .string st.order, .bool st.desc, .bool st.hasL, .int .i64 st.lim] 253)) G #[.int .i64 0, .int .i64 0, .slice none 0 0, .slice none 0 0] 52 ∧ ME (w2.alloc (.cells #[.int .i64 st.kind, .string st.table, .slice a2 n2 c2, .int .i64 st.pk, .slice a4 n4 c4, .slice a5 n5 c5, .bool st.star, .slice a7 n7 c7, .string st.order, .bool st.desc, .bool st.hasL, .int .i64 st.lim] 253)) k q M H ∧ SML w1.heap.size (w2.alloc (.cells #[.int .i64 st.kind, .string st.table, .slice a2 n2 c2, .int .i64 st.pk, .slice a4 n4 c4, .slice a5 n5 c5, .bool st.star, .slice a7 n7 c7, .string st.order, .bool st.desc, .bool st.hasL, .int .i64 st.lim] 253)) S ∧ SmOf S (Ms.of st) ∧ Only (fun _ => False) w (w2.alloc (.cells #[.int .i64 st.kind, .string st.table, .slice a2 n2 c2, .int .i64 st.pk, .slice a4 n4 c4, .slice a5 n5 c5, .bool st.star, .slice a7 n7 c7, .string st.order, .bool st.desc, .bool st.hasL, .int .i64 st.lim] 253)) ∧ (∀ j, smj j → ∀ b, (S.cell j).ownBlock = some b → b < w2.heap.size) ∧ w2.heap.size < (w2.alloc (.cells #[.int .i64 st.kind, .string st.table, .slice a2 n2 c2, .int .i64 st.pk, .slice a4 n4 c4, .slice a5 n5 c5, .bool st.star, .slice a7 n7 c7, .string st.order, .bool st.desc, .bool st.hasL, .int .i64 st.lim] 253)).heap.size ∧ G < w1.heap.size ∧ w1.heap.size ≤ w2.heap.size from ⟨NP, ((unhide HA).1.keep o2 (fun e => e)).keep oP (fun e => e), (unhide HE0).quiet oA, hL.quiet oP, hO, oA, fun j hj b hb => ownsRow_lt (hL.own j hj) b hb, NP.lt, (unhide HA).2.2, o2.size⟩)
  have HCS := hide hcs
  clear hL hO hcs oP NP oA o2 CP HA hpp
  go_upto_region 8 with fail
  generalize w2.alloc (.cells #[.int .i64 st.kind, .string st.table, .slice a2 n2 c2, .int .i64 st.pk, .slice a4 n4 c4, .slice a5 n5 c5, .bool st.star, .slice a7 n7 c7, .string st.order, .bool st.desc, .bool st.hasL, .int .i64 st.lim] 253) = w3 at *
  generalize w2.heap.size = P at *
  have t0 : w3.cell? ⟨P, 0, none⟩ = some (.int .i64 st.kind) := (unhide HX).1.cell 0
  have t1 : w3.cell? ⟨P, 1, none⟩ = some (.string st.table) := (unhide HX).1.cell 1
  have t2 : w3.cell? ⟨P, 2, none⟩ = some (.slice a2 n2 c2) := (unhide HX).1.cell 2
  have t3 : w3.cell? ⟨P, 3, none⟩ = some (.int .i64 st.pk) := (unhide HX).1.cell 3
  have t4 : w3.cell? ⟨P, 4, none⟩ = some (.slice a4 n4 c4) := (unhide HX).1.cell 4
  have t5 : w3.cell? ⟨P, 5, none⟩ = some (.slice a5 n5 c5) := (unhide HX).1.cell 5
  have t6 : w3.cell? ⟨P, 6, none⟩ = some (.bool st.star) := (unhide HX).1.cell 6
  have t7 : w3.cell? ⟨P, 7, none⟩ = some (.slice a7 n7 c7) := (unhide HX).1.cell 7
  have t8 : w3.cell? ⟨P, 8, none⟩ = some (.string st.order) := (unhide HX).1.cell 8
  have t9 : w3.cell? ⟨P, 9, none⟩ = some (.bool st.desc) := (unhide HX).1.cell 9
  have t10 : w3.cell? ⟨P, 10, none⟩ = some (.bool st.hasL) := (unhide HX).1.cell 10
  have t11 : w3.cell? ⟨P, 11, none⟩ = some (.int .i64 st.lim) := (unhide HX).1.cell 11
  have tl := (unhide HX).1.lt
  have e0 : w3.cell? ⟨k, 0, none⟩ = some (.pointer (some ⟨q, 0, none⟩)) := (unhide HX).2.2.1.has.cell 0
  have kl := (unhide HX).2.2.1.kl
  have bk : decide (st.kind ≤ 6) = false := decide_eq_false (by have := unhide HKD; omega)
  have bkp : ¬ st.kind ≤ 6 := by have := unhide HKD; omega
  have a0 : w3.cell? ⟨q, 1 + n, none⟩ = some (.bool true) := (unhide HX).2.2.2.2.2.1.cellS (unhide Ha0)
  have ql := (unhide HX).2.2.1.mx.kl
  have HG3 := hide (show G < w3.heap.size ∧ G < w1.heap.size ∧ w1.heap.size ≤ w3.heap.size from by have h := (unhide HX).2.2.2.2.2.2.2; omega)
  have nG := hide (show ∀ (Hx : Nat → Prop), (∀ b, Hx b → H b ∨ w3.heap.size ≤ b) → ¬ Hx G from fun Hx h c => (h G c).elim (fun d => by have := (unhide HE0).mx.lt G d; have := unhide HG0; omega) (fun d => by have := (unhide HG3).1; omega))
  have nP := hide (show ∀ (Hx : Nat → Prop), (∀ b, Hx b → H b ∨ w3.heap.size ≤ b) → ¬ Hx P from fun Hx h c => (h P c).elim (fun d => by have := (unhide HE0).mx.lt P d; have := unhide HG0; have h := (unhide HX).2.2.2.2.2.2.2; omega) (fun d => by have h := (unhide HX).2.2.2.2.2.2.2; omega))
  have nS := hide (show ∀ (Hx : Nat → Prop), (∀ b, Hx b → H b ∨ w3.heap.size ≤ b) → ∀ j, smj j → ∀ b, (S.cell j).ownBlock = some b → ¬ Hx b from fun Hx h j hj b hb c => by
    have h1 := (unhide HX).2.2.2.1.new j hj b hb
    have h2 := (unhide HX).2.2.2.2.2.2.1 j hj b hb
    have h3 := (unhide HX).2.2.2.2.2.2.2
    have h4 := unhide HG0
    rcases h b c with d | d
    · have := (unhide HE0).mx.lt b d; omega
    · omega)
  have hkk := unhide HKD
  have hin : M.inT (n : Int) = 0 := inT_of (unhide HG) (unhide HAC)
  have hq : runQ M (n : Int) st = RR := by
    rw [← unhide HRR]; unfold stQ; rw [if_neg (show ¬ st.kind = 1 by omega)]; rw [if_neg (show ¬ st.kind = 2 by omega)]; rw [if_neg (show ¬ st.kind = 3 by omega)]; rw [if_neg (show ¬ st.kind = 4 by omega)]; rw [if_neg (show ¬ st.kind = 5 by omega)]; rw [if_neg (show ¬ st.kind = 6 by omega)]; rw [if_pos (unhide HAC)]
  have CR := smrun_any (s := (n : Int)) (unhide HX).2.2.1 (unhide HOK).2.2.2.1 (unhide HOK).2.2.2.2 hin (unhide HX).2.2.2.1 (unhide HX).2.2.2.2.1 hkk (unhide HOK).2.2.1 (unhide HOK).2.1 (unhide HOK).1 (unhide HG3).2.2 (unhide nS H (fun b hb => .inl hb))
  rw [hq, unhide HCS] at CR
  have CR := hide CR
  clear hin hq hkk
  go_wp2_with fail
  refine (unhide CR).mono ?_
  rintro e w5 ⟨na, nn, nc, ra, rn, rc, H', B, rfl, d1, d2, d3, d4, d5⟩
  have HR5 := hide (show RwQ w3 k q w1.heap.size H RR.1 RR.2 (.slice na nn nc) (.slice ra rn rc) w5 from ⟨⟨H', B, d1, d2, d3, d4⟩, d5⟩)
  have HRBx := hide ((unhide HX).2.1.keep d5 (unhide nG H (fun b hb => .inl hb)))
  clear d1 d2 d3 d4 d5 CR a0 ql e0 kl t0 t1 t2 t3 t4 t5 t6 t7 t8 t9 t10 t11 tl
  obtain ⟨ze, hze⟩ : ∃ z, RR.2.e = z := ⟨_, rfl⟩
  obtain ⟨zn, hzn⟩ : ∃ z, RR.2.n = z := ⟨_, rfl⟩
  rw [hze, hzn]
  have HZ := hide (And.intro hze hzn)
  clear hze hzn
  have o6 : Only (fun _ => False) w5 (w5.alloc (.cells #[.int .i64 ze, .int .i64 zn, .slice na nn nc, .slice ra rn rc] 52)) := (Only.refl _ _).alloc _
  have N6 := Has.new w5 #[.int .i64 ze, .int .i64 zn, .slice na nn nc, .slice ra rn rc] 52
  have HR6 := hide ((unhide HR5).quiet o6)
  have HRB6 := hide ((unhide HRBx).keep o6 (fun e => e))
  have HN6 := hide N6
  have hGA : G < w5.heap.size := (unhide HRBx).lt
  clear o6 N6 HR5 HRBx
  go_upto_region 28 with fail
  generalize w5.alloc (.cells #[.int .i64 ze, .int .i64 zn, .slice na nn nc, .slice ra rn rc] 52) = w6 at *
  generalize w5.heap.size = A at *
  have y0 : w6.cell? ⟨A, 0, none⟩ = some (.int .i64 ze) := (unhide HN6).cell 0
  have y1 : w6.cell? ⟨A, 1, none⟩ = some (.int .i64 zn) := (unhide HN6).cell 1
  have y2 : w6.cell? ⟨A, 2, none⟩ = some (.slice na nn nc) := (unhide HN6).cell 2
  have y3 : w6.cell? ⟨A, 3, none⟩ = some (.slice ra rn rc) := (unhide HN6).cell 3
  have yl := (unhide HN6).lt
  have RB7 := unhide HRB6
  have hne : G ≠ A := by omega
  have hne2 : A ≠ G := by omega
  have r0 : w6.cell? ⟨G, 0, none⟩ = some (.int .i64 0) := RB7.cell 0
  have r1 : w6.cell? ⟨G, 1, none⟩ = some (.int .i64 0) := RB7.cell 1
  have r2 : w6.cell? ⟨G, 2, none⟩ = some (.slice none 0 0) := RB7.cell 2
  have r3 : w6.cell? ⟨G, 3, none⟩ = some (.slice none 0 0) := RB7.cell 3
  have rf0 := RB7.free 0
  have rf1 := RB7.free 1
  have rf2 := RB7.free 2
  have rf3 := RB7.free 3
  have rl := RB7.lt
  have H5 := has_setAll [.int .i64 ze, .int .i64 zn, .slice na nn nc, .slice ra rn rc] RB7 rfl
  have O5 := only_setW G [.int .i64 ze, .int .i64 zn, .slice na nn nc, .slice ra rn rc] 0 w6
  have FF := hide (And.intro H5 (show MnP w k q w.heap.size H RR (.returned (.agg #[.int .i64 ze, .int .i64 zn, .slice na nn nc, .slice ra rn rc])) (setW G [.int .i64 ze, .int .i64 zn, .slice na nn nc, .slice ra rn rc] 0 w6) from (by
      have h := RwQ.fin (R := RR) (unhide HE0) (unhide HX).2.2.2.2.2.1 (unhide HR6) O5 (unhide HG0) (unhide HG3).2.1 (unhide HG3).1
      rw [(unhide HZ).1, (unhide HZ).2] at h
      exact h)))
  simp only [setW, Nat.zero_add, Nat.reduceAdd] at FF
  clear H5 O5
  clear RB7
  go_wp2_with fail
  refine bodyPost_ret (sres_result rfl _ rfl (unhide FF).1 rfl) rfl ?_
  have hff := (unhide FF).2
  rw [unhide HG0] at hff
  exact hff
set_option maxRecDepth 100000 in
set_option maxHeartbeats 16000000 in
theorem smexec_own (E : ME w k q M H) (ok : MuOk M) (mq : MuQ M) (hl : ¬ 256 < t.size) (hg : gdS s) (hp : parB t = true) (hk : (parQ t).2.kind = 7 ∨ (parQ t).2.kind = 8 ∨ (parQ t).2.kind = 9 ∨ (parQ t).2.kind = 10) (ha : M.act s.toNat = false) : Calls Tryz.prog 128 #[.pointer (some ⟨k, 0, none⟩), .int .i64 s, .string t] w (MnP w k q w.heap.size H (exQ M s t)) := by
  obtain ⟨n, rfl⟩ : ∃ n : Nat, s = n := ⟨s.toNat, by have := hg.1; omega⟩
  have hn : n < 4 := by have := hg.2; omega
  have n4 : (n : Int) < 4 := by omega
  have en : ((n : Nat) : Int).toNat = n := by omega
  have HEN := hide (And.intro en hn)
  have HAC := hide ha
  rw [en] at ha
  obtain ⟨Z, hZ, hZS, hZA⟩ := E.mx.ex
  have a0 := hZ.cA hn
  rw [← hZS.act n hn, ha] at a0
  have Ha0 := hide a0
  clear a0 ha hZ hZS hZA Z en hn
  obtain ⟨st, hst⟩ : ∃ st, (parQ t).2 = st := ⟨_, rfl⟩
  have e1 : exQ M (n : Int) t = stQ M (n : Int) st := by unfold exQ; rw [if_neg hl, if_neg (fun c => c hg), hp, hst]; rfl
  have HOK := hide (show StOk st ∧ StB st ∧ StK st ∧ MuOk M ∧ MuQ M from by rw [← hst]; exact ⟨parQ_ok t, parQ_b (by omega), parQ_k hp, ok, mq⟩)
  have Hst := hide hst
  rw [hst] at hk
  obtain ⟨RR, hRR⟩ : ∃ r, stQ M (n : Int) st = r := ⟨_, rfl⟩
  rw [e1, hRR]
  have HRR := hide hRR
  have o1 : Only (fun _ => False) w (w.alloc (.cells #[.int .i64 0, .int .i64 0, .slice none 0 0, .slice none 0 0] 52)) := (Only.refl _ w).alloc _
  have N1 := Has.new w #[.int .i64 0, .int .i64 0, .slice none 0 0, .slice none 0 0] 52
  have HE0 := hide E
  have HA := hide (show Has (w.alloc (.cells #[.int .i64 0, .int .i64 0, .slice none 0 0, .slice none 0 0] 52)) w.heap.size #[.int .i64 0, .int .i64 0, .slice none 0 0, .slice none 0 0] 52 ∧ Only (fun _ => False) w (w.alloc (.cells #[.int .i64 0, .int .i64 0, .slice none 0 0, .slice none 0 0] 52)) ∧ w.heap.size < (w.alloc (.cells #[.int .i64 0, .int .i64 0, .slice none 0 0, .slice none 0 0] 52)).heap.size from ⟨N1, o1, N1.lt⟩)
  have CG := xgood_any (n : Int) (w.alloc (.cells #[.int .i64 0, .int .i64 0, .slice none 0 0, .slice none 0 0] 52))
  rw [decide_eq_true hg] at CG
  have CG := hide CG
  have b0 : ¬ ((t.size : Int) > 256) := by omega
  have CP := hide (smparse_any t (w.alloc (.cells #[.int .i64 0, .int .i64 0, .slice none 0 0, .slice none 0 0] 52)))
  have Hp := hide hp
  have HG := hide hg
  have HKD := hide hk
  clear e1 hRR hst o1 N1 E hl hg hp hk ok mq
  go_enter Tryz.func128, Tryz.ntmps128
  go_upto_region 1 with fail
  generalize w.alloc (.cells #[.int .i64 0, .int .i64 0, .slice none 0 0, .slice none 0 0] 52) = w1 at *
  generalize hH : w.heap.size = G at *
  have HG0 := hide hH
  go_wp2_with fail
  refine (unhide CG).mono ?_
  rintro e w2 ⟨rfl, rfl⟩
  clear CG
  go_wp2_with fail
  refine (unhide CP).mono ?_
  rintro e w2 ⟨S, rfl, hpp, _, o2⟩
  obtain ⟨hL, hO⟩ := hpp (unhide Hp)
  rw [unhide Hst] at hO
  rw [unhide Hp]
  obtain ⟨a2, n2, c2, a4, n4, c4, a5, n5, c5, a7, n7, c7, hcs⟩ := hO.cells_ hL
  have hcs : tabV 12 S.cell = #[.int .i64 st.kind, .string st.table, .slice a2 n2 c2, .int .i64 st.pk, .slice a4 n4 c4, .slice a5 n5 c5, .bool st.star, .slice a7 n7 c7, .string st.order, .bool st.desc, .bool st.hasL, .int .i64 st.lim] := hcs
  rw [hcs]
  have oP : Only (fun _ => False) w2 (w2.alloc (.cells #[.int .i64 st.kind, .string st.table, .slice a2 n2 c2, .int .i64 st.pk, .slice a4 n4 c4, .slice a5 n5 c5, .bool st.star, .slice a7 n7 c7, .string st.order, .bool st.desc, .bool st.hasL, .int .i64 st.lim] 253)) := (Only.refl _ _).alloc _
  have NP := Has.new w2 #[.int .i64 st.kind, .string st.table, .slice a2 n2 c2, .int .i64 st.pk, .slice a4 n4 c4, .slice a5 n5 c5, .bool st.star, .slice a7 n7 c7, .string st.order, .bool st.desc, .bool st.hasL, .int .i64 st.lim] 253
  have oA := ((unhide HA).2.1.trans o2 (fun _ _ e => e)).trans oP (fun _ _ e => e)
  have HX := hide (show Has (w2.alloc (.cells #[.int .i64 st.kind, .string st.table, .slice a2 n2 c2, .int .i64 st.pk, .slice a4 n4 c4, .slice a5 n5 c5, .bool st.star, .slice a7 n7 c7, .string st.order, .bool st.desc, .bool st.hasL, .int .i64 st.lim] 253)) w2.heap.size #[.int .i64 st.kind, .string st.table, .slice a2 n2 c2, .int .i64 st.pk, .slice a4 n4 c4, .slice a5 n5 c5, .bool st.star, .slice a7 n7 c7, .string st.order, .bool st.desc, .bool st.hasL, .int .i64 st.lim] 253 ∧ Has (w2.alloc (.cells #[.int .i64 st.kind, .string st.table, .slice a2 n2 c2, .int .i64 st.pk, .slice a4 n4 c4, .slice a5 n5 c5, .bool st.star, .slice a7 n7 c7, .string st.order, .bool st.desc, .bool st.hasL, .int .i64 st.lim] 253)) G #[.int .i64 0, .int .i64 0, .slice none 0 0, .slice none 0 0] 52 ∧ ME (w2.alloc (.cells #[.int .i64 st.kind, .string st.table, .slice a2 n2 c2, .int .i64 st.pk, .slice a4 n4 c4, .slice a5 n5 c5, .bool st.star, .slice a7 n7 c7, .string st.order, .bool st.desc, .bool st.hasL, .int .i64 st.lim] 253)) k q M H ∧ SML w1.heap.size (w2.alloc (.cells #[.int .i64 st.kind, .string st.table, .slice a2 n2 c2, .int .i64 st.pk, .slice a4 n4 c4, .slice a5 n5 c5, .bool st.star, .slice a7 n7 c7, .string st.order, .bool st.desc, .bool st.hasL, .int .i64 st.lim] 253)) S ∧ SmOf S (Ms.of st) ∧ Only (fun _ => False) w (w2.alloc (.cells #[.int .i64 st.kind, .string st.table, .slice a2 n2 c2, .int .i64 st.pk, .slice a4 n4 c4, .slice a5 n5 c5, .bool st.star, .slice a7 n7 c7, .string st.order, .bool st.desc, .bool st.hasL, .int .i64 st.lim] 253)) ∧ (∀ j, smj j → ∀ b, (S.cell j).ownBlock = some b → b < w2.heap.size) ∧ w2.heap.size < (w2.alloc (.cells #[.int .i64 st.kind, .string st.table, .slice a2 n2 c2, .int .i64 st.pk, .slice a4 n4 c4, .slice a5 n5 c5, .bool st.star, .slice a7 n7 c7, .string st.order, .bool st.desc, .bool st.hasL, .int .i64 st.lim] 253)).heap.size ∧ G < w1.heap.size ∧ w1.heap.size ≤ w2.heap.size from ⟨NP, ((unhide HA).1.keep o2 (fun e => e)).keep oP (fun e => e), (unhide HE0).quiet oA, hL.quiet oP, hO, oA, fun j hj b hb => ownsRow_lt (hL.own j hj) b hb, NP.lt, (unhide HA).2.2, o2.size⟩)
  have HCS := hide hcs
  clear hL hO hcs oP NP oA o2 CP HA hpp
  go_upto_region 8 with fail
  generalize w2.alloc (.cells #[.int .i64 st.kind, .string st.table, .slice a2 n2 c2, .int .i64 st.pk, .slice a4 n4 c4, .slice a5 n5 c5, .bool st.star, .slice a7 n7 c7, .string st.order, .bool st.desc, .bool st.hasL, .int .i64 st.lim] 253) = w3 at *
  generalize w2.heap.size = P at *
  have t0 : w3.cell? ⟨P, 0, none⟩ = some (.int .i64 st.kind) := (unhide HX).1.cell 0
  have t1 : w3.cell? ⟨P, 1, none⟩ = some (.string st.table) := (unhide HX).1.cell 1
  have t2 : w3.cell? ⟨P, 2, none⟩ = some (.slice a2 n2 c2) := (unhide HX).1.cell 2
  have t3 : w3.cell? ⟨P, 3, none⟩ = some (.int .i64 st.pk) := (unhide HX).1.cell 3
  have t4 : w3.cell? ⟨P, 4, none⟩ = some (.slice a4 n4 c4) := (unhide HX).1.cell 4
  have t5 : w3.cell? ⟨P, 5, none⟩ = some (.slice a5 n5 c5) := (unhide HX).1.cell 5
  have t6 : w3.cell? ⟨P, 6, none⟩ = some (.bool st.star) := (unhide HX).1.cell 6
  have t7 : w3.cell? ⟨P, 7, none⟩ = some (.slice a7 n7 c7) := (unhide HX).1.cell 7
  have t8 : w3.cell? ⟨P, 8, none⟩ = some (.string st.order) := (unhide HX).1.cell 8
  have t9 : w3.cell? ⟨P, 9, none⟩ = some (.bool st.desc) := (unhide HX).1.cell 9
  have t10 : w3.cell? ⟨P, 10, none⟩ = some (.bool st.hasL) := (unhide HX).1.cell 10
  have t11 : w3.cell? ⟨P, 11, none⟩ = some (.int .i64 st.lim) := (unhide HX).1.cell 11
  have tl := (unhide HX).1.lt
  have e0 : w3.cell? ⟨k, 0, none⟩ = some (.pointer (some ⟨q, 0, none⟩)) := (unhide HX).2.2.1.has.cell 0
  have kl := (unhide HX).2.2.1.kl
  have bk : decide (st.kind ≤ 6) = false := decide_eq_false (by have := unhide HKD; omega)
  have bkp : ¬ st.kind ≤ 6 := by have := unhide HKD; omega
  have a0 : w3.cell? ⟨q, 1 + n, none⟩ = some (.bool false) := (unhide HX).2.2.2.2.2.1.cellS (unhide Ha0)
  have ql := (unhide HX).2.2.1.mx.kl
  have HG3 := hide (show G < w3.heap.size ∧ G < w1.heap.size ∧ w1.heap.size ≤ w3.heap.size from by have h := (unhide HX).2.2.2.2.2.2.2; omega)
  have nG := hide (show ∀ (Hx : Nat → Prop), (∀ b, Hx b → H b ∨ w3.heap.size ≤ b) → ¬ Hx G from fun Hx h c => (h G c).elim (fun d => by have := (unhide HE0).mx.lt G d; have := unhide HG0; omega) (fun d => by have := (unhide HG3).1; omega))
  have nP := hide (show ∀ (Hx : Nat → Prop), (∀ b, Hx b → H b ∨ w3.heap.size ≤ b) → ¬ Hx P from fun Hx h c => (h P c).elim (fun d => by have := (unhide HE0).mx.lt P d; have := unhide HG0; have h := (unhide HX).2.2.2.2.2.2.2; omega) (fun d => by have h := (unhide HX).2.2.2.2.2.2.2; omega))
  have nS := hide (show ∀ (Hx : Nat → Prop), (∀ b, Hx b → H b ∨ w3.heap.size ≤ b) → ∀ j, smj j → ∀ b, (S.cell j).ownBlock = some b → ¬ Hx b from fun Hx h j hj b hb c => by
    have h1 := (unhide HX).2.2.2.1.new j hj b hb
    have h2 := (unhide HX).2.2.2.2.2.2.1 j hj b hb
    have h3 := (unhide HX).2.2.2.2.2.2.2
    have h4 := unhide HG0
    rcases h b c with d | d
    · have := (unhide HE0).mx.lt b d; omega
    · omega)
  have hkk := unhide HKD
  have hgg := unhide HG
  have hin : (M.begin n).inT (n : Int) = 0 := by have h := begin_inT (M := M) hgg; rw [(unhide HEN).1] at h; exact h
  have haF := unhide HAC
  have CB := xmbegin_any (unhide HX).2.2.1.mx (n : Int)
  have CB : Calls Tryz.prog 185 #[.pointer (some ⟨q, 0, none⟩), .int .i64 (n : Int)] w3 fun e w' => e = .returned (.int .i64 0) ∧ MX w' q (M.begin n) (Ext H w3 w') ∧ Only H w3 w' := CB.mono (by
    intro e w' h
    rcases h with ⟨z, rfl, hz, c, rfl⟩ | ⟨rfl, _, _, hX, o⟩
    · rcases c with ⟨c, _⟩ | ⟨_, c, _⟩
      · exact absurd hgg c
      · rw [haF] at c; cases c
    · rw [(unhide HEN).1] at hX; exact ⟨rfl, hX, o⟩)
  have CB := hide CB
  obtain ⟨R0, hR0⟩ : ∃ r, runQ (M.begin n) (n : Int) st = r := ⟨_, rfl⟩
  have HR0 := hide hR0
  have hqq : RR = (if R0.2.e = 0 then (R0.1.commit n, R0.2) else (R0.1.roll n, R0.2)) := by
    rw [← unhide HRR, ← hR0]; unfold stQ; rw [if_neg (show ¬ st.kind = 1 by omega)]; rw [if_neg (show ¬ st.kind = 2 by omega)]; rw [if_neg (show ¬ st.kind = 3 by omega)]; rw [if_neg (show ¬ st.kind = 4 by omega)]; rw [if_neg (show ¬ st.kind = 5 by omega)]; rw [if_neg (show ¬ st.kind = 6 by omega)]; rw [if_neg (by rw [haF]; decide), (unhide HEN).1]
  have HQQ := hide hqq
  have HIN := hide hin
  have HKK := hide hkk
  have hex0 : ∀ w', ∀ b, Ext H w3 w' b → H b ∨ w3.heap.size ≤ b := fun w' b hb => hb.imp id (fun c => c.1)
  have HEX := hide hex0
  clear hin hR0 hqq hkk hex0 haF hgg
  go_wp2_with fail
  refine (unhide CB).mono ?_
  rintro e w4 ⟨rfl, hX4, o4⟩
  have E4 : ME w4 k q (M.begin n) (Ext H w3 w4) := (unhide HX).2.2.1.turn hX4 o4 (unhide HEX w4)
  have zz := o4.size
  have CR := smrun_any (s := (n : Int)) E4 ((unhide HOK).2.2.2.1.begin n) ((unhide HOK).2.2.2.2.begin n) (unhide HIN) ((unhide HX).2.2.2.1.keep o4 (fun j hj b hb => unhide nS H (fun b hb => .inl hb) j hj b hb)) (unhide HX).2.2.2.2.1 (unhide HKK) (unhide HOK).2.2.1 (unhide HOK).2.1 (unhide HOK).1 (Nat.le_trans (unhide HG3).2.2 zz) (unhide nS _ (unhide HEX w4))
  rw [unhide HR0, unhide HCS] at CR
  have CR := hide CR
  have hT := (unhide HX).1.keep o4 (unhide nP H (fun b hb => .inl hb))
  have HRB4 := hide ((unhide HX).2.1.keep o4 (unhide nG H (fun b hb => .inl hb)))
  have HO4 := hide o4
  have ok0 := MuOk.run ((unhide HOK).2.2.2.1.begin n) ((unhide HOK).2.2.2.2.begin n) (unhide HIN) (unhide HOK).1
  rw [unhide HR0] at ok0
  have HOK0 := hide ok0
  have hi0 : R0.1.inT (n : Int) = 0 := by rw [← unhide HR0, runQ_inT]; exact unhide HIN
  have HI0 := hide hi0
  clear t0 t1 t2 t3 t4 t5 t6 t7 t8 t9 t10 t11 tl a0 ql e0 kl CB ok0 hi0
  have t0 : w4.cell? ⟨P, 0, none⟩ = some (.int .i64 st.kind) := hT.cell 0
  have t1 : w4.cell? ⟨P, 1, none⟩ = some (.string st.table) := hT.cell 1
  have t2 : w4.cell? ⟨P, 2, none⟩ = some (.slice a2 n2 c2) := hT.cell 2
  have t3 : w4.cell? ⟨P, 3, none⟩ = some (.int .i64 st.pk) := hT.cell 3
  have t4 : w4.cell? ⟨P, 4, none⟩ = some (.slice a4 n4 c4) := hT.cell 4
  have t5 : w4.cell? ⟨P, 5, none⟩ = some (.slice a5 n5 c5) := hT.cell 5
  have t6 : w4.cell? ⟨P, 6, none⟩ = some (.bool st.star) := hT.cell 6
  have t7 : w4.cell? ⟨P, 7, none⟩ = some (.slice a7 n7 c7) := hT.cell 7
  have t8 : w4.cell? ⟨P, 8, none⟩ = some (.string st.order) := hT.cell 8
  have t9 : w4.cell? ⟨P, 9, none⟩ = some (.bool st.desc) := hT.cell 9
  have t10 : w4.cell? ⟨P, 10, none⟩ = some (.bool st.hasL) := hT.cell 10
  have t11 : w4.cell? ⟨P, 11, none⟩ = some (.int .i64 st.lim) := hT.cell 11
  have tl := hT.lt
  have e0 : w4.cell? ⟨k, 0, none⟩ = some (.pointer (some ⟨q, 0, none⟩)) := E4.has.cell 0
  have kl := E4.kl
  clear hT E4 hX4 o4 zz
  go_wp2_with fail
  refine (unhide CR).mono ?_
  rintro e w5 ⟨na, nn, nc, ra, rn, rc, H', B, rfl, d1, d2, d3, d4, d5⟩
  have HR5 := hide (And.intro d1 (And.intro d2 (And.intro d3 (And.intro (show ∀ b, H' b → H b ∨ w3.heap.size ≤ b from fun b hb => (d4 b hb).elim (fun c => unhide HEX w4 b c) (fun c => by have := (unhide HO4).size; exact .inr (by omega))) ((unhide HO4).trans d5 (fun b hl hb => (unhide HEX w4 b hb).elim id (fun c => by omega)))))))
  have HRBx := hide ((unhide HRB4).keep d5 (unhide nG _ (unhide HEX w4)))
  clear d1 d2 d3 d4 d5 CR e0 kl t0 t1 t2 t3 t4 t5 t6 t7 t8 t9 t10 t11 tl HRB4
  obtain ⟨ze, hze⟩ : ∃ z, R0.2.e = z := ⟨_, rfl⟩
  obtain ⟨zn, hzn⟩ : ∃ z, R0.2.n = z := ⟨_, rfl⟩
  rw [hze, hzn]
  have HZ := hide (And.intro hze hzn)
  clear hze hzn
  have o6 : Only (fun _ => False) w5 (w5.alloc (.cells #[.int .i64 ze, .int .i64 zn, .slice na nn nc, .slice ra rn rc] 52)) := (Only.refl _ _).alloc _
  have N6 := Has.new w5 #[.int .i64 ze, .int .i64 zn, .slice na nn nc, .slice ra rn rc] 52
  have HR6 := hide (show RsN B (w5.alloc (.cells #[.int .i64 ze, .int .i64 zn, .slice na nn nc, .slice ra rn rc] 52)) (.slice na nn nc) (.slice ra rn rc) R0.2 ∧ (∀ b, B b → w1.heap.size ≤ b ∧ b < w5.heap.size ∧ ¬ H' b) ∧ ME (w5.alloc (.cells #[.int .i64 ze, .int .i64 zn, .slice na nn nc, .slice ra rn rc] 52)) k q R0.1 H' ∧ (∀ b, H' b → H b ∨ w3.heap.size ≤ b) ∧ Only H w3 (w5.alloc (.cells #[.int .i64 ze, .int .i64 zn, .slice na nn nc, .slice ra rn rc] 52)) ∧ ¬ H' w5.heap.size ∧ w5.heap.size < (w5.alloc (.cells #[.int .i64 ze, .int .i64 zn, .slice na nn nc, .slice ra rn rc] 52)).heap.size from ⟨(unhide HR5).1.keep o6 (fun _ _ e => e), (unhide HR5).2.1, (unhide HR5).2.2.1.quiet o6, (unhide HR5).2.2.2.1, (unhide HR5).2.2.2.2.trans (o6.mono (fun _ _ e => e.elim)) (fun _ _ e => e), fun c => by have := (unhide HR5).2.2.1.mx.lt _ c; omega, N6.lt⟩)
  have HRB6 := hide ((unhide HRBx).keep o6 (fun e => e))
  have HN6 := hide N6
  have hGA : G < w5.heap.size := (unhide HRBx).lt
  clear o6 N6 HR5 HRBx
  go_upto_region 28 with fail
  generalize w5.alloc (.cells #[.int .i64 ze, .int .i64 zn, .slice na nn nc, .slice ra rn rc] 52) = w6 at *
  generalize w5.heap.size = A at *
  have y0 : w6.cell? ⟨A, 0, none⟩ = some (.int .i64 ze) := (unhide HN6).cell 0
  have y1 : w6.cell? ⟨A, 1, none⟩ = some (.int .i64 zn) := (unhide HN6).cell 1
  have y2 : w6.cell? ⟨A, 2, none⟩ = some (.slice na nn nc) := (unhide HN6).cell 2
  have y3 : w6.cell? ⟨A, 3, none⟩ = some (.slice ra rn rc) := (unhide HN6).cell 3
  have yl := (unhide HN6).lt
  have e0 : w6.cell? ⟨k, 0, none⟩ = some (.pointer (some ⟨q, 0, none⟩)) := (unhide HR6).2.2.1.has.cell 0
  have kl := (unhide HR6).2.2.1.kl
  have HST : Hid (∀ M' w7, MX w7 q M' (Ext H' w6 w7) → Only H' w6 w7 → RwQ w3 k q w1.heap.size H M' R0.2 (.slice na nn nc) (.slice ra rn rc) w7) := hide (fun M' w7 hX o => by
    obtain ⟨d1, d2, d3, d4, d5, d6, d7⟩ := unhide HR6
    have z5 := d5.size
    have z7 := o.size
    refine ⟨⟨_, B, d1.keep o (fun b hb => (d2 b hb).2.2), fun b hb => ⟨(d2 b hb).1, by have := (d2 b hb).2.1; omega, fun c => c.elim (d2 b hb).2.2 (fun c => by have := (d2 b hb).2.1; have := c.1; omega)⟩, d3.turn hX o (fun b hb => hb.imp id (fun c => c.1)), fun b hb => hb.elim (fun c => d4 b c) (fun c => .inr (by have := c.1; omega))⟩, d5.trans o (fun b hl hb => (d4 b hb).elim id (fun c => by omega))⟩)
  by_cases hz0 : ze = 0
  · have bz : (ze == 0) = true := by simp [hz0]
    have HZ0 := hide hz0
    clear hz0
    have hqr : RR.1 = R0.1.commit n ∧ RR.2 = R0.2 := by
      rw [unhide HQQ, if_pos (by rw [(unhide HZ).1]; exact unhide HZ0)]; exact ⟨rfl, rfl⟩
    have HQR := hide hqr
    clear hqr
    have CC := xmcommit_any (unhide HR6).2.2.1.mx (unhide HOK0) (n : Int)
    have CC : Calls Tryz.prog 186 #[.pointer (some ⟨q, 0, none⟩), .int .i64 (n : Int)] w6 fun e w' => e = .returned (.int .i64 0) ∧ MX w' q (R0.1.commit n) (Ext H' w6 w') ∧ Only H' w6 w' := CC.mono (by
      intro e w' h
      rcases h with ⟨rfl, hz, rfl⟩ | ⟨rfl, _, hX, o⟩
      · exact absurd (unhide HI0) hz
      · rw [(unhide HEN).1] at hX; exact ⟨rfl, hX, o⟩)
    have CC := hide CC
    go_wp2_with fail
    refine (unhide CC).mono ?_
    rintro e w7 ⟨rfl, hX7, o7⟩
    have HR7 := hide (unhide HST _ w7 hX7 o7)
    have hN7 := (unhide HN6).keep o7 (unhide HR6).2.2.2.2.2.1
    have RB7 := (unhide HRB6).keep o7 (unhide nG H' (unhide HR6).2.2.2.1)
    clear e0 kl y0 y1 y2 y3 yl hX7 o7 CC
    have y0 : w7.cell? ⟨A, 0, none⟩ = some (.int .i64 ze) := hN7.cell 0
    have y1 : w7.cell? ⟨A, 1, none⟩ = some (.int .i64 zn) := hN7.cell 1
    have y2 : w7.cell? ⟨A, 2, none⟩ = some (.slice na nn nc) := hN7.cell 2
    have y3 : w7.cell? ⟨A, 3, none⟩ = some (.slice ra rn rc) := hN7.cell 3
    have yl := hN7.lt
    have hne : G ≠ A := by omega
    have hne2 : A ≠ G := by omega
    clear hN7
    have r0 : w7.cell? ⟨G, 0, none⟩ = some (.int .i64 0) := RB7.cell 0
    have r1 : w7.cell? ⟨G, 1, none⟩ = some (.int .i64 0) := RB7.cell 1
    have r2 : w7.cell? ⟨G, 2, none⟩ = some (.slice none 0 0) := RB7.cell 2
    have r3 : w7.cell? ⟨G, 3, none⟩ = some (.slice none 0 0) := RB7.cell 3
    have rf0 := RB7.free 0
    have rf1 := RB7.free 1
    have rf2 := RB7.free 2
    have rf3 := RB7.free 3
    have rl := RB7.lt
    have H5 := has_setAll [.int .i64 ze, .int .i64 zn, .slice na nn nc, .slice ra rn rc] RB7 rfl
    have O5 := only_setW G [.int .i64 ze, .int .i64 zn, .slice na nn nc, .slice ra rn rc] 0 w7
    have FF := hide (And.intro H5 (show MnP w k q w.heap.size H RR (.returned (.agg #[.int .i64 ze, .int .i64 zn, .slice na nn nc, .slice ra rn rc])) (setW G [.int .i64 ze, .int .i64 zn, .slice na nn nc, .slice ra rn rc] 0 w7) from (by
        have h7 := unhide HR7
        rw [← (unhide HQR).1, ← (unhide HQR).2] at h7
        have h := RwQ.fin (R := RR) (unhide HE0) (unhide HX).2.2.2.2.2.1 h7 O5 (unhide HG0) (unhide HG3).2.1 (unhide HG3).1
        rw [(unhide HQR).2, (unhide HZ).1, (unhide HZ).2] at h
        exact h)))
    simp only [setW, Nat.zero_add, Nat.reduceAdd] at FF
    clear H5 O5
    clear RB7
    go_wp2_with fail
    refine bodyPost_ret (sres_result rfl _ rfl (unhide FF).1 rfl) rfl ?_
    have hff := (unhide FF).2
    rw [unhide HG0] at hff
    exact hff
  · have bz : (ze == 0) = false := by simp [hz0]
    have HZ0 := hide hz0
    clear hz0
    have hqr : RR.1 = R0.1.roll n ∧ RR.2 = R0.2 := by
      rw [unhide HQQ, if_neg (by rw [(unhide HZ).1]; exact unhide HZ0)]; exact ⟨rfl, rfl⟩
    have HQR := hide hqr
    clear hqr
    have CC := xmroll_any (unhide HR6).2.2.1.mx (n : Int)
    have CC : Calls Tryz.prog 187 #[.pointer (some ⟨q, 0, none⟩), .int .i64 (n : Int)] w6 fun e w' => e = .returned (.int .i64 0) ∧ MX w' q (R0.1.roll n) (Ext H' w6 w') ∧ Only H' w6 w' := CC.mono (by
      intro e w' h
      rcases h with ⟨rfl, hz, rfl⟩ | ⟨rfl, _, hX, o⟩
      · exact absurd (unhide HI0) hz
      · rw [(unhide HEN).1] at hX; exact ⟨rfl, hX, o⟩)
    have CC := hide CC
    go_wp2_with fail
    refine (unhide CC).mono ?_
    rintro e w7 ⟨rfl, hX7, o7⟩
    have HR7 := hide (unhide HST _ w7 hX7 o7)
    have hN7 := (unhide HN6).keep o7 (unhide HR6).2.2.2.2.2.1
    have RB7 := (unhide HRB6).keep o7 (unhide nG H' (unhide HR6).2.2.2.1)
    clear e0 kl y0 y1 y2 y3 yl hX7 o7 CC
    have y0 : w7.cell? ⟨A, 0, none⟩ = some (.int .i64 ze) := hN7.cell 0
    have y1 : w7.cell? ⟨A, 1, none⟩ = some (.int .i64 zn) := hN7.cell 1
    have y2 : w7.cell? ⟨A, 2, none⟩ = some (.slice na nn nc) := hN7.cell 2
    have y3 : w7.cell? ⟨A, 3, none⟩ = some (.slice ra rn rc) := hN7.cell 3
    have yl := hN7.lt
    have hne : G ≠ A := by omega
    have hne2 : A ≠ G := by omega
    clear hN7
    have r0 : w7.cell? ⟨G, 0, none⟩ = some (.int .i64 0) := RB7.cell 0
    have r1 : w7.cell? ⟨G, 1, none⟩ = some (.int .i64 0) := RB7.cell 1
    have r2 : w7.cell? ⟨G, 2, none⟩ = some (.slice none 0 0) := RB7.cell 2
    have r3 : w7.cell? ⟨G, 3, none⟩ = some (.slice none 0 0) := RB7.cell 3
    have rf0 := RB7.free 0
    have rf1 := RB7.free 1
    have rf2 := RB7.free 2
    have rf3 := RB7.free 3
    have rl := RB7.lt
    have H5 := has_setAll [.int .i64 ze, .int .i64 zn, .slice na nn nc, .slice ra rn rc] RB7 rfl
    have O5 := only_setW G [.int .i64 ze, .int .i64 zn, .slice na nn nc, .slice ra rn rc] 0 w7
    have FF := hide (And.intro H5 (show MnP w k q w.heap.size H RR (.returned (.agg #[.int .i64 ze, .int .i64 zn, .slice na nn nc, .slice ra rn rc])) (setW G [.int .i64 ze, .int .i64 zn, .slice na nn nc, .slice ra rn rc] 0 w7) from (by
        have h7 := unhide HR7
        rw [← (unhide HQR).1, ← (unhide HQR).2] at h7
        have h := RwQ.fin (R := RR) (unhide HE0) (unhide HX).2.2.2.2.2.1 h7 O5 (unhide HG0) (unhide HG3).2.1 (unhide HG3).1
        rw [(unhide HQR).2, (unhide HZ).1, (unhide HZ).2] at h
        exact h)))
    simp only [setW, Nat.zero_add, Nat.reduceAdd] at FF
    clear H5 O5
    clear RB7
    go_wp2_with fail
    refine bodyPost_ret (sres_result rfl _ rfl (unhide FF).1 rfl) rfl ?_
    have hff := (unhide FF).2
    rw [unhide HG0] at hff
    exact hff
/-- Exec of the model. -/
theorem smexec_any (E : ME w k q M H) (ok : MuOk M) (mq : MuQ M) : Calls Tryz.prog 128 #[.pointer (some ⟨k, 0, none⟩), .int .i64 s, .string t] w (MnP w k q w.heap.size H (exQ M s t)) := by
  by_cases hl : 256 < t.size
  · exact smexec_long E hl
  · by_cases hg : gdS s
    · cases hp : parB t with
      | false => exact smexec_syn E hl hg hp
      | true =>
        rcases parQ_kind hp with h | h | h | h
        · rcases h with h | h | h
          · exact smexec_begin E ok mq hl hg hp h
          · exact smexec_commit E ok mq hl hg hp h
          · exact smexec_roll E ok mq hl hg hp h
        · rcases h with h | h | h
          · exact smexec_create E ok mq hl hg hp h
          · exact smexec_drop E ok mq hl hg hp h
          · exact smexec_index E ok mq hl hg hp h.1 h.2
        · cases ha : M.act s.toNat with
          | true => exact smexec_in E ok mq hl hg hp (.inl h) ha
          | false => exact smexec_own E ok mq hl hg hp (.inl h) ha
        · cases ha : M.act s.toNat with
          | true => exact smexec_in E ok mq hl hg hp (.inr h) ha
          | false => exact smexec_own E ok mq hl hg hp (.inr h) ha
    · exact smexec_sess E hl hg
end
end Go.Proofs.Qxb6500412aGreat
