/-
  OWN WORK. QUERY: Exec: CREATE INDEX (written by tools/gen_s42.py).
-/
import Derived.Test.Qxb6500412aGreatS43
namespace Go.Proofs.Qxb6500412aGreat
open Go.RowKit Go.PlainAid
set_option linter.unusedSimpArgs false
set_option linter.unusedVariables false

section
variable {L : Prop} {q : Gnd} {w : World} {k g x : Nat} {M : Mu} {K : Nat → Prop} {last : Int} {s : Int} {t : ByteArray}
set_option maxRecDepth 100000 in
set_option maxHeartbeats 16000000 in
theorem sqexec_index (R : QR q w k g x M K last) (hL : M.alE s = 0 → L) (hrc : q.recs.length ≤ 300) (hl : ¬ 256 < t.size) (hg : gdS s) (hp : parB t = true) (hk : (parQ t).2.kind = 6) (hne : (parQ t).2.list ≠ []) : Calls Tryz.prog 53 #[.pointer (some ⟨k, 0, none⟩), .int .i64 s, .string t] w (ExP L q w k g x M K (exQ M s t) (plnQ M s t last)) := by
  have HNE := hide hne
  clear hne
  obtain ⟨st, hst⟩ : ∃ st, (parQ t).2 = st := ⟨_, rfl⟩
  have e1 : exQ M s t = stQ M s st := by unfold exQ; rw [if_neg hl, if_neg (fun c => c hg), hp, hst]; rfl
  have HOK := hide (show StOk st ∧ StB st from by rw [← hst]; exact ⟨parQ_ok t, parQ_b (by omega)⟩)
  have hpl : plnQ M s t last = (if st.kind = 8 ∨ st.kind = 9 ∨ st.kind = 10 then plnR M st last else last) := by unfold plnQ; rw [if_neg (fun c => c.elim hl (fun c => c.elim (fun c => c hg) (fun c => by rw [hp] at c; cases c))), hst]
  rw [hst] at hk
  obtain ⟨RR, hRR⟩ : ∃ r, stQ M s st = r := ⟨_, rfl⟩
  rw [e1, hRR, hpl]
  obtain ⟨pl, hpl2⟩ : ∃ p, (if st.kind = 8 ∨ st.kind = 9 ∨ st.kind = 10 then plnR M st last else last) = p := ⟨_, rfl⟩
  rw [hpl2]
  have HRR := hide hRR
  have HPL := hide hpl2
  have Hst := hide hst
  have o1 : Only (fun _ => False) w (w.alloc (.cells #[.int .i64 0, .int .i64 0, .slice none 0 0, .slice none 0 0] 52)) := (Only.refl _ w).alloc _
  have N1 := Has.new w #[.int .i64 0, .int .i64 0, .slice none 0 0, .slice none 0 0] 52
  have HR := hide R
  have HA := hide (show Has (w.alloc (.cells #[.int .i64 0, .int .i64 0, .slice none 0 0, .slice none 0 0] 52)) w.heap.size #[.int .i64 0, .int .i64 0, .slice none 0 0, .slice none 0 0] 52 ∧ Only (fun _ => False) w (w.alloc (.cells #[.int .i64 0, .int .i64 0, .slice none 0 0, .slice none 0 0] 52)) ∧ (w.alloc (.cells #[.int .i64 0, .int .i64 0, .slice none 0 0, .slice none 0 0] 52)).heap.size = w.heap.size + 1 from ⟨N1, o1, by simp⟩)
  have CG := xgood_any s (w.alloc (.cells #[.int .i64 0, .int .i64 0, .slice none 0 0, .slice none 0 0] 52))
  rw [decide_eq_true hg] at CG
  have CG := hide CG
  have b0 : ¬ ((t.size : Int) > 256) := by omega
  have CP := sqparse_any t (w.alloc (.cells #[.int .i64 0, .int .i64 0, .slice none 0 0, .slice none 0 0] 52))
  have Hp := hide hp
  have CP := hide CP
  have HG := hide hg
  have HKD := hide hk
  clear e1 hpl hpl2 hRR hst o1 N1 R hl hg hp hk
  go_enter Tryz.func53, Tryz.ntmps53
  go_upto_region 1 with fail
  generalize w.alloc (.cells #[.int .i64 0, .int .i64 0, .slice none 0 0, .slice none 0 0] 52) = w1 at *
  generalize hH : w.heap.size = H at *
  go_wp2_with fail
  refine (unhide CG).mono ?_
  rintro e w2 ⟨rfl, rfl⟩
  clear CG
  go_wp2_with fail
  refine (unhide CP).mono ?_
  rintro e w2 ⟨S, st', rfl, hL, hO, hse, o2⟩
  have hse := ((hse (unhide Hp)).trans (unhide Hst)).symm
  subst hse
  rw [unhide Hp]
  have hsz := (unhide HA).2.2
  have hS : StM q x k K w2 S st := ⟨⟨hL.own, hL.sep, fun j hj b hb => Nat.zero_le _⟩, hO, fun j hj b hb => (unhide HR).apn (by have := hL.new j hj b hb; omega)⟩
  have hls : ∀ j, sqj j → ∀ b, (S.cell j).ownBlock = some b → w.heap.size + 1 ≤ b := fun j hj b hb => by have := hL.new j hj b hb; omega
  obtain ⟨a2, c2, a4, c4, a6, c6, a7, c7, a8, c8, hcs, _⟩ := hS.cells_
  rw [hcs]
  have oP : Only (fun _ => False) w2 (w2.alloc (.cells #[.int .i64 st.kind, .string st.table, .slice a2 st.defs.length c2, .int .i64 st.pk, .slice a4 st.lits.length c4, .bool st.star, .slice a6 st.list.length c6, .slice a7 st.sets.length c7, .slice a8 st.wh.length c8, .string st.order, .bool st.desc, .bool st.hasL, .int .i64 st.lim] 173)) := (Only.refl _ _).alloc _
  have NP := Has.new w2 #[.int .i64 st.kind, .string st.table, .slice a2 st.defs.length c2, .int .i64 st.pk, .slice a4 st.lits.length c4, .bool st.star, .slice a6 st.list.length c6, .slice a7 st.sets.length c7, .slice a8 st.wh.length c8, .string st.order, .bool st.desc, .bool st.hasL, .int .i64 st.lim] 173
  have oA := ((unhide HA).2.1.trans o2 (fun _ _ e => e)).trans oP (fun _ _ e => e)
  have zz := o2.size
  have HX := hide (show Has (w2.alloc (.cells #[.int .i64 st.kind, .string st.table, .slice a2 st.defs.length c2, .int .i64 st.pk, .slice a4 st.lits.length c4, .bool st.star, .slice a6 st.list.length c6, .slice a7 st.sets.length c7, .slice a8 st.wh.length c8, .string st.order, .bool st.desc, .bool st.hasL, .int .i64 st.lim] 173)) w2.heap.size #[.int .i64 st.kind, .string st.table, .slice a2 st.defs.length c2, .int .i64 st.pk, .slice a4 st.lits.length c4, .bool st.star, .slice a6 st.list.length c6, .slice a7 st.sets.length c7, .slice a8 st.wh.length c8, .string st.order, .bool st.desc, .bool st.hasL, .int .i64 st.lim] 173 ∧ Has (w2.alloc (.cells #[.int .i64 st.kind, .string st.table, .slice a2 st.defs.length c2, .int .i64 st.pk, .slice a4 st.lits.length c4, .bool st.star, .slice a6 st.list.length c6, .slice a7 st.sets.length c7, .slice a8 st.wh.length c8, .string st.order, .bool st.desc, .bool st.hasL, .int .i64 st.lim] 173)) H #[.int .i64 0, .int .i64 0, .slice none 0 0, .slice none 0 0] 52 ∧ QR q (w2.alloc (.cells #[.int .i64 st.kind, .string st.table, .slice a2 st.defs.length c2, .int .i64 st.pk, .slice a4 st.lits.length c4, .bool st.star, .slice a6 st.list.length c6, .slice a7 st.sets.length c7, .slice a8 st.wh.length c8, .string st.order, .bool st.desc, .bool st.hasL, .int .i64 st.lim] 173)) k g x M K last ∧ StM q x k K (w2.alloc (.cells #[.int .i64 st.kind, .string st.table, .slice a2 st.defs.length c2, .int .i64 st.pk, .slice a4 st.lits.length c4, .bool st.star, .slice a6 st.list.length c6, .slice a7 st.sets.length c7, .slice a8 st.wh.length c8, .string st.order, .bool st.desc, .bool st.hasL, .int .i64 st.lim] 173)) S st ∧ Only (fun _ => False) w (w2.alloc (.cells #[.int .i64 st.kind, .string st.table, .slice a2 st.defs.length c2, .int .i64 st.pk, .slice a4 st.lits.length c4, .bool st.star, .slice a6 st.list.length c6, .slice a7 st.sets.length c7, .slice a8 st.wh.length c8, .string st.order, .bool st.desc, .bool st.hasL, .int .i64 st.lim] 173)) ∧ H < w2.heap.size from ⟨NP, ((unhide HA).1.keep o2 (fun e => e)).keep oP (fun e => e), (unhide HR).quiet oA, (hS.quiet oP), oA, by omega⟩)
  have HCS := hide (And.intro hcs hls)
  clear hL hO hS hls hcs oP NP oA zz o2 hsz CP HA
  go_upto_region 8 with fail
  generalize w2.alloc (.cells #[.int .i64 st.kind, .string st.table, .slice a2 st.defs.length c2, .int .i64 st.pk, .slice a4 st.lits.length c4, .bool st.star, .slice a6 st.list.length c6, .slice a7 st.sets.length c7, .slice a8 st.wh.length c8, .string st.order, .bool st.desc, .bool st.hasL, .int .i64 st.lim] 173) = w3 at *
  generalize w2.heap.size = P at *
  have t0 : w3.cell? ⟨P, 0, none⟩ = some (.int .i64 st.kind) := (unhide HX).1.cell 0
  have t1 : w3.cell? ⟨P, 1, none⟩ = some (.string st.table) := (unhide HX).1.cell 1
  have t2 : w3.cell? ⟨P, 2, none⟩ = some (.slice a2 st.defs.length c2) := (unhide HX).1.cell 2
  have t3 : w3.cell? ⟨P, 3, none⟩ = some (.int .i64 st.pk) := (unhide HX).1.cell 3
  have t4 : w3.cell? ⟨P, 4, none⟩ = some (.slice a4 st.lits.length c4) := (unhide HX).1.cell 4
  have t5 : w3.cell? ⟨P, 5, none⟩ = some (.bool st.star) := (unhide HX).1.cell 5
  have t6 : w3.cell? ⟨P, 6, none⟩ = some (.slice a6 st.list.length c6) := (unhide HX).1.cell 6
  have t7 : w3.cell? ⟨P, 7, none⟩ = some (.slice a7 st.sets.length c7) := (unhide HX).1.cell 7
  have t8 : w3.cell? ⟨P, 8, none⟩ = some (.slice a8 st.wh.length c8) := (unhide HX).1.cell 8
  have t9 : w3.cell? ⟨P, 9, none⟩ = some (.string st.order) := (unhide HX).1.cell 9
  have t10 : w3.cell? ⟨P, 10, none⟩ = some (.bool st.desc) := (unhide HX).1.cell 10
  have t11 : w3.cell? ⟨P, 11, none⟩ = some (.bool st.hasL) := (unhide HX).1.cell 11
  have t12 : w3.cell? ⟨P, 12, none⟩ = some (.int .i64 st.lim) := (unhide HX).1.cell 12
  have tl := (unhide HX).1.lt
  have e0 : w3.cell? ⟨k, 0, none⟩ = some (.pointer (some ⟨g, 0, none⟩)) := (unhide HX).2.2.1.has.cell 0
  have kl := (unhide HX).2.2.1.has.lt
  have hk := unhide HKD
  have b1 : (st.kind == 1) = false := by simp [hk]
  have b2 : (st.kind == 2) = false := by simp [hk]
  have b3 : (st.kind == 3) = false := by simp [hk]
  have b4 : (st.kind == 4) = false := by simp [hk]
  have b5 : (st.kind == 5) = false := by simp [hk]
  have b6 : (st.kind == 6) = true := by simp [hk]
  have hne := unhide HNE
  rw [unhide Hst] at hne
  obtain ⟨n0, ls, hls⟩ : ∃ a l, st.list = a :: l := by
    cases h : st.list with
    | nil => exact absurd h hne
    | cons a l => exact ⟨a, l, rfl⟩
  have HLS := hide (show st.list[0]? = some n0 by rw [hls]; rfl)
  have q0 : cixD M.com st.table (qcol (tabE M.com st.table).cols ((st.list)[0]?.getD ⟨#[]⟩)) = cixD M.com st.table (qcol (tabE M.com st.table).cols n0) := by rw [unhide HLS]; rfl
  have hq : schQ M s (cixD M.com st.table (qcol (tabE M.com st.table).cols n0)) = RR := by rw [← q0, ← unhide HRR]; unfold stQ; rw [if_neg (show ¬ st.kind = 1 by rw [hk]; decide)]; rw [if_neg (show ¬ st.kind = 2 by rw [hk]; decide)]; rw [if_neg (show ¬ st.kind = 3 by rw [hk]; decide)]; rw [if_neg (show ¬ st.kind = 4 by rw [hk]; decide)]; rw [if_neg (show ¬ st.kind = 5 by rw [hk]; decide)]; rw [if_pos hk]
  have hp2 : last = pl := by rw [← unhide HPL, if_neg (show ¬ (st.kind = 8 ∨ st.kind = 9 ∨ st.kind = 10) by rw [hk]; decide)]
  subst hp2
  have HLL := hide (show RR.2.cols = [] ∧ RR.2.rows = [] ∧ RR.2.n = 0 by rw [← hq]; exact schQ_l)
  have HQ := hide hq
  clear hq hk hne hls q0 HNE
  have CA1 := hide (rschemaQ_any ((unhide HX).2.2.1.quiet ((Only.refl (fun _ => False) w3).drew)).rx st.table)
  have CA2 := hide (rschemaQ_any ((unhide HX).2.2.1.quiet (((Only.refl (fun _ => False) w3).drew).alloc (.cells #[.string ⟨#[]⟩, .slice none 0 0, .int .i64 0, .int .i64 0] 79))).rx st.table)
  have haP : Apa q x k K P := (unhide HR).apn (by have := (unhide HX).2.2.2.2.2; omega)
  have HSB := hide (show ∀ W, Only q.S w3 W → (W.cell? ⟨k, 0, none⟩ = some (.pointer (some ⟨g, 0, none⟩)) ∧ W.cell? ⟨P, 1, none⟩ = some (.string st.table)) from fun W o => ⟨cell_keep e0 o (fun h => (unhide HX).2.2.1.off.1 (Gnd.S_A h)), cell_keep t1 o haP.S⟩)
  obtain ⟨sc, hsc⟩ : ∃ s, scqD M.com st.table = s := ⟨_, rfl⟩
  rw [hsc] at CA1 CA2
  have HSC := hide hsc
  clear hsc
  go_upto_region 25 with fail
  have hsb0 := unhide HSB w3 (Only.refl _ _)
  go_cut [14, 15] from 98 to 107 (fun kv ev wx => ScqP q k g x M K last st.table w3 kv ev wx)
  case first =>
    refine wp_region_held_drew (S := (fun w' => w'.cell? ⟨k, 0, none⟩ = some (.pointer (some ⟨g, 0, none⟩)) ∧ w'.cell? ⟨P, 1, none⟩ = some (.string st.table))) (by kernel_rfl) hsb0 (fun hH0 => ?_)
    refine takeH 0 99 (v := ?vr01) rfl rfl (by kernel_rfl) (by kernel_rfl) (by kernel_rfl) (fun _ _ _ h => h) (Or.inl ⟨by rfl, ?hr01⟩) hH0 ?rr01
    case hr01 => (intro w hSw; clear hSw; go_simp; (try with_reducible rfl))
    case rr01 =>
    try simp only [Act.put, List.setIfInBounds_toArray, List.set_cons_zero, List.set_cons_succ]
    refine takeH 1 100 (v := ?vr02) rfl rfl (by kernel_rfl) (by kernel_rfl) (by kernel_rfl) (fun _ _ _ h => h) (Or.inl ⟨by rfl, ?hr02⟩) hH0 ?rr02
    case hr02 => (intro w hSw; clear hSw; go_simp; (try with_reducible rfl))
    case rr02 =>
    try simp only [Act.put, List.setIfInBounds_toArray, List.set_cons_zero, List.set_cons_succ]
    refine takeH 2 101 (v := ?vr03) rfl rfl (by kernel_rfl) (by kernel_rfl) (by kernel_rfl) (fun _ _ _ h => h) (Or.inl ⟨by rfl, ?hr03⟩) hH0 ?rr03
    case hr03 => (intro w hSw; clear hSw; go_simp; (try with_reducible rfl))
    case rr03 =>
    try simp only [Act.put, List.setIfInBounds_toArray, List.set_cons_zero, List.set_cons_succ]
    refine takeH 3 102 (v := ?vr04) rfl rfl (by kernel_rfl) (by kernel_rfl) (by kernel_rfl) (fun _ _ _ h => h) (Or.inl ⟨by rfl, ?hr04⟩) hH0 ?rr04
    case hr04 => (intro w hSw; obtain ⟨s0, s1⟩ := hSw; go_simp; (try with_reducible rfl))
    case rr04 =>
    try simp only [Act.put, List.setIfInBounds_toArray, List.set_cons_zero, List.set_cons_succ]
    refine takeH 4 103 (v := ?vr05) rfl rfl (by kernel_rfl) (by kernel_rfl) (by kernel_rfl) (fun _ _ _ h => h) (Or.inl ⟨by rfl, ?hr05⟩) hH0 ?rr05
    case hr05 => (intro w hSw; clear hSw; go_simp; (try with_reducible rfl))
    case rr05 =>
    try simp only [Act.put, List.setIfInBounds_toArray, List.set_cons_zero, List.set_cons_succ]
    refine takeH 5 104 (v := ?vr06) rfl rfl (by kernel_rfl) (by kernel_rfl) (by kernel_rfl) (fun _ _ _ h => h) (Or.inl ⟨by rfl, ?hr06⟩) hH0 ?rr06
    case hr06 => (intro w hSw; obtain ⟨s0, s1⟩ := hSw; go_simp; (try with_reducible rfl))
    case rr06 =>
    try simp only [Act.put, List.setIfInBounds_toArray, List.set_cons_zero, List.set_cons_succ]
    refine pairWC 6 10 (by kernel_rfl) rfl rfl 105 14 rfl rfl rfl rfl 81 Tryz.func81 (by kernel_rfl) (by kernel_rfl) #[.tmp 102, .tmp 104] #[28, 9] rfl #[.pointer (some ⟨g, 0, none⟩), .string st.table] (by simp [Act.eval]) (R := fun v w' => RX q w' g x M K ∧ Only q.S w3.drew w' ∧ ∃ ca cn cc, v = .tuple #[.agg #[.string sc.nm, .slice ca cn cc, .int .i64 sc.pk, .int .i64 sc.ix], .int .i64 sc.z] ∧ OwnC w' (.slice ca cn cc) sc.cols ∧ Newer w3.drew (.slice ca cn cc) ∧ sc.cols.length ≤ 3) ((unhide CA1).mono (by rintro en w' ⟨r, o, ca, cn, cc, rfl, h1, h2, h3⟩; exact ⟨_, rfl, r, o, ca, cn, cc, rfl, h1, h2, h3⟩)) ?kA (v := .pointer (some ⟨w3.drew.heap.size, 0, none⟩)) (w1 := (w3.drew.alloc (.cells #[.string ⟨#[]⟩, .slice none 0 0, .int .i64 0, .int .i64 0] 79))) ?eB ?kB
    case eB => (go_simp; (try with_reducible rfl))
    case kA =>
      rintro _ w5 ⟨rX, o5, ca, cn, cc, rfl, hC5, hN5, hl5⟩
      have oW5 : Only q.S w3 w5 := (((Only.refl (fun _ => False) w3).drew).mono (fun _ _ e => e.elim)).trans o5 (fun _ _ e => e)
      have S5 := unhide HSB w5 oW5
      refine ⟨S5, ?_⟩
      try simp only [Act.put, List.setIfInBounds_toArray, List.set_cons_zero, List.set_cons_succ]
      refine takeH 7 98 (v := ?vrA1) rfl rfl (by kernel_rfl) (by kernel_rfl) (by kernel_rfl) (fun _ _ _ h => h) (Or.inl ⟨by rfl, ?hrA1⟩) S5 ?rrA1
      case hrA1 => (intro w hSw; clear hSw; go_simp; (try with_reducible rfl))
      case rrA1 =>
      try simp only [Act.put, List.setIfInBounds_toArray, List.set_cons_zero, List.set_cons_succ]
      refine takeH 8 106 (v := ?vrA2) rfl rfl (by kernel_rfl) (by kernel_rfl) (by kernel_rfl) (fun _ _ _ h => h) (Or.inl ⟨by rfl, ?hrA2⟩) S5 ?rrA2
      case hrA2 => (intro w hSw; clear hSw; go_simp; (try with_reducible rfl))
      case rrA2 =>
      try simp only [Act.put, List.setIfInBounds_toArray, List.set_cons_zero, List.set_cons_succ]
      refine takeH 9 107 (v := ?vrA3) rfl rfl (by kernel_rfl) (by kernel_rfl) (by kernel_rfl) (fun _ _ _ h => h) (Or.inl ⟨by rfl, ?hrA3⟩) S5 ?rrA3
      case hrA3 => (intro w hSw; clear hSw; go_simp; (try with_reducible rfl))
      case rrA3 =>
      try simp only [Act.put, List.setIfInBounds_toArray, List.set_cons_zero, List.set_cons_succ]
      refine soneH 10 (by kernel_rfl) rfl 14 rfl rfl (v := .pointer (some ⟨w5.heap.size, 0, none⟩)) (w1 := (w5.alloc (.cells #[.string ⟨#[]⟩, .slice none 0 0, .int .i64 0, .int .i64 0] 79))) ?eA ?kA2
      case eA => (go_simp; (try with_reducible rfl))
      case kA2 =>
      have oA5 : Only (fun _ => False) w5 (w5.alloc (.cells #[.string ⟨#[]⟩, .slice none 0 0, .int .i64 0, .int .i64 0] 79)) := (Only.refl _ _).alloc _
      have oW6 := oW5.trans (oA5.mono (fun _ _ e => e.elim)) (fun _ _ e => e)
      have S6 := unhide HSB _ oW6
      refine ⟨S6, ?_⟩
      try simp only [Act.put, List.setIfInBounds_toArray, List.set_cons_zero, List.set_cons_succ]
      have z5 := oW5.size
      have hC7 := hC5.keep oA5 (fun _ _ e => e)
      have nC : ∀ b, (Value.slice ca cn cc).ownBlock = some b → b = w5.heap.size → False := fun b hb e => by have := ownsRow_lt hC5 b hb; omega
      have Q7 : QR q (w5.alloc (.cells #[.string ⟨#[]⟩, .slice none 0 0, .int .i64 0, .int .i64 0] 79)) k g x M K last := ((unhide HX).2.2.1.turn rX oW5 (fun h => (unhide HX).2.2.1.off.1 (Gnd.S_A h)) (fun b hb => .inl hb)).quiet oA5
      have hdz : w3.drew.heap.size = w3.heap.size := rfl
      refine storeH_row 79 11 (by kernel_rfl) rfl rfl rfl _ _ rfl (w5.heap.size) #[.string sc.nm, .slice ca cn cc, .int .i64 sc.pk, .int .i64 sc.ix] #[.string ⟨#[]⟩, .slice none 0 0, .int .i64 0, .int .i64 0] rfl rfl (Has.new w5 #[.string ⟨#[]⟩, .slice none 0 0, .int .i64 0, .int .i64 0] 79) Tryz.sizeESch4 rfl (by kernel_rfl) ?_
      intro w7 hHas oS
      have o7 : Only q.S w3 w7 := (oW6).lateS oS (fun b (e : b = w5.heap.size) => by rw [e]; omega)
      have S7 := unhide HSB w7 o7
      have hfin : ScqP q k g x M K last st.table w3 (.pointer (some ⟨w5.heap.size, 0, none⟩)) (.int .i64 sc.z) w7 := by
        unfold ScqP
        rw [unhide HSC]
        refine ⟨w5.heap.size, ca, cn, cc, rfl, rfl, by omega, hHas, hC7.keep oS (fun b hb (e : b = w5.heap.size) => nC b hb e), fun b hb => by have := hN5 b hb; omega, Q7.keep oS (fun b hb (e : b = w5.heap.size) => ?_), o7⟩
        have hm := (unhide HX).2.2.1.lts
        rcases hb with c | c | c | c
        · have := hm.1 _ c; omega
        · have := hm.2.1; omega
        · have := hm.2.2.1 _ c; omega
        · have := hm.2.2.2; omega
      refine ⟨S7, ?_⟩
      try simp only [Act.put, List.setIfInBounds_toArray, List.set_cons_zero, List.set_cons_succ]
      refine takeH 12 15 (v := ?vrA4) rfl rfl (by kernel_rfl) (by kernel_rfl) (by kernel_rfl) (fun _ _ _ h => h) (Or.inl ⟨by rfl, ?hrA4⟩) S7 ?rrA4
      case hrA4 => (intro w hSw; clear hSw; go_simp; (try with_reducible rfl))
      case rrA4 =>
      try simp only [Act.put, List.setIfInBounds_toArray, List.set_cons_zero, List.set_cons_succ]
      refine wpAnyH_done (by kernel_rfl) ?_ _
      have HE := hide hfin
      clear hfin hHas oS o5 rX hC5 hN5 hl5 hsb0 e0 t0 t1 t2 t3 t4 t5 t6 t7 t8 t9 t10 t11 t12 tl kl CA1 CA2 haP
      go_wp2_with fail
      go_meet
      exact unhide HE
    case kB =>
      have oB : Only q.S w3 (w3.drew.alloc (.cells #[.string ⟨#[]⟩, .slice none 0 0, .int .i64 0, .int .i64 0] 79)) := (((Only.refl (fun _ => False) w3).drew.alloc (.cells #[.string ⟨#[]⟩, .slice none 0 0, .int .i64 0, .int .i64 0] 79)).mono (fun _ _ e => e.elim))
      have SB := unhide HSB _ oB
      refine ⟨SB, ?_⟩
      try simp only [Act.put, List.setIfInBounds_toArray, List.set_cons_zero, List.set_cons_succ]
      refine callH 6 (by kernel_rfl) rfl 105 rfl rfl 81 Tryz.func81 (by kernel_rfl) (by kernel_rfl) #[.tmp 102, .tmp 104] #[28, 9] rfl #[.pointer (some ⟨g, 0, none⟩), .string st.table] (by simp [Act.eval]) (R := fun v w' => RX q w' g x M K ∧ Only q.S (w3.drew.alloc (.cells #[.string ⟨#[]⟩, .slice none 0 0, .int .i64 0, .int .i64 0] 79)) w' ∧ ∃ ca cn cc, v = .tuple #[.agg #[.string sc.nm, .slice ca cn cc, .int .i64 sc.pk, .int .i64 sc.ix], .int .i64 sc.z] ∧ OwnC w' (.slice ca cn cc) sc.cols ∧ Newer (w3.drew.alloc (.cells #[.string ⟨#[]⟩, .slice none 0 0, .int .i64 0, .int .i64 0] 79)) (.slice ca cn cc) ∧ sc.cols.length ≤ 3) ((unhide CA2).mono (by rintro en w' ⟨r, o, ca, cn, cc, rfl, h1, h2, h3⟩; exact ⟨_, rfl, r, o, ca, cn, cc, rfl, h1, h2, h3⟩)) ?kB2
      case kB2 =>
      rintro _ w5 ⟨rX, o5, ca, cn, cc, rfl, hC5, hN5, hl5⟩
      have oW5 : Only q.S w3 w5 := oB.trans o5 (fun _ _ e => e)
      have S5 := unhide HSB w5 oW5
      refine ⟨S5, ?_⟩
      try simp only [Act.put, List.setIfInBounds_toArray, List.set_cons_zero, List.set_cons_succ]
      refine takeH 7 98 (v := ?vrB1) rfl rfl (by kernel_rfl) (by kernel_rfl) (by kernel_rfl) (fun _ _ _ h => h) (Or.inl ⟨by rfl, ?hrB1⟩) S5 ?rrB1
      case hrB1 => (intro w hSw; clear hSw; go_simp; (try with_reducible rfl))
      case rrB1 =>
      try simp only [Act.put, List.setIfInBounds_toArray, List.set_cons_zero, List.set_cons_succ]
      refine takeH 8 106 (v := ?vrB2) rfl rfl (by kernel_rfl) (by kernel_rfl) (by kernel_rfl) (fun _ _ _ h => h) (Or.inl ⟨by rfl, ?hrB2⟩) S5 ?rrB2
      case hrB2 => (intro w hSw; clear hSw; go_simp; (try with_reducible rfl))
      case rrB2 =>
      try simp only [Act.put, List.setIfInBounds_toArray, List.set_cons_zero, List.set_cons_succ]
      refine takeH 9 107 (v := ?vrB3) rfl rfl (by kernel_rfl) (by kernel_rfl) (by kernel_rfl) (fun _ _ _ h => h) (Or.inl ⟨by rfl, ?hrB3⟩) S5 ?rrB3
      case hrB3 => (intro w hSw; clear hSw; go_simp; (try with_reducible rfl))
      case rrB3 =>
      try simp only [Act.put, List.setIfInBounds_toArray, List.set_cons_zero, List.set_cons_succ]
      have hdz : w3.drew.heap.size = w3.heap.size := rfl
      have hBz : (w3.drew.alloc (.cells #[.string ⟨#[]⟩, .slice none 0 0, .int .i64 0, .int .i64 0] 79)).heap.size = w3.heap.size + 1 := by simp
      have hold : Has w5 w3.drew.heap.size #[.string ⟨#[]⟩, .slice none 0 0, .int .i64 0, .int .i64 0] 79 := (Has.new w3.drew #[.string ⟨#[]⟩, .slice none 0 0, .int .i64 0, .int .i64 0] 79).keep o5 (fun h => by have := (unhide HX).2.2.1.lts.1 _ (Gnd.S_A h); omega)
      have hC7 := hC5
      have nC : ∀ b, (Value.slice ca cn cc).ownBlock = some b → b = w3.drew.heap.size → False := fun b hb e => by have := hN5 b hb; omega
      have Q7 : QR q w5 k g x M K last := (unhide HX).2.2.1.turn rX oW5 (fun h => (unhide HX).2.2.1.off.1 (Gnd.S_A h)) (fun b hb => .inl hb)
      refine storeH_row 79 11 (by kernel_rfl) rfl rfl rfl _ _ rfl (w3.drew.heap.size) #[.string sc.nm, .slice ca cn cc, .int .i64 sc.pk, .int .i64 sc.ix] #[.string ⟨#[]⟩, .slice none 0 0, .int .i64 0, .int .i64 0] rfl rfl hold Tryz.sizeESch4 rfl (by kernel_rfl) ?_
      intro w7 hHas oS
      have o7 : Only q.S w3 w7 := (oW5).lateS oS (fun b (e : b = w3.drew.heap.size) => by rw [e]; omega)
      have S7 := unhide HSB w7 o7
      have hfin : ScqP q k g x M K last st.table w3 (.pointer (some ⟨w3.drew.heap.size, 0, none⟩)) (.int .i64 sc.z) w7 := by
        unfold ScqP
        rw [unhide HSC]
        refine ⟨w3.drew.heap.size, ca, cn, cc, rfl, rfl, by omega, hHas, hC7.keep oS (fun b hb (e : b = w3.drew.heap.size) => nC b hb e), fun b hb => by have := hN5 b hb; omega, Q7.keep oS (fun b hb (e : b = w3.drew.heap.size) => ?_), o7⟩
        have hm := (unhide HX).2.2.1.lts
        rcases hb with c | c | c | c
        · have := hm.1 _ c; omega
        · have := hm.2.1; omega
        · have := hm.2.2.1 _ c; omega
        · have := hm.2.2.2; omega
      refine ⟨S7, ?_⟩
      try simp only [Act.put, List.setIfInBounds_toArray, List.set_cons_zero, List.set_cons_succ]
      refine takeH 12 15 (v := ?vrB4) rfl rfl (by kernel_rfl) (by kernel_rfl) (by kernel_rfl) (fun _ _ _ h => h) (Or.inl ⟨by rfl, ?hrB4⟩) S7 ?rrB4
      case hrB4 => (intro w hSw; clear hSw; go_simp; (try with_reducible rfl))
      case rrB4 =>
      try simp only [Act.put, List.setIfInBounds_toArray, List.set_cons_zero, List.set_cons_succ]
      refine wpAnyH_done (by kernel_rfl) ?_ _
      have HE := hide hfin
      clear hfin hHas oS o5 rX hC5 hN5 hl5 hsb0 e0 t0 t1 t2 t3 t4 t5 t6 t7 t8 t9 t10 t11 t12 tl kl CA1 CA2 haP
      go_wp2_with fail
      go_meet
      exact unhide HE
  case rest =>
  obtain ⟨kb, ca, cn, cc, rfl, rfl, hkb, hHs, hOC, hCn, hQ4, oW⟩ := hcut
  rw [unhide HSC] at hHs hOC ⊢
  have hP3 := (unhide HX).1.lt
  have hPH := (unhide HX).2.2.2.2.2
  have PS4 := (unhide HX).1.keep oW haP.S
  have RB4 := (unhide HX).2.1.keep oW ((unhide HR).apn (b := H) (by omega)).S
  have SM4 := (unhide HX).2.2.2.1.keep oW (fun b _ ha => ha.S)
  have W4 : Only q.S w wc := ((unhide HX).2.2.2.2.1.mono (fun _ _ e => e.elim)).trans oW (fun _ _ e => e)
  have hcols : sc.cols = (tabE M.com st.table).cols := by
    rw [← unhide HSC]
    unfold scqD tabE
    cases findD M.com st.table <;> rfl
  have hc3 : sc.cols.length ≤ 3 := by
    rw [hcols]
    unfold tabE
    cases hf : findD M.com st.table with
    | none => show (0 : Nat) ≤ 3; omega
    | some u => exact ((unhide HX).2.2.1.rx.muQ.g.tb u (findD_mem hf).1).n3
  obtain ⟨b2', c2', b4', c4', b6', c6', b7', c7', b8', c8', hcs2, _, _, x6, _, _, _, _, p6, _⟩ := SM4.cells_
  have hcs3 := hcs2.symm.trans (unhide HCS).1
  have q6 : (Value.slice b6' st.list.length c6') = .slice a6 st.list.length c6 := by
    have := congrArg (fun a : Array Value => a[6]?) hcs3
    simpa using this
  rw [q6] at x6
  clear hcs2 hcs3 q6
  obtain ⟨g6, hg6, d0⟩ := strs_at x6 (unhide HLS)
  subst hg6
  have p6c : wc.cell? ⟨P, 6, none⟩ = some (.slice (some ⟨g6, 0, none⟩) st.list.length c6) := PS4.cell 6
  have hll2 : 0 < st.list.length := (List.getElem?_eq_some_iff.mp (unhide HLS)).1
  have hll : (0 : Int) < (st.list.length : Int) := by have := (List.getElem?_eq_some_iff.mp (unhide HLS)).1; omega
  have s0 : wc.cell? ⟨kb, 0, none⟩ = some (.string sc.nm) := hHs.cell 0
  have s1 : wc.cell? ⟨kb, 1, none⟩ = some (.slice ca cn cc) := hHs.cell 1
  have s2 : wc.cell? ⟨kb, 2, none⟩ = some (.int .i64 sc.pk) := hHs.cell 2
  have s3 : wc.cell? ⟨kb, 3, none⟩ = some (.int .i64 sc.ix) := hHs.cell 3
  have oD : Only (fun _ => False) wc wc.drew := (Only.refl _ wc).drew
  have C1 := sqcolOf_any (tn := sc.nm) (pk := sc.pk) (ix := sc.ix) (hOC.keep oD (fun _ _ e => e)) (by omega) n0
  unfold schU at C1
  obtain ⟨cx, hcx⟩ : ∃ z, qcol sc.cols n0 = z := ⟨_, rfl⟩
  rw [hcx] at C1
  have C1 := hide C1
  have HCX := hide (show qcol (tabE M.com st.table).cols n0 = cx by rw [← hcols]; exact hcx)
  have HW4 := hide (And.intro W4 (And.intro RB4 (And.intro hQ4 (PS4.keep ((Only.refl (fun _ => False) wc)) (fun e => e)))))
  clear hkb hHs hOC hCn hQ4 oW PS4 RB4 SM4 W4 hcols hc3 x6 p6 oD hcx hsb0 e0 t0 t1 t2 t3 t4 t5 t6 t7 t8 t9 t10 t11 t12 tl kl CA1 CA2 HSB HSC
  generalize wc = w4 at *
  go_upto_region 26 with fail
  refine wp_region_held_drew (S := (fun w' => w'.cell? ⟨kb, 0, none⟩ = some (.string sc.nm) ∧ w'.cell? ⟨kb, 1, none⟩ = some (.slice ca cn cc) ∧ w'.cell? ⟨kb, 2, none⟩ = some (.int .i64 sc.pk) ∧ w'.cell? ⟨kb, 3, none⟩ = some (.int .i64 sc.ix) ∧ w'.cell? ⟨P, 6, none⟩ = some (.slice (some ⟨g6, 0, none⟩) st.list.length c6) ∧ w'.cell? ⟨g6, 0, none⟩ = some (.string n0))) (by kernel_rfl) ⟨s0, s1, s2, s3, p6c, d0⟩ (fun hH0 => ?_)
  refine takeH 0 108 (v := ?vci1) rfl rfl (by kernel_rfl) (by kernel_rfl) (by kernel_rfl) (fun _ _ _ h => h) (Or.inl ⟨by rfl, ?hci1⟩) hH0 ?rci1
  case hci1 => (intro w hSw; obtain ⟨s0, s1, s2, s3, s4, s5⟩ := hSw; go_simp; (try with_reducible rfl))
  case rci1 =>
  try simp only [Act.put, List.setIfInBounds_toArray, List.set_cons_zero, List.set_cons_succ]
  refine takeH 1 109 (v := ?vci2) rfl rfl (by kernel_rfl) (by kernel_rfl) (by kernel_rfl) (fun _ _ _ h => h) (Or.inl ⟨by rfl, ?hci2⟩) hH0 ?rci2
  case hci2 => (intro w hSw; clear hSw; go_simp; (try with_reducible rfl))
  case rci2 =>
  try simp only [Act.put, List.setIfInBounds_toArray, List.set_cons_zero, List.set_cons_succ]
  refine takeH 2 110 (v := ?vci3) rfl rfl (by kernel_rfl) (by kernel_rfl) (by kernel_rfl) (fun _ _ _ h => h) (Or.inl ⟨by rfl, ?hci3⟩) hH0 ?rci3
  case hci3 => (intro w hSw; obtain ⟨s0, s1, s2, s3, s4, s5⟩ := hSw; go_simp; (try with_reducible rfl))
  case rci3 =>
  try simp only [Act.put, List.setIfInBounds_toArray, List.set_cons_zero, List.set_cons_succ]
  refine takeH 3 111 (v := ?vci4) rfl rfl (by kernel_rfl) (by kernel_rfl) (by kernel_rfl) (fun _ _ _ h => h) (Or.inl ⟨by rfl, ?hci4⟩) hH0 ?rci4
  case hci4 => (intro w hSw; clear hSw; go_simp; (try with_reducible rfl))
  case rci4 =>
  try simp only [Act.put, List.setIfInBounds_toArray, List.set_cons_zero, List.set_cons_succ]
  refine takeH 4 112 (v := ?vci5) rfl rfl (by kernel_rfl) (by kernel_rfl) (by kernel_rfl) (fun _ _ _ h => h) (Or.inl ⟨by rfl, ?hci5⟩) hH0 ?rci5
  case hci5 => (intro w hSw; obtain ⟨s0, s1, s2, s3, s4, s5⟩ := hSw; go_simp; (try with_reducible rfl))
  case rci5 =>
  try simp only [Act.put, List.setIfInBounds_toArray, List.set_cons_zero, List.set_cons_succ]
  refine callH 5 (by kernel_rfl) rfl 113 rfl rfl 111 Tryz.func111 (by kernel_rfl) (by kernel_rfl) #[.tmp 108, .tmp 112] #[79, 9] rfl #[.agg #[.string sc.nm, .slice ca cn cc, .int .i64 sc.pk, .int .i64 sc.ix], .string n0] (by simp [Act.eval]) (R := fun v w' => v = .int .i64 cx ∧ Only (fun _ => False) w4.drew w') ((unhide C1).mono (by rintro en w' ⟨rfl, o⟩; exact ⟨_, rfl, rfl, o⟩)) ?kci
  case kci =>
  rintro _ w6 ⟨rfl, o6⟩
  have S6 : w6.cell? ⟨kb, 0, none⟩ = some (.string sc.nm) ∧ w6.cell? ⟨kb, 1, none⟩ = some (.slice ca cn cc) ∧ w6.cell? ⟨kb, 2, none⟩ = some (.int .i64 sc.pk) ∧ w6.cell? ⟨kb, 3, none⟩ = some (.int .i64 sc.ix) ∧ w6.cell? ⟨P, 6, none⟩ = some (.slice (some ⟨g6, 0, none⟩) st.list.length c6) ∧ w6.cell? ⟨g6, 0, none⟩ = some (.string n0) := ⟨o6.cellS hH0.1, o6.cellS hH0.2.1, o6.cellS hH0.2.2.1, o6.cellS hH0.2.2.2.1, o6.cellS hH0.2.2.2.2.1, o6.cellS hH0.2.2.2.2.2⟩
  refine ⟨S6, ?_⟩
  try simp only [Act.put, List.setIfInBounds_toArray, List.set_cons_zero, List.set_cons_succ]
  refine takeH 6 16 (v := ?vci6) rfl rfl (by kernel_rfl) (by kernel_rfl) (by kernel_rfl) (fun _ _ _ h => h) (Or.inl ⟨by rfl, ?hci6⟩) S6 ?rci6
  case hci6 => (intro w hSw; clear hSw; go_simp; (try with_reducible rfl))
  case rci6 =>
  try simp only [Act.put, List.setIfInBounds_toArray, List.set_cons_zero, List.set_cons_succ]
  refine wpAnyH_done (by kernel_rfl) ?_ _
  have oD : Only (fun _ => False) w4 w6 := (Only.refl _ w4).drew.trans o6 (fun _ _ e => e)
  have HF := hide oD
  clear hH0 S6 o6 oD
  have HW5 := hide (show Only q.S w w6 ∧ Has w6 H #[.int .i64 0, .int .i64 0, .slice none 0 0, .slice none 0 0] 52 ∧ QR q w6 k g x M K last ∧ Has w6 P #[.int .i64 st.kind, .string st.table, .slice a2 st.defs.length c2, .int .i64 st.pk, .slice a4 st.lits.length c4, .bool st.star, .slice (some ⟨g6, 0, none⟩) st.list.length c6, .slice a7 st.sets.length c7, .slice a8 st.wh.length c8, .string st.order, .bool st.desc, .bool st.hasL, .int .i64 st.lim] 173 from ⟨(unhide HW4).1.trans ((unhide HF).mono (fun _ _ e => e.elim)) (fun _ _ e => e), (unhide HW4).2.1.keep (unhide HF) (fun e => e), (unhide HW4).2.2.1.quiet (unhide HF), (unhide HW4).2.2.2.keep (unhide HF) (fun e => e)⟩)
  clear HF C1 HW4 s0 s1 s2 s3 p6c d0 hll hll2
  generalize w6 = w8 at *
  have e0 : w8.cell? ⟨k, 0, none⟩ = some (.pointer (some ⟨g, 0, none⟩)) := (unhide HW5).2.2.1.has.cell 0
  have t1 : w8.cell? ⟨P, 1, none⟩ = some (.string st.table) := (unhide HW5).2.2.2.cell 1
  have oD8 : Only (fun _ => False) w8 w8.drew := (Only.refl _ w8).drew
  have Q8 := (unhide HW5).2.2.1.quiet oD8
  have CB := (rcreateI_any Q8.rx hrc s st.table cx).mono (fun e w' h => sch_bc (s := s) hL h)
  have hq := unhide HQ
  rw [unhide HCX] at hq
  rw [hq] at CB
  have CB := hide (bc_wrap CB)
  have nk := hide (show ¬ (q.A k ∨ K k) from fun c => c.elim Q8.off.1 Q8.off.2.2)
  have nP := hide (show ¬ (q.A P ∨ K P) from fun c => c.elim haP.1 haP.2.2.1)
  clear hq oD8 Q8
  go_upto_region 27 with fail
  refine wp_region_held_drew (S := (fun w' => w'.cell? ⟨k, 0, none⟩ = some (.pointer (some ⟨g, 0, none⟩)) ∧ w'.cell? ⟨P, 1, none⟩ = some (.string st.table))) (by kernel_rfl) ⟨e0, t1⟩ (fun hH0 => ?_)
  refine takeH 0 114 (v := ?vcj1) rfl rfl (by kernel_rfl) (by kernel_rfl) (by kernel_rfl) (fun _ _ _ h => h) (Or.inl ⟨by rfl, ?hcj1⟩) hH0 ?rcj1
  case hcj1 => (intro w hSw; clear hSw; go_simp; (try with_reducible rfl))
  case rcj1 =>
  try simp only [Act.put, List.setIfInBounds_toArray, List.set_cons_zero, List.set_cons_succ]
  refine takeH 1 115 (v := ?vcj2) rfl rfl (by kernel_rfl) (by kernel_rfl) (by kernel_rfl) (fun _ _ _ h => h) (Or.inl ⟨by rfl, ?hcj2⟩) hH0 ?rcj2
  case hcj2 => (intro w hSw; clear hSw; go_simp; (try with_reducible rfl))
  case rcj2 =>
  try simp only [Act.put, List.setIfInBounds_toArray, List.set_cons_zero, List.set_cons_succ]
  refine takeH 2 116 (v := ?vcj3) rfl rfl (by kernel_rfl) (by kernel_rfl) (by kernel_rfl) (fun _ _ _ h => h) (Or.inl ⟨by rfl, ?hcj3⟩) hH0 ?rcj3
  case hcj3 => (intro w hSw; clear hSw; go_simp; (try with_reducible rfl))
  case rcj3 =>
  try simp only [Act.put, List.setIfInBounds_toArray, List.set_cons_zero, List.set_cons_succ]
  refine takeH 3 117 (v := ?vcj4) rfl rfl (by kernel_rfl) (by kernel_rfl) (by kernel_rfl) (fun _ _ _ h => h) (Or.inl ⟨by rfl, ?hcj4⟩) hH0 ?rcj4
  case hcj4 => (intro w hSw; obtain ⟨s0, s1⟩ := hSw; go_simp; (try with_reducible rfl))
  case rcj4 =>
  try simp only [Act.put, List.setIfInBounds_toArray, List.set_cons_zero, List.set_cons_succ]
  refine takeH 4 118 (v := ?vcj5) rfl rfl (by kernel_rfl) (by kernel_rfl) (by kernel_rfl) (fun _ _ _ h => h) (Or.inl ⟨by rfl, ?hcj5⟩) hH0 ?rcj5
  case hcj5 => (intro w hSw; clear hSw; go_simp; (try with_reducible rfl))
  case rcj5 =>
  try simp only [Act.put, List.setIfInBounds_toArray, List.set_cons_zero, List.set_cons_succ]
  refine takeH 5 119 (v := ?vcj6) rfl rfl (by kernel_rfl) (by kernel_rfl) (by kernel_rfl) (fun _ _ _ h => h) (Or.inl ⟨by rfl, ?hcj6⟩) hH0 ?rcj6
  case hcj6 => (intro w hSw; clear hSw; go_simp; (try with_reducible rfl))
  case rcj6 =>
  try simp only [Act.put, List.setIfInBounds_toArray, List.set_cons_zero, List.set_cons_succ]
  refine takeH 6 120 (v := ?vcj7) rfl rfl (by kernel_rfl) (by kernel_rfl) (by kernel_rfl) (fun _ _ _ h => h) (Or.inl ⟨by rfl, ?hcj7⟩) hH0 ?rcj7
  case hcj7 => (intro w hSw; obtain ⟨s0, s1⟩ := hSw; go_simp; (try with_reducible rfl))
  case rcj7 =>
  try simp only [Act.put, List.setIfInBounds_toArray, List.set_cons_zero, List.set_cons_succ]
  refine takeH 7 121 (v := ?vcj8) rfl rfl (by kernel_rfl) (by kernel_rfl) (by kernel_rfl) (fun _ _ _ h => h) (Or.inl ⟨by rfl, ?hcj8⟩) hH0 ?rcj8
  case hcj8 => (intro w hSw; clear hSw; go_simp; (try with_reducible rfl))
  case rcj8 =>
  try simp only [Act.put, List.setIfInBounds_toArray, List.set_cons_zero, List.set_cons_succ]
  refine callH 8 (by kernel_rfl) rfl 122 rfl rfl 112 Tryz.func112 (by kernel_rfl) (by kernel_rfl) #[.tmp 117, .tmp 118, .tmp 120, .tmp 121] #[28, 3, 9, 3] rfl #[.pointer (some ⟨g, 0, none⟩), .int .i64 s, .string st.table, .int .i64 cx] (by simp [Act.eval]) (R := fun v w' => v = .int .i64 RR.2.e ∧ BcP L q w8.drew g x M K RR (.returned v) w' ∧ Only (fun b => q.A b ∨ K b) w8.drew w') (unhide CB) ?kcj
  case kcj =>
  rintro _ w6 ⟨rfl, hb, o6⟩
  have S6 : w6.cell? ⟨k, 0, none⟩ = some (.pointer (some ⟨g, 0, none⟩)) ∧ w6.cell? ⟨P, 1, none⟩ = some (.string st.table) := ⟨cell_keep (hH0.1) o6 (unhide nk), cell_keep (hH0.2) o6 (unhide nP)⟩
  refine ⟨S6, ?_⟩
  try simp only [Act.put, List.setIfInBounds_toArray, List.set_cons_zero, List.set_cons_succ]
  refine takeH 9 17 (v := ?vcj9) rfl rfl (by kernel_rfl) (by kernel_rfl) (by kernel_rfl) (fun _ _ _ h => h) (Or.inl ⟨by rfl, ?hcj9⟩) S6 ?rcj9
  case hcj9 => (intro w hSw; clear hSw; go_simp; (try with_reducible rfl))
  case rcj9 =>
  try simp only [Act.put, List.setIfInBounds_toArray, List.set_cons_zero, List.set_cons_succ]
  refine wpAnyH_done (by kernel_rfl) ?_ _
  have oD : Only (fun b => q.A b ∨ K b) w8 w6 := (Only.refl (fun b => q.A b ∨ K b) w8).drew.trans o6 (fun _ _ e => e)
  clear hH0 S6
  generalize w6 = w5 at *
  have RBc := (unhide HW5).2.1.keep ((Only.refl (fun _ => False) w8).drew) (fun e => e)
  have hen := hb.en ((unhide HW5).2.2.1.quiet ((Only.refl (fun _ => False) w8).drew))
  have RB5 : Has w5 H #[.int .i64 0, .int .i64 0, .slice none 0 0, .slice none 0 0] 52 := by
    obtain ⟨q', K', hQ, hK, hA, hc⟩ := hen
    have ha : Apa q x k K H := (unhide HR).apn (by omega)
    rcases hc with ⟨_, _, o⟩ | ⟨_, _, _, _, _, _, _, _, o⟩
    · exact (RBc).keep o ha.SK
    · exact (RBc).keep o (fun c => c.elim ha.1 ha.2.2.1)
  have HEN := hide hen
  have HRB5 := hide RB5
  clear hen RB5
  clear CB RBc o6 oD hb e0 t1
  have CF := hide (sqfailE_any RR.2.e w5)
  go_wp2_with fail
  refine (unhide CF).mono ?_
  rintro e w7 ⟨rfl, o7⟩
  have RB7 := (unhide HRB5).keep o7 (fun e => e)
  have HO7 := hide o7
  have r0 : w7.cell? ⟨H, 0, none⟩ = some (.int .i64 0) := RB7.cell 0
  have r1 : w7.cell? ⟨H, 1, none⟩ = some (.int .i64 0) := RB7.cell 1
  have r2 : w7.cell? ⟨H, 2, none⟩ = some (.slice none 0 0) := RB7.cell 2
  have r3 : w7.cell? ⟨H, 3, none⟩ = some (.slice none 0 0) := RB7.cell 3
  have rf0 := RB7.free 0
  have rf1 := RB7.free 1
  have rf2 := RB7.free 2
  have rf3 := RB7.free 3
  have rl := RB7.lt
  have H5 := has_setAll [.int .i64 RR.2.e, .int .i64 0, .slice none 0 0, .slice none 0 0] RB7 rfl
  have O5 := only_setW H [.int .i64 RR.2.e, .int .i64 0, .slice none 0 0, .slice none 0 0] 0 w7
  have FF := hide (And.intro H5 (show ExP L q w k g x M K RR last (.returned (.agg #[.int .i64 RR.2.e, .int .i64 0, .slice none 0 0, .slice none 0 0])) (setW H [.int .i64 RR.2.e, .int .i64 0, .slice none 0 0, .slice none 0 0] 0 w7) from (by
    exact EnP.ex (unhide HEN) ((unhide HW5).1.trans (((Only.refl (fun _ => False) w8).drew).mono (fun _ _ e => e.elim)) (fun _ _ e => e)) (unhide HR) (by omega) (by have := (unhide HW5).2.1.lt; exact this) (((unhide HO7).mono (fun _ _ e => e.elim)).trans O5 (fun _ _ e => e)) (unhide HLL))))
  simp only [setW, Nat.zero_add, Nat.reduceAdd] at FF
  clear H5 O5
  clear CF o7 RB7
  go_wp2_with fail
  refine bodyPost_ret (sres_result rfl _ rfl (unhide FF).1 rfl) rfl ?_
  exact (unhide FF).2
end
end Go.Proofs.Qxb6500412aGreat
