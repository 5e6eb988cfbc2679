/-
  OWN WORK. QUERY: Exec: CREATE TABLE, DROP TABLE (written by tools/gen_s42.py).
-/
import Derived.Test.Qxb6500412aGreatS42
namespace Go.Proofs.Qxb6500412aGreat
open Go.RowKit Go.PlainAid
set_option linter.unusedSimpArgs false
set_option linter.unusedVariables false

section
variable {L : Prop} {q : Gnd} {w : World} {k g x : Nat} {M : Mu} {K : Nat → Prop} {last : Int} {s : Int} {t : ByteArray}
theorem bc_wrap {f : Nat} {vals : Array Value} {w0 : World} {RR : Mu × Rs} (h : Calls Tryz.prog f vals w0 (BcP L q w0 g x M K RR)) : Calls Tryz.prog f vals w0 (fun e w' => ∃ v, e = .returned v ∧ v = .int .i64 RR.2.e ∧ BcP L q w0 g x M K RR (.returned v) w' ∧ Only (fun b => q.A b ∨ K b) w0 w') :=
  h.mono (by
    intro e w' hb
    have hb2 := hb
    obtain ⟨rfl, hc⟩ := hb
    refine ⟨_, rfl, rfl, hb2, ?_⟩
    rcases hc with ⟨⟨_, _, _, o⟩, _⟩ | ⟨_, _, _, _, _, _, _, _, _, _, o⟩
    · exact o.mono (fun b _ h => h.imp Gnd.S_A id)
    · exact o)
set_option maxRecDepth 100000 in
set_option maxHeartbeats 16000000 in
theorem sqexec_create (R : QR q w k g x M K last) (hL : M.alE s = 0 → L) (hrc : q.recs.length ≤ 300) (hl : ¬ 256 < t.size) (hg : gdS s) (hp : parB t = true) (hk : (parQ t).2.kind = 4) : Calls Tryz.prog 53 #[.pointer (some ⟨k, 0, none⟩), .int .i64 s, .string t] w (ExP L q w k g x M K (exQ M s t) (plnQ M s t last)) := by
  obtain ⟨st, hst⟩ : ∃ st, (parQ t).2 = st := ⟨_, rfl⟩
  have e1 : exQ M s t = stQ M s st := by unfold exQ; rw [if_neg hl, if_neg (fun c => c hg), hp, hst]; rfl
  have HOK := hide (show StOk st ∧ StB st from by rw [← hst]; exact ⟨parQ_ok t, parQ_b (by omega)⟩)
  have hpl : plnQ M s t last = (if st.kind = 8 ∨ st.kind = 9 ∨ st.kind = 10 then plnR M st last else last) := by unfold plnQ; rw [if_neg (fun c => c.elim hl (fun c => c.elim (fun c => c hg) (fun c => by rw [hp] at c; cases c))), hst]
  rw [hst] at hk
  obtain ⟨RR, hRR⟩ : ∃ r, stQ M s st = r := ⟨_, rfl⟩
  rw [e1, hRR, hpl]
  obtain ⟨pl, hpl2⟩ : ∃ p, (if st.kind = 8 ∨ st.kind = 9 ∨ st.kind = 10 then plnR M st last else last) = p := ⟨_, rfl⟩
  rw [hpl2]
  have HRR := hide hRR
  have HPL := hide hpl2
  have Hst := hide hst
  have o1 : Only (fun _ => False) w (w.alloc (.cells #[.int .i64 0, .int .i64 0, .slice none 0 0, .slice none 0 0] 52)) := (Only.refl _ w).alloc _
  have N1 := Has.new w #[.int .i64 0, .int .i64 0, .slice none 0 0, .slice none 0 0] 52
  have HR := hide R
  have HA := hide (show Has (w.alloc (.cells #[.int .i64 0, .int .i64 0, .slice none 0 0, .slice none 0 0] 52)) w.heap.size #[.int .i64 0, .int .i64 0, .slice none 0 0, .slice none 0 0] 52 ∧ Only (fun _ => False) w (w.alloc (.cells #[.int .i64 0, .int .i64 0, .slice none 0 0, .slice none 0 0] 52)) ∧ (w.alloc (.cells #[.int .i64 0, .int .i64 0, .slice none 0 0, .slice none 0 0] 52)).heap.size = w.heap.size + 1 from ⟨N1, o1, by simp⟩)
  have CG := xgood_any s (w.alloc (.cells #[.int .i64 0, .int .i64 0, .slice none 0 0, .slice none 0 0] 52))
  rw [decide_eq_true hg] at CG
  have CG := hide CG
  have b0 : ¬ ((t.size : Int) > 256) := by omega
  have CP := sqparse_any t (w.alloc (.cells #[.int .i64 0, .int .i64 0, .slice none 0 0, .slice none 0 0] 52))
  have Hp := hide hp
  have CP := hide CP
  have HG := hide hg
  have HKD := hide hk
  clear e1 hpl hpl2 hRR hst o1 N1 R hl hg hp hk
  go_enter Tryz.func53, Tryz.ntmps53
  go_upto_region 1 with fail
  generalize w.alloc (.cells #[.int .i64 0, .int .i64 0, .slice none 0 0, .slice none 0 0] 52) = w1 at *
  generalize hH : w.heap.size = H at *
  go_wp2_with fail
  refine (unhide CG).mono ?_
  rintro e w2 ⟨rfl, rfl⟩
  clear CG
  go_wp2_with fail
  refine (unhide CP).mono ?_
  rintro e w2 ⟨S, st', rfl, hL, hO, hse, o2⟩
  have hse := ((hse (unhide Hp)).trans (unhide Hst)).symm
  subst hse
  rw [unhide Hp]
  have hsz := (unhide HA).2.2
  have hS : StM q x k K w2 S st := ⟨⟨hL.own, hL.sep, fun j hj b hb => Nat.zero_le _⟩, hO, fun j hj b hb => (unhide HR).apn (by have := hL.new j hj b hb; omega)⟩
  have hls : ∀ j, sqj j → ∀ b, (S.cell j).ownBlock = some b → w.heap.size + 1 ≤ b := fun j hj b hb => by have := hL.new j hj b hb; omega
  obtain ⟨a2, c2, a4, c4, a6, c6, a7, c7, a8, c8, hcs, _⟩ := hS.cells_
  rw [hcs]
  have oP : Only (fun _ => False) w2 (w2.alloc (.cells #[.int .i64 st.kind, .string st.table, .slice a2 st.defs.length c2, .int .i64 st.pk, .slice a4 st.lits.length c4, .bool st.star, .slice a6 st.list.length c6, .slice a7 st.sets.length c7, .slice a8 st.wh.length c8, .string st.order, .bool st.desc, .bool st.hasL, .int .i64 st.lim] 173)) := (Only.refl _ _).alloc _
  have NP := Has.new w2 #[.int .i64 st.kind, .string st.table, .slice a2 st.defs.length c2, .int .i64 st.pk, .slice a4 st.lits.length c4, .bool st.star, .slice a6 st.list.length c6, .slice a7 st.sets.length c7, .slice a8 st.wh.length c8, .string st.order, .bool st.desc, .bool st.hasL, .int .i64 st.lim] 173
  have oA := ((unhide HA).2.1.trans o2 (fun _ _ e => e)).trans oP (fun _ _ e => e)
  have zz := o2.size
  have HX := hide (show Has (w2.alloc (.cells #[.int .i64 st.kind, .string st.table, .slice a2 st.defs.length c2, .int .i64 st.pk, .slice a4 st.lits.length c4, .bool st.star, .slice a6 st.list.length c6, .slice a7 st.sets.length c7, .slice a8 st.wh.length c8, .string st.order, .bool st.desc, .bool st.hasL, .int .i64 st.lim] 173)) w2.heap.size #[.int .i64 st.kind, .string st.table, .slice a2 st.defs.length c2, .int .i64 st.pk, .slice a4 st.lits.length c4, .bool st.star, .slice a6 st.list.length c6, .slice a7 st.sets.length c7, .slice a8 st.wh.length c8, .string st.order, .bool st.desc, .bool st.hasL, .int .i64 st.lim] 173 ∧ Has (w2.alloc (.cells #[.int .i64 st.kind, .string st.table, .slice a2 st.defs.length c2, .int .i64 st.pk, .slice a4 st.lits.length c4, .bool st.star, .slice a6 st.list.length c6, .slice a7 st.sets.length c7, .slice a8 st.wh.length c8, .string st.order, .bool st.desc, .bool st.hasL, .int .i64 st.lim] 173)) H #[.int .i64 0, .int .i64 0, .slice none 0 0, .slice none 0 0] 52 ∧ QR q (w2.alloc (.cells #[.int .i64 st.kind, .string st.table, .slice a2 st.defs.length c2, .int .i64 st.pk, .slice a4 st.lits.length c4, .bool st.star, .slice a6 st.list.length c6, .slice a7 st.sets.length c7, .slice a8 st.wh.length c8, .string st.order, .bool st.desc, .bool st.hasL, .int .i64 st.lim] 173)) k g x M K last ∧ StM q x k K (w2.alloc (.cells #[.int .i64 st.kind, .string st.table, .slice a2 st.defs.length c2, .int .i64 st.pk, .slice a4 st.lits.length c4, .bool st.star, .slice a6 st.list.length c6, .slice a7 st.sets.length c7, .slice a8 st.wh.length c8, .string st.order, .bool st.desc, .bool st.hasL, .int .i64 st.lim] 173)) S st ∧ Only (fun _ => False) w (w2.alloc (.cells #[.int .i64 st.kind, .string st.table, .slice a2 st.defs.length c2, .int .i64 st.pk, .slice a4 st.lits.length c4, .bool st.star, .slice a6 st.list.length c6, .slice a7 st.sets.length c7, .slice a8 st.wh.length c8, .string st.order, .bool st.desc, .bool st.hasL, .int .i64 st.lim] 173)) ∧ H < w2.heap.size from ⟨NP, ((unhide HA).1.keep o2 (fun e => e)).keep oP (fun e => e), (unhide HR).quiet oA, (hS.quiet oP), oA, by omega⟩)
  have HCS := hide (And.intro hcs hls)
  clear hL hO hS hls hcs oP NP oA zz o2 hsz CP HA
  go_upto_region 8 with fail
  generalize w2.alloc (.cells #[.int .i64 st.kind, .string st.table, .slice a2 st.defs.length c2, .int .i64 st.pk, .slice a4 st.lits.length c4, .bool st.star, .slice a6 st.list.length c6, .slice a7 st.sets.length c7, .slice a8 st.wh.length c8, .string st.order, .bool st.desc, .bool st.hasL, .int .i64 st.lim] 173) = w3 at *
  generalize w2.heap.size = P at *
  have t0 : w3.cell? ⟨P, 0, none⟩ = some (.int .i64 st.kind) := (unhide HX).1.cell 0
  have t1 : w3.cell? ⟨P, 1, none⟩ = some (.string st.table) := (unhide HX).1.cell 1
  have t2 : w3.cell? ⟨P, 2, none⟩ = some (.slice a2 st.defs.length c2) := (unhide HX).1.cell 2
  have t3 : w3.cell? ⟨P, 3, none⟩ = some (.int .i64 st.pk) := (unhide HX).1.cell 3
  have t4 : w3.cell? ⟨P, 4, none⟩ = some (.slice a4 st.lits.length c4) := (unhide HX).1.cell 4
  have t5 : w3.cell? ⟨P, 5, none⟩ = some (.bool st.star) := (unhide HX).1.cell 5
  have t6 : w3.cell? ⟨P, 6, none⟩ = some (.slice a6 st.list.length c6) := (unhide HX).1.cell 6
  have t7 : w3.cell? ⟨P, 7, none⟩ = some (.slice a7 st.sets.length c7) := (unhide HX).1.cell 7
  have t8 : w3.cell? ⟨P, 8, none⟩ = some (.slice a8 st.wh.length c8) := (unhide HX).1.cell 8
  have t9 : w3.cell? ⟨P, 9, none⟩ = some (.string st.order) := (unhide HX).1.cell 9
  have t10 : w3.cell? ⟨P, 10, none⟩ = some (.bool st.desc) := (unhide HX).1.cell 10
  have t11 : w3.cell? ⟨P, 11, none⟩ = some (.bool st.hasL) := (unhide HX).1.cell 11
  have t12 : w3.cell? ⟨P, 12, none⟩ = some (.int .i64 st.lim) := (unhide HX).1.cell 12
  have tl := (unhide HX).1.lt
  have e0 : w3.cell? ⟨k, 0, none⟩ = some (.pointer (some ⟨g, 0, none⟩)) := (unhide HX).2.2.1.has.cell 0
  have kl := (unhide HX).2.2.1.has.lt
  have hk := unhide HKD
  have b1 : (st.kind == 1) = false := by simp [hk]
  have b2 : (st.kind == 2) = false := by simp [hk]
  have b3 : (st.kind == 3) = false := by simp [hk]
  have b4 : (st.kind == 4) = true := by simp [hk]
  have b5 : (st.kind == 5) = false := by simp [hk]
  have b6 : (st.kind == 6) = false := by simp [hk]
  obtain ⟨b2', c2', b4', c4', b6', c6', b7', c7', b8', c8', hcs2, x2, _, _, _, _, p2, _⟩ := (unhide HX).2.2.2.1.cells_
  have hcs3 := hcs2.symm.trans (unhide HCS).1
  have q2 : (Value.slice b2' st.defs.length c2') = .slice a2 st.defs.length c2 := by
    have := congrArg (fun a : Array Value => a[2]?) hcs3
    simpa using this
  rw [q2] at x2 p2
  have oD4 : Only (fun _ => False) w3 w3.drew := (Only.refl _ w3).drew
  have Qd := (unhide HX).2.2.1.quiet oD4
  have hq : schQ M s (crtD M.com st.table st.defs st.pk) = RR := by rw [← unhide HRR]; unfold stQ; rw [if_neg (show ¬ st.kind = 1 by rw [hk]; decide)]; rw [if_neg (show ¬ st.kind = 2 by rw [hk]; decide)]; rw [if_neg (show ¬ st.kind = 3 by rw [hk]; decide)]; rw [if_pos hk]
  have hp2 : last = pl := by rw [← unhide HPL, if_neg (show ¬ (st.kind = 8 ∨ st.kind = 9 ∨ st.kind = 10) by rw [hk]; decide)]
  subst hp2
  have CB := (rcreateT_any Qd.rx hrc s st.table (x2.keep oD4 (fun _ _ e => e)) (fun b hb => (p2 b hb).S) (unhide HOK).2.defs st.pk).mono (fun e w' h => sch_bc (s := s) hL h)
  have HLL := hide (show RR.2.cols = [] ∧ RR.2.rows = [] ∧ RR.2.n = 0 by rw [← hq]; exact schQ_l)
  rw [hq] at CB
  have nk := hide (show ¬ (q.A k ∨ K k) from fun c => c.elim (unhide HX).2.2.1.off.1 (unhide HX).2.2.1.off.2.2)
  have nP := hide (show ¬ (q.A P ∨ K P) from fun c => by have ha := (unhide HR).apn (b := P) (by have := (unhide HX).2.2.2.2.2; omega); exact c.elim ha.1 ha.2.2.1)
  have CB : Calls Tryz.prog 109 #[.pointer (some ⟨g, 0, none⟩), .int .i64 s, .string st.table, .slice a2 st.defs.length c2, .int .i64 st.pk] w3.drew (fun e w' => ∃ v, e = .returned v ∧ v = .int .i64 RR.2.e ∧ BcP L q w3.drew g x M K RR (.returned v) w' ∧ Only (fun b => q.A b ∨ K b) w3.drew w') := bc_wrap CB
  have CB := hide CB
  clear hq hk hcs2 hcs3 q2 x2 p2 oD4 Qd
  go_upto_region 19 with fail
  refine wp_region_held_drew (S := (fun w' => w'.cell? ⟨k, 0, none⟩ = some (.pointer (some ⟨g, 0, none⟩)) ∧ w'.cell? ⟨P, 1, none⟩ = some (.string st.table) ∧ w'.cell? ⟨P, 2, none⟩ = some (.slice a2 st.defs.length c2) ∧ w'.cell? ⟨P, 3, none⟩ = some (.int .i64 st.pk))) (by kernel_rfl) ⟨e0, t1, t2, t3⟩ (fun hH0 => ?_)
  refine takeH 0 70 (v := ?vk41) rfl rfl (by kernel_rfl) (by kernel_rfl) (by kernel_rfl) (fun _ _ _ h => h) (Or.inl ⟨by rfl, ?hk41⟩) hH0 ?rk41
  case hk41 => (intro w hSw; clear hSw; go_simp; (try with_reducible rfl))
  case rk41 =>
  try simp only [Act.put, List.setIfInBounds_toArray, List.set_cons_zero, List.set_cons_succ]
  refine takeH 1 71 (v := ?vk42) rfl rfl (by kernel_rfl) (by kernel_rfl) (by kernel_rfl) (fun _ _ _ h => h) (Or.inl ⟨by rfl, ?hk42⟩) hH0 ?rk42
  case hk42 => (intro w hSw; clear hSw; go_simp; (try with_reducible rfl))
  case rk42 =>
  try simp only [Act.put, List.setIfInBounds_toArray, List.set_cons_zero, List.set_cons_succ]
  refine takeH 2 72 (v := ?vk43) rfl rfl (by kernel_rfl) (by kernel_rfl) (by kernel_rfl) (fun _ _ _ h => h) (Or.inl ⟨by rfl, ?hk43⟩) hH0 ?rk43
  case hk43 => (intro w hSw; clear hSw; go_simp; (try with_reducible rfl))
  case rk43 =>
  try simp only [Act.put, List.setIfInBounds_toArray, List.set_cons_zero, List.set_cons_succ]
  refine takeH 3 73 (v := ?vk44) rfl rfl (by kernel_rfl) (by kernel_rfl) (by kernel_rfl) (fun _ _ _ h => h) (Or.inl ⟨by rfl, ?hk44⟩) hH0 ?rk44
  case hk44 => (intro w hSw; obtain ⟨s0, s1, s2, s3⟩ := hSw; go_simp; (try with_reducible rfl))
  case rk44 =>
  try simp only [Act.put, List.setIfInBounds_toArray, List.set_cons_zero, List.set_cons_succ]
  refine takeH 4 74 (v := ?vk45) rfl rfl (by kernel_rfl) (by kernel_rfl) (by kernel_rfl) (fun _ _ _ h => h) (Or.inl ⟨by rfl, ?hk45⟩) hH0 ?rk45
  case hk45 => (intro w hSw; clear hSw; go_simp; (try with_reducible rfl))
  case rk45 =>
  try simp only [Act.put, List.setIfInBounds_toArray, List.set_cons_zero, List.set_cons_succ]
  refine takeH 5 75 (v := ?vk46) rfl rfl (by kernel_rfl) (by kernel_rfl) (by kernel_rfl) (fun _ _ _ h => h) (Or.inl ⟨by rfl, ?hk46⟩) hH0 ?rk46
  case hk46 => (intro w hSw; clear hSw; go_simp; (try with_reducible rfl))
  case rk46 =>
  try simp only [Act.put, List.setIfInBounds_toArray, List.set_cons_zero, List.set_cons_succ]
  refine takeH 6 76 (v := ?vk47) rfl rfl (by kernel_rfl) (by kernel_rfl) (by kernel_rfl) (fun _ _ _ h => h) (Or.inl ⟨by rfl, ?hk47⟩) hH0 ?rk47
  case hk47 => (intro w hSw; obtain ⟨s0, s1, s2, s3⟩ := hSw; go_simp; (try with_reducible rfl))
  case rk47 =>
  try simp only [Act.put, List.setIfInBounds_toArray, List.set_cons_zero, List.set_cons_succ]
  refine takeH 7 77 (v := ?vk48) rfl rfl (by kernel_rfl) (by kernel_rfl) (by kernel_rfl) (fun _ _ _ h => h) (Or.inl ⟨by rfl, ?hk48⟩) hH0 ?rk48
  case hk48 => (intro w hSw; clear hSw; go_simp; (try with_reducible rfl))
  case rk48 =>
  try simp only [Act.put, List.setIfInBounds_toArray, List.set_cons_zero, List.set_cons_succ]
  refine takeH 8 78 (v := ?vk49) rfl rfl (by kernel_rfl) (by kernel_rfl) (by kernel_rfl) (fun _ _ _ h => h) (Or.inl ⟨by rfl, ?hk49⟩) hH0 ?rk49
  case hk49 => (intro w hSw; obtain ⟨s0, s1, s2, s3⟩ := hSw; go_simp; (try with_reducible rfl))
  case rk49 =>
  try simp only [Act.put, List.setIfInBounds_toArray, List.set_cons_zero, List.set_cons_succ]
  refine takeH 9 79 (v := ?vk410) rfl rfl (by kernel_rfl) (by kernel_rfl) (by kernel_rfl) (fun _ _ _ h => h) (Or.inl ⟨by rfl, ?hk410⟩) hH0 ?rk410
  case hk410 => (intro w hSw; clear hSw; go_simp; (try with_reducible rfl))
  case rk410 =>
  try simp only [Act.put, List.setIfInBounds_toArray, List.set_cons_zero, List.set_cons_succ]
  refine takeH 10 80 (v := ?vk411) rfl rfl (by kernel_rfl) (by kernel_rfl) (by kernel_rfl) (fun _ _ _ h => h) (Or.inl ⟨by rfl, ?hk411⟩) hH0 ?rk411
  case hk411 => (intro w hSw; obtain ⟨s0, s1, s2, s3⟩ := hSw; go_simp; (try with_reducible rfl))
  case rk411 =>
  try simp only [Act.put, List.setIfInBounds_toArray, List.set_cons_zero, List.set_cons_succ]
  refine callH 11 (by kernel_rfl) rfl 81 rfl rfl 109 Tryz.func109 (by kernel_rfl) (by kernel_rfl) #[.tmp 73, .tmp 74, .tmp 76, .tmp 78, .tmp 80] #[28, 3, 9, 77, 3] rfl #[.pointer (some ⟨g, 0, none⟩), .int .i64 s, .string st.table, .slice a2 st.defs.length c2, .int .i64 st.pk] (by simp [Act.eval]) (R := fun v w' => v = .int .i64 RR.2.e ∧ BcP L q w3.drew g x M K RR (.returned v) w' ∧ Only (fun b => q.A b ∨ K b) w3.drew w') (unhide CB) ?kk4
  case kk4 =>
  rintro _ w6 ⟨rfl, hb, o6⟩
  have S6 : w6.cell? ⟨k, 0, none⟩ = some (.pointer (some ⟨g, 0, none⟩)) ∧ w6.cell? ⟨P, 1, none⟩ = some (.string st.table) ∧ w6.cell? ⟨P, 2, none⟩ = some (.slice a2 st.defs.length c2) ∧ w6.cell? ⟨P, 3, none⟩ = some (.int .i64 st.pk) := ⟨cell_keep (hH0.1) o6 (unhide nk), cell_keep (hH0.2.1) o6 (unhide nP), cell_keep (hH0.2.2.1) o6 (unhide nP), cell_keep (hH0.2.2.2) o6 (unhide nP)⟩
  refine ⟨S6, ?_⟩
  try simp only [Act.put, List.setIfInBounds_toArray, List.set_cons_zero, List.set_cons_succ]
  refine takeH 12 12 (v := ?vk412) rfl rfl (by kernel_rfl) (by kernel_rfl) (by kernel_rfl) (fun _ _ _ h => h) (Or.inl ⟨by rfl, ?hk412⟩) S6 ?rk412
  case hk412 => (intro w hSw; clear hSw; go_simp; (try with_reducible rfl))
  case rk412 =>
  try simp only [Act.put, List.setIfInBounds_toArray, List.set_cons_zero, List.set_cons_succ]
  refine wpAnyH_done (by kernel_rfl) ?_ _
  have oD : Only (fun b => q.A b ∨ K b) w3 w6 := (Only.refl (fun b => q.A b ∨ K b) w3).drew.trans o6 (fun _ _ e => e)
  clear hH0 S6
  generalize w6 = w5 at *
  have RBc := (unhide HX).2.1.keep ((Only.refl (fun _ => False) w3).drew) (fun e => e)
  have hen := hb.en ((unhide HX).2.2.1.quiet ((Only.refl (fun _ => False) w3).drew))
  have RB5 : Has w5 H #[.int .i64 0, .int .i64 0, .slice none 0 0, .slice none 0 0] 52 := by
    obtain ⟨q', K', hQ, hK, hA, hc⟩ := hen
    have ha : Apa q x k K H := (unhide HR).apn (by omega)
    rcases hc with ⟨_, _, o⟩ | ⟨_, _, _, _, _, _, _, _, o⟩
    · exact (RBc).keep o ha.SK
    · exact (RBc).keep o (fun c => c.elim ha.1 ha.2.2.1)
  have HEN := hide hen
  have HRB5 := hide RB5
  clear hen RB5
  clear CB RBc o6 oD hb t0 t1 t2 t3 t4 t5 t6 t7 t8 t9 t10 t11 t12 tl e0 kl
  have CF := hide (sqfailE_any RR.2.e w5)
  go_wp2_with fail
  refine (unhide CF).mono ?_
  rintro e w7 ⟨rfl, o7⟩
  have RB7 := (unhide HRB5).keep o7 (fun e => e)
  have HO7 := hide o7
  have r0 : w7.cell? ⟨H, 0, none⟩ = some (.int .i64 0) := RB7.cell 0
  have r1 : w7.cell? ⟨H, 1, none⟩ = some (.int .i64 0) := RB7.cell 1
  have r2 : w7.cell? ⟨H, 2, none⟩ = some (.slice none 0 0) := RB7.cell 2
  have r3 : w7.cell? ⟨H, 3, none⟩ = some (.slice none 0 0) := RB7.cell 3
  have rf0 := RB7.free 0
  have rf1 := RB7.free 1
  have rf2 := RB7.free 2
  have rf3 := RB7.free 3
  have rl := RB7.lt
  have H5 := has_setAll [.int .i64 RR.2.e, .int .i64 0, .slice none 0 0, .slice none 0 0] RB7 rfl
  have O5 := only_setW H [.int .i64 RR.2.e, .int .i64 0, .slice none 0 0, .slice none 0 0] 0 w7
  have FF := hide (And.intro H5 (show ExP L q w k g x M K RR last (.returned (.agg #[.int .i64 RR.2.e, .int .i64 0, .slice none 0 0, .slice none 0 0])) (setW H [.int .i64 RR.2.e, .int .i64 0, .slice none 0 0, .slice none 0 0] 0 w7) from (by
    exact EnP.ex (unhide HEN) (((unhide HX).2.2.2.2.1.trans ((Only.refl (fun _ => False) w3).drew) (fun _ _ e => e)).mono (fun _ _ e => e.elim)) (unhide HR) (by omega) (by have := (unhide HX).2.1.lt; exact this) (((unhide HO7).mono (fun _ _ e => e.elim)).trans O5 (fun _ _ e => e)) (unhide HLL))))
  simp only [setW, Nat.zero_add, Nat.reduceAdd] at FF
  clear H5 O5
  clear CF o7 RB7
  go_wp2_with fail
  refine bodyPost_ret (sres_result rfl _ rfl (unhide FF).1 rfl) rfl ?_
  exact (unhide FF).2
set_option maxRecDepth 100000 in
set_option maxHeartbeats 16000000 in
theorem sqexec_drop (R : QR q w k g x M K last) (hL : M.alE s = 0 → L) (hrc : q.recs.length ≤ 300) (hl : ¬ 256 < t.size) (hg : gdS s) (hp : parB t = true) (hk : (parQ t).2.kind = 5) : Calls Tryz.prog 53 #[.pointer (some ⟨k, 0, none⟩), .int .i64 s, .string t] w (ExP L q w k g x M K (exQ M s t) (plnQ M s t last)) := by
  obtain ⟨st, hst⟩ : ∃ st, (parQ t).2 = st := ⟨_, rfl⟩
  have e1 : exQ M s t = stQ M s st := by unfold exQ; rw [if_neg hl, if_neg (fun c => c hg), hp, hst]; rfl
  have HOK := hide (show StOk st ∧ StB st from by rw [← hst]; exact ⟨parQ_ok t, parQ_b (by omega)⟩)
  have hpl : plnQ M s t last = (if st.kind = 8 ∨ st.kind = 9 ∨ st.kind = 10 then plnR M st last else last) := by unfold plnQ; rw [if_neg (fun c => c.elim hl (fun c => c.elim (fun c => c hg) (fun c => by rw [hp] at c; cases c))), hst]
  rw [hst] at hk
  obtain ⟨RR, hRR⟩ : ∃ r, stQ M s st = r := ⟨_, rfl⟩
  rw [e1, hRR, hpl]
  obtain ⟨pl, hpl2⟩ : ∃ p, (if st.kind = 8 ∨ st.kind = 9 ∨ st.kind = 10 then plnR M st last else last) = p := ⟨_, rfl⟩
  rw [hpl2]
  have HRR := hide hRR
  have HPL := hide hpl2
  have Hst := hide hst
  have o1 : Only (fun _ => False) w (w.alloc (.cells #[.int .i64 0, .int .i64 0, .slice none 0 0, .slice none 0 0] 52)) := (Only.refl _ w).alloc _
  have N1 := Has.new w #[.int .i64 0, .int .i64 0, .slice none 0 0, .slice none 0 0] 52
  have HR := hide R
  have HA := hide (show Has (w.alloc (.cells #[.int .i64 0, .int .i64 0, .slice none 0 0, .slice none 0 0] 52)) w.heap.size #[.int .i64 0, .int .i64 0, .slice none 0 0, .slice none 0 0] 52 ∧ Only (fun _ => False) w (w.alloc (.cells #[.int .i64 0, .int .i64 0, .slice none 0 0, .slice none 0 0] 52)) ∧ (w.alloc (.cells #[.int .i64 0, .int .i64 0, .slice none 0 0, .slice none 0 0] 52)).heap.size = w.heap.size + 1 from ⟨N1, o1, by simp⟩)
  have CG := xgood_any s (w.alloc (.cells #[.int .i64 0, .int .i64 0, .slice none 0 0, .slice none 0 0] 52))
  rw [decide_eq_true hg] at CG
  have CG := hide CG
  have b0 : ¬ ((t.size : Int) > 256) := by omega
  have CP := sqparse_any t (w.alloc (.cells #[.int .i64 0, .int .i64 0, .slice none 0 0, .slice none 0 0] 52))
  have Hp := hide hp
  have CP := hide CP
  have HG := hide hg
  have HKD := hide hk
  clear e1 hpl hpl2 hRR hst o1 N1 R hl hg hp hk
  go_enter Tryz.func53, Tryz.ntmps53
  go_upto_region 1 with fail
  generalize w.alloc (.cells #[.int .i64 0, .int .i64 0, .slice none 0 0, .slice none 0 0] 52) = w1 at *
  generalize hH : w.heap.size = H at *
  go_wp2_with fail
  refine (unhide CG).mono ?_
  rintro e w2 ⟨rfl, rfl⟩
  clear CG
  go_wp2_with fail
  refine (unhide CP).mono ?_
  rintro e w2 ⟨S, st', rfl, hL, hO, hse, o2⟩
  have hse := ((hse (unhide Hp)).trans (unhide Hst)).symm
  subst hse
  rw [unhide Hp]
  have hsz := (unhide HA).2.2
  have hS : StM q x k K w2 S st := ⟨⟨hL.own, hL.sep, fun j hj b hb => Nat.zero_le _⟩, hO, fun j hj b hb => (unhide HR).apn (by have := hL.new j hj b hb; omega)⟩
  have hls : ∀ j, sqj j → ∀ b, (S.cell j).ownBlock = some b → w.heap.size + 1 ≤ b := fun j hj b hb => by have := hL.new j hj b hb; omega
  obtain ⟨a2, c2, a4, c4, a6, c6, a7, c7, a8, c8, hcs, _⟩ := hS.cells_
  rw [hcs]
  have oP : Only (fun _ => False) w2 (w2.alloc (.cells #[.int .i64 st.kind, .string st.table, .slice a2 st.defs.length c2, .int .i64 st.pk, .slice a4 st.lits.length c4, .bool st.star, .slice a6 st.list.length c6, .slice a7 st.sets.length c7, .slice a8 st.wh.length c8, .string st.order, .bool st.desc, .bool st.hasL, .int .i64 st.lim] 173)) := (Only.refl _ _).alloc _
  have NP := Has.new w2 #[.int .i64 st.kind, .string st.table, .slice a2 st.defs.length c2, .int .i64 st.pk, .slice a4 st.lits.length c4, .bool st.star, .slice a6 st.list.length c6, .slice a7 st.sets.length c7, .slice a8 st.wh.length c8, .string st.order, .bool st.desc, .bool st.hasL, .int .i64 st.lim] 173
  have oA := ((unhide HA).2.1.trans o2 (fun _ _ e => e)).trans oP (fun _ _ e => e)
  have zz := o2.size
  have HX := hide (show Has (w2.alloc (.cells #[.int .i64 st.kind, .string st.table, .slice a2 st.defs.length c2, .int .i64 st.pk, .slice a4 st.lits.length c4, .bool st.star, .slice a6 st.list.length c6, .slice a7 st.sets.length c7, .slice a8 st.wh.length c8, .string st.order, .bool st.desc, .bool st.hasL, .int .i64 st.lim] 173)) w2.heap.size #[.int .i64 st.kind, .string st.table, .slice a2 st.defs.length c2, .int .i64 st.pk, .slice a4 st.lits.length c4, .bool st.star, .slice a6 st.list.length c6, .slice a7 st.sets.length c7, .slice a8 st.wh.length c8, .string st.order, .bool st.desc, .bool st.hasL, .int .i64 st.lim] 173 ∧ Has (w2.alloc (.cells #[.int .i64 st.kind, .string st.table, .slice a2 st.defs.length c2, .int .i64 st.pk, .slice a4 st.lits.length c4, .bool st.star, .slice a6 st.list.length c6, .slice a7 st.sets.length c7, .slice a8 st.wh.length c8, .string st.order, .bool st.desc, .bool st.hasL, .int .i64 st.lim] 173)) H #[.int .i64 0, .int .i64 0, .slice none 0 0, .slice none 0 0] 52 ∧ QR q (w2.alloc (.cells #[.int .i64 st.kind, .string st.table, .slice a2 st.defs.length c2, .int .i64 st.pk, .slice a4 st.lits.length c4, .bool st.star, .slice a6 st.list.length c6, .slice a7 st.sets.length c7, .slice a8 st.wh.length c8, .string st.order, .bool st.desc, .bool st.hasL, .int .i64 st.lim] 173)) k g x M K last ∧ StM q x k K (w2.alloc (.cells #[.int .i64 st.kind, .string st.table, .slice a2 st.defs.length c2, .int .i64 st.pk, .slice a4 st.lits.length c4, .bool st.star, .slice a6 st.list.length c6, .slice a7 st.sets.length c7, .slice a8 st.wh.length c8, .string st.order, .bool st.desc, .bool st.hasL, .int .i64 st.lim] 173)) S st ∧ Only (fun _ => False) w (w2.alloc (.cells #[.int .i64 st.kind, .string st.table, .slice a2 st.defs.length c2, .int .i64 st.pk, .slice a4 st.lits.length c4, .bool st.star, .slice a6 st.list.length c6, .slice a7 st.sets.length c7, .slice a8 st.wh.length c8, .string st.order, .bool st.desc, .bool st.hasL, .int .i64 st.lim] 173)) ∧ H < w2.heap.size from ⟨NP, ((unhide HA).1.keep o2 (fun e => e)).keep oP (fun e => e), (unhide HR).quiet oA, (hS.quiet oP), oA, by omega⟩)
  have HCS := hide (And.intro hcs hls)
  clear hL hO hS hls hcs oP NP oA zz o2 hsz CP HA
  go_upto_region 8 with fail
  generalize w2.alloc (.cells #[.int .i64 st.kind, .string st.table, .slice a2 st.defs.length c2, .int .i64 st.pk, .slice a4 st.lits.length c4, .bool st.star, .slice a6 st.list.length c6, .slice a7 st.sets.length c7, .slice a8 st.wh.length c8, .string st.order, .bool st.desc, .bool st.hasL, .int .i64 st.lim] 173) = w3 at *
  generalize w2.heap.size = P at *
  have t0 : w3.cell? ⟨P, 0, none⟩ = some (.int .i64 st.kind) := (unhide HX).1.cell 0
  have t1 : w3.cell? ⟨P, 1, none⟩ = some (.string st.table) := (unhide HX).1.cell 1
  have t2 : w3.cell? ⟨P, 2, none⟩ = some (.slice a2 st.defs.length c2) := (unhide HX).1.cell 2
  have t3 : w3.cell? ⟨P, 3, none⟩ = some (.int .i64 st.pk) := (unhide HX).1.cell 3
  have t4 : w3.cell? ⟨P, 4, none⟩ = some (.slice a4 st.lits.length c4) := (unhide HX).1.cell 4
  have t5 : w3.cell? ⟨P, 5, none⟩ = some (.bool st.star) := (unhide HX).1.cell 5
  have t6 : w3.cell? ⟨P, 6, none⟩ = some (.slice a6 st.list.length c6) := (unhide HX).1.cell 6
  have t7 : w3.cell? ⟨P, 7, none⟩ = some (.slice a7 st.sets.length c7) := (unhide HX).1.cell 7
  have t8 : w3.cell? ⟨P, 8, none⟩ = some (.slice a8 st.wh.length c8) := (unhide HX).1.cell 8
  have t9 : w3.cell? ⟨P, 9, none⟩ = some (.string st.order) := (unhide HX).1.cell 9
  have t10 : w3.cell? ⟨P, 10, none⟩ = some (.bool st.desc) := (unhide HX).1.cell 10
  have t11 : w3.cell? ⟨P, 11, none⟩ = some (.bool st.hasL) := (unhide HX).1.cell 11
  have t12 : w3.cell? ⟨P, 12, none⟩ = some (.int .i64 st.lim) := (unhide HX).1.cell 12
  have tl := (unhide HX).1.lt
  have e0 : w3.cell? ⟨k, 0, none⟩ = some (.pointer (some ⟨g, 0, none⟩)) := (unhide HX).2.2.1.has.cell 0
  have kl := (unhide HX).2.2.1.has.lt
  have hk := unhide HKD
  have b1 : (st.kind == 1) = false := by simp [hk]
  have b2 : (st.kind == 2) = false := by simp [hk]
  have b3 : (st.kind == 3) = false := by simp [hk]
  have b4 : (st.kind == 4) = false := by simp [hk]
  have b5 : (st.kind == 5) = true := by simp [hk]
  have b6 : (st.kind == 6) = false := by simp [hk]
  obtain ⟨b2', c2', b4', c4', b6', c6', b7', c7', b8', c8', hcs2, x2, _, _, _, _, p2, _⟩ := (unhide HX).2.2.2.1.cells_
  have hcs3 := hcs2.symm.trans (unhide HCS).1
  have q2 : (Value.slice b2' st.defs.length c2') = .slice a2 st.defs.length c2 := by
    have := congrArg (fun a : Array Value => a[2]?) hcs3
    simpa using this
  rw [q2] at x2 p2
  have oD4 : Only (fun _ => False) w3 w3.drew := (Only.refl _ w3).drew
  have Qd := (unhide HX).2.2.1.quiet oD4
  have hq : schQ M s (drpD M.com st.table) = RR := by rw [← unhide HRR]; unfold stQ; rw [if_neg (show ¬ st.kind = 1 by rw [hk]; decide)]; rw [if_neg (show ¬ st.kind = 2 by rw [hk]; decide)]; rw [if_neg (show ¬ st.kind = 3 by rw [hk]; decide)]; rw [if_neg (show ¬ st.kind = 4 by rw [hk]; decide)]; rw [if_pos hk]
  have hp2 : last = pl := by rw [← unhide HPL, if_neg (show ¬ (st.kind = 8 ∨ st.kind = 9 ∨ st.kind = 10) by rw [hk]; decide)]
  subst hp2
  have CB := (rdropT_any Qd.rx hrc s st.table).mono (fun e w' h => sch_bc (s := s) hL h)
  have HLL := hide (show RR.2.cols = [] ∧ RR.2.rows = [] ∧ RR.2.n = 0 by rw [← hq]; exact schQ_l)
  rw [hq] at CB
  have nk := hide (show ¬ (q.A k ∨ K k) from fun c => c.elim (unhide HX).2.2.1.off.1 (unhide HX).2.2.1.off.2.2)
  have nP := hide (show ¬ (q.A P ∨ K P) from fun c => by have ha := (unhide HR).apn (b := P) (by have := (unhide HX).2.2.2.2.2; omega); exact c.elim ha.1 ha.2.2.1)
  have CB : Calls Tryz.prog 110 #[.pointer (some ⟨g, 0, none⟩), .int .i64 s, .string st.table] w3.drew (fun e w' => ∃ v, e = .returned v ∧ v = .int .i64 RR.2.e ∧ BcP L q w3.drew g x M K RR (.returned v) w' ∧ Only (fun b => q.A b ∨ K b) w3.drew w') := bc_wrap CB
  have CB := hide CB
  clear hq hk hcs2 hcs3 q2 x2 p2 oD4 Qd
  go_upto_region 22 with fail
  refine wp_region_held_drew (S := (fun w' => w'.cell? ⟨k, 0, none⟩ = some (.pointer (some ⟨g, 0, none⟩)) ∧ w'.cell? ⟨P, 1, none⟩ = some (.string st.table))) (by kernel_rfl) ⟨e0, t1⟩ (fun hH0 => ?_)
  refine takeH 0 86 (v := ?vk51) rfl rfl (by kernel_rfl) (by kernel_rfl) (by kernel_rfl) (fun _ _ _ h => h) (Or.inl ⟨by rfl, ?hk51⟩) hH0 ?rk51
  case hk51 => (intro w hSw; clear hSw; go_simp; (try with_reducible rfl))
  case rk51 =>
  try simp only [Act.put, List.setIfInBounds_toArray, List.set_cons_zero, List.set_cons_succ]
  refine takeH 1 87 (v := ?vk52) rfl rfl (by kernel_rfl) (by kernel_rfl) (by kernel_rfl) (fun _ _ _ h => h) (Or.inl ⟨by rfl, ?hk52⟩) hH0 ?rk52
  case hk52 => (intro w hSw; clear hSw; go_simp; (try with_reducible rfl))
  case rk52 =>
  try simp only [Act.put, List.setIfInBounds_toArray, List.set_cons_zero, List.set_cons_succ]
  refine takeH 2 88 (v := ?vk53) rfl rfl (by kernel_rfl) (by kernel_rfl) (by kernel_rfl) (fun _ _ _ h => h) (Or.inl ⟨by rfl, ?hk53⟩) hH0 ?rk53
  case hk53 => (intro w hSw; clear hSw; go_simp; (try with_reducible rfl))
  case rk53 =>
  try simp only [Act.put, List.setIfInBounds_toArray, List.set_cons_zero, List.set_cons_succ]
  refine takeH 3 89 (v := ?vk54) rfl rfl (by kernel_rfl) (by kernel_rfl) (by kernel_rfl) (fun _ _ _ h => h) (Or.inl ⟨by rfl, ?hk54⟩) hH0 ?rk54
  case hk54 => (intro w hSw; obtain ⟨s0, s1⟩ := hSw; go_simp; (try with_reducible rfl))
  case rk54 =>
  try simp only [Act.put, List.setIfInBounds_toArray, List.set_cons_zero, List.set_cons_succ]
  refine takeH 4 90 (v := ?vk55) rfl rfl (by kernel_rfl) (by kernel_rfl) (by kernel_rfl) (fun _ _ _ h => h) (Or.inl ⟨by rfl, ?hk55⟩) hH0 ?rk55
  case hk55 => (intro w hSw; clear hSw; go_simp; (try with_reducible rfl))
  case rk55 =>
  try simp only [Act.put, List.setIfInBounds_toArray, List.set_cons_zero, List.set_cons_succ]
  refine takeH 5 91 (v := ?vk56) rfl rfl (by kernel_rfl) (by kernel_rfl) (by kernel_rfl) (fun _ _ _ h => h) (Or.inl ⟨by rfl, ?hk56⟩) hH0 ?rk56
  case hk56 => (intro w hSw; clear hSw; go_simp; (try with_reducible rfl))
  case rk56 =>
  try simp only [Act.put, List.setIfInBounds_toArray, List.set_cons_zero, List.set_cons_succ]
  refine takeH 6 92 (v := ?vk57) rfl rfl (by kernel_rfl) (by kernel_rfl) (by kernel_rfl) (fun _ _ _ h => h) (Or.inl ⟨by rfl, ?hk57⟩) hH0 ?rk57
  case hk57 => (intro w hSw; obtain ⟨s0, s1⟩ := hSw; go_simp; (try with_reducible rfl))
  case rk57 =>
  try simp only [Act.put, List.setIfInBounds_toArray, List.set_cons_zero, List.set_cons_succ]
  refine callH 7 (by kernel_rfl) rfl 93 rfl rfl 110 Tryz.func110 (by kernel_rfl) (by kernel_rfl) #[.tmp 89, .tmp 90, .tmp 92] #[28, 3, 9] rfl #[.pointer (some ⟨g, 0, none⟩), .int .i64 s, .string st.table] (by simp [Act.eval]) (R := fun v w' => v = .int .i64 RR.2.e ∧ BcP L q w3.drew g x M K RR (.returned v) w' ∧ Only (fun b => q.A b ∨ K b) w3.drew w') (unhide CB) ?kk5
  case kk5 =>
  rintro _ w6 ⟨rfl, hb, o6⟩
  have S6 : w6.cell? ⟨k, 0, none⟩ = some (.pointer (some ⟨g, 0, none⟩)) ∧ w6.cell? ⟨P, 1, none⟩ = some (.string st.table) := ⟨cell_keep (hH0.1) o6 (unhide nk), cell_keep (hH0.2) o6 (unhide nP)⟩
  refine ⟨S6, ?_⟩
  try simp only [Act.put, List.setIfInBounds_toArray, List.set_cons_zero, List.set_cons_succ]
  refine takeH 8 13 (v := ?vk58) rfl rfl (by kernel_rfl) (by kernel_rfl) (by kernel_rfl) (fun _ _ _ h => h) (Or.inl ⟨by rfl, ?hk58⟩) S6 ?rk58
  case hk58 => (intro w hSw; clear hSw; go_simp; (try with_reducible rfl))
  case rk58 =>
  try simp only [Act.put, List.setIfInBounds_toArray, List.set_cons_zero, List.set_cons_succ]
  refine wpAnyH_done (by kernel_rfl) ?_ _
  have oD : Only (fun b => q.A b ∨ K b) w3 w6 := (Only.refl (fun b => q.A b ∨ K b) w3).drew.trans o6 (fun _ _ e => e)
  clear hH0 S6
  generalize w6 = w5 at *
  have RBc := (unhide HX).2.1.keep ((Only.refl (fun _ => False) w3).drew) (fun e => e)
  have hen := hb.en ((unhide HX).2.2.1.quiet ((Only.refl (fun _ => False) w3).drew))
  have RB5 : Has w5 H #[.int .i64 0, .int .i64 0, .slice none 0 0, .slice none 0 0] 52 := by
    obtain ⟨q', K', hQ, hK, hA, hc⟩ := hen
    have ha : Apa q x k K H := (unhide HR).apn (by omega)
    rcases hc with ⟨_, _, o⟩ | ⟨_, _, _, _, _, _, _, _, o⟩
    · exact (RBc).keep o ha.SK
    · exact (RBc).keep o (fun c => c.elim ha.1 ha.2.2.1)
  have HEN := hide hen
  have HRB5 := hide RB5
  clear hen RB5
  clear CB RBc o6 oD hb t0 t1 t2 t3 t4 t5 t6 t7 t8 t9 t10 t11 t12 tl e0 kl
  have CF := hide (sqfailE_any RR.2.e w5)
  go_wp2_with fail
  refine (unhide CF).mono ?_
  rintro e w7 ⟨rfl, o7⟩
  have RB7 := (unhide HRB5).keep o7 (fun e => e)
  have HO7 := hide o7
  have r0 : w7.cell? ⟨H, 0, none⟩ = some (.int .i64 0) := RB7.cell 0
  have r1 : w7.cell? ⟨H, 1, none⟩ = some (.int .i64 0) := RB7.cell 1
  have r2 : w7.cell? ⟨H, 2, none⟩ = some (.slice none 0 0) := RB7.cell 2
  have r3 : w7.cell? ⟨H, 3, none⟩ = some (.slice none 0 0) := RB7.cell 3
  have rf0 := RB7.free 0
  have rf1 := RB7.free 1
  have rf2 := RB7.free 2
  have rf3 := RB7.free 3
  have rl := RB7.lt
  have H5 := has_setAll [.int .i64 RR.2.e, .int .i64 0, .slice none 0 0, .slice none 0 0] RB7 rfl
  have O5 := only_setW H [.int .i64 RR.2.e, .int .i64 0, .slice none 0 0, .slice none 0 0] 0 w7
  have FF := hide (And.intro H5 (show ExP L q w k g x M K RR last (.returned (.agg #[.int .i64 RR.2.e, .int .i64 0, .slice none 0 0, .slice none 0 0])) (setW H [.int .i64 RR.2.e, .int .i64 0, .slice none 0 0, .slice none 0 0] 0 w7) from (by
    exact EnP.ex (unhide HEN) (((unhide HX).2.2.2.2.1.trans ((Only.refl (fun _ => False) w3).drew) (fun _ _ e => e)).mono (fun _ _ e => e.elim)) (unhide HR) (by omega) (by have := (unhide HX).2.1.lt; exact this) (((unhide HO7).mono (fun _ _ e => e.elim)).trans O5 (fun _ _ e => e)) (unhide HLL))))
  simp only [setW, Nat.zero_add, Nat.reduceAdd] at FF
  clear H5 O5
  clear CF o7 RB7
  go_wp2_with fail
  refine bodyPost_ret (sres_result rfl _ rfl (unhide FF).1 rfl) rfl ?_
  exact (unhide FF).2
end
end Go.Proofs.Qxb6500412aGreat
