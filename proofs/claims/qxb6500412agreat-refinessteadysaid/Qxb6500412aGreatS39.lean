/-
  OWN WORK. QUERY: run, SELECT, UPDATE, DELETE (written by tools/gen_s39.py).
-/
import Derived.Test.Qxb6500412aGreatS38
namespace Go.Proofs.Qxb6500412aGreat
open Go.RowKit Go.PlainAid
set_option linter.unusedSimpArgs false
set_option linter.unusedVariables false

section
variable {ops : Array Oper} {o p : Oper} {a : Act} {w : World} {Q : Exit → Act → World → Prop} {md : Region.Mode} {S : World → Prop} {fuel : Nat} {listed : Array Bool}
/-- One of two comes next: one calls a function, the other yields a value. -/
theorem pairWC (i j : Nat) (hr : Region.ready md ops listed = [i, j]) (hi : ops[i]? = some o) (hj : ops[j]? = some p) (d e : Nat) (hd : o.dst = some d) (he : p.dst = some e) (hgd : o.guard = none) (hgp : p.guard = none)
    (f : Nat) {fn : Func} (hf : Tryz.prog.funcs[f]? = some fn) (hf1 : decide (fn.name = "runtime.NumGoroutine") = false) (hf2 : fn.body.isSome = true) (cargs : Array Operand) (tys : Array TypeId) (ho : o.op = .call { callee := .value (.func f), args := cargs, argTypes := tys }) (vals : Array Value) (hv : cargs.map a.eval = vals)
    {R : Value → World → Prop} (hC : Calls Tryz.prog f vals w (fun e w' => ∃ v, e = .returned v ∧ R v w'))
    (hL : ∀ u w', R u w' → S w' ∧ wpAnyH Tryz.prog md ops Q S fuel (listed.setIfInBounds i true) (a.put (some d) u) w')
    {v : Value} {w1 : World} (hx : (execOp a.eval p).run Tryz.prog w = .ok (.value v) w1) (hK : S w1 ∧ wpAnyH Tryz.prog md ops Q S fuel (listed.setIfInBounds j true) (a.put (some e) v) w1) : wpAnyH Tryz.prog md ops Q S (fuel + 1) listed a w := by
  rw [← hd] at hL
  rw [← he] at hK
  refine wpAnyH_ready hr (by simp) (AllReadyH.cons hi (fun K' hK' => ?_) (AllReadyH.cons hj (fun K' hK' => ?_) AllReadyH.nil))
  · have hw : Region.wanted o (yielded ops a.tmps) = true := by simp [Region.wanted, hgd]
    rw [if_pos hw]
    have hC2 : Calls Tryz.prog f vals w (fun
        | .returned v, w'' => K' (a.put o.dst v) w''
        | .panicked chain, w'' => Q (.panic chain) a w''
        | .outgrown, _ => LetsOut Q) := hC.mono (by
      rintro e w' ⟨v, rfl, h⟩
      exact hK'.out _ _ (hL v w' h).1 (fun _ => (hL v w' h).2))
    unfold Oper.wp
    have e : (execOp a.eval o).run Tryz.prog w = .ok (.enter f vals) w := by
      simp [execOp, ho, resolve, invoke, Act.eval, Result.andThen, Sem.run_bind, Sem.run_pure, Deferred.ofValue, callFunc, hv, hf]
      have hf1' : ¬ fn.name = "runtime.NumGoroutine" := by simpa using hf1
      have hf2' : ¬ fn.body = none := by
        intro h
        rw [h] at hf2
        cases hf2
      simp [hf1', hf2']
    rw [e]
    exact hC2
  · have hw : Region.wanted p (yielded ops a.tmps) = true := by simp [Region.wanted, hgp]
    rw [if_pos hw]
    unfold Oper.wp
    rw [hx]
    exact hK'.out _ _ hK.1 (fun _ => hK.2)
end
theorem Tryz.sizeESch4 : (Tryz.prog.info? 79).map (·.size) = some 4 := by kernel_rfl
/-- The schema laid in a block of its own. -/
def ScqP (q : Gnd) (k g x : Nat) (M : Mu) (K : Nat → Prop) (last : Int) (nm : ByteArray) (w1 : World) (kv ev : Value) (wx : World) : Prop :=
  ∃ kb ca cn cc, kv = .pointer (some ⟨kb, 0, none⟩) ∧ ev = .int .i64 (scqD M.com nm).z ∧ w1.heap.size ≤ kb ∧ Has wx kb #[.string (scqD M.com nm).nm, .slice ca cn cc, .int .i64 (scqD M.com nm).pk, .int .i64 (scqD M.com nm).ix] 79 ∧ OwnC wx (.slice ca cn cc) (scqD M.com nm).cols ∧ (∀ b, (Value.slice ca cn cc).ownBlock = some b → w1.heap.size ≤ b) ∧ QR q wx k g x M K last ∧ Only q.S w1 wx
section
variable {q : Gnd} {w wr : World} {k g x lo : Nat} {M : Mu} {K : Nat → Prop} {last : Int} {s : Int} {S : Sq} {st : St}
theorem RL.lower {lo lo' : Nat} {v : Value} {Z : List (Value × List Vl)} (h : RL lo v Z w) (hl : lo' ≤ lo) : RL lo' v Z w := ⟨h.own, fun z hz => ⟨(h.row z hz).1, fun b hb => Nat.le_trans hl ((h.row z hz).2 b hb)⟩, fun b hb => Nat.le_trans hl (h.nb b hb), h.ap⟩
theorem chgD_congr {t u : Tb} {D : Db} {l : List (List Vl)} (h1 : t.cols = u.cols) (h2 : t.pk = u.pk) : chgD t st D l = chgD u st D l := by
  have e : (fun D r => (chg1 t st D r).1) = (fun D r => (chg1 u st D r).1) := by
    funext D r
    unfold chg1
    rw [h1, h2]
  unfold chgD
  rw [e]
theorem setL_inT {nm : ByteArray} {m : Int} : (M.setL s.toNat nm m).inT s = M.inT s := rfl
set_option maxRecDepth 100000 in
set_option maxHeartbeats 32000000 in
theorem sqrun_sel (R : QR q w k g x M K last) (hin : M.inT s = 0) (hS : StM q x k K w S st) (hok : StOk st) (hB : StB st) (hk : st.kind = 8 ∨ st.kind = 9 ∨ st.kind = 10) (hlo : lo ≤ w.heap.size) (hap : ∀ b, lo ≤ b → Apa q x k K b) (hls : ∀ j, sqj j → ∀ b, (S.cell j).ownBlock = some b → lo ≤ b) : Calls Tryz.prog 113 #[.pointer (some ⟨k, 0, none⟩), .int .i64 s, .agg (tabV 13 S.cell)] w (RnP q w k g x lo (S.cell 6) K (runQ M s st) (plnR M st last)) := by
  obtain ⟨a2, c2, a4, c4, a6, c6, a7, c7, a8, c8, hcs, x2, x4, x6, x7, x8, p2, p4, p6, p7, p8⟩ := hS.cells_
  rw [hcs]
  have q6 : S.cell 6 = .slice a6 st.list.length c6 := by
    have := congrArg (·[6]?) hcs
    simpa [tabV_get] using this
  have o0 : Only (fun _ => False) w (w.alloc (.cells #[.int .i64 st.kind, .string st.table, .slice a2 st.defs.length c2, .int .i64 st.pk, .slice a4 st.lits.length c4, .bool st.star, .slice a6 st.list.length c6, .slice a7 st.sets.length c7, .slice a8 st.wh.length c8, .string st.order, .bool st.desc, .bool st.hasL, .int .i64 st.lim] 173)) := (Only.refl _ w).alloc _
  have o1 : Only (fun _ => False) (w.alloc (.cells #[.int .i64 st.kind, .string st.table, .slice a2 st.defs.length c2, .int .i64 st.pk, .slice a4 st.lits.length c4, .bool st.star, .slice a6 st.list.length c6, .slice a7 st.sets.length c7, .slice a8 st.wh.length c8, .string st.order, .bool st.desc, .bool st.hasL, .int .i64 st.lim] 173)) ((w.alloc (.cells #[.int .i64 st.kind, .string st.table, .slice a2 st.defs.length c2, .int .i64 st.pk, .slice a4 st.lits.length c4, .bool st.star, .slice a6 st.list.length c6, .slice a7 st.sets.length c7, .slice a8 st.wh.length c8, .string st.order, .bool st.desc, .bool st.hasL, .int .i64 st.lim] 173)).alloc (.cells #[.int .i64 0, .int .i64 0, .slice none 0 0, .slice none 0 0] 52)) := (Only.refl _ _).alloc _
  have N0 := Has.new w #[.int .i64 st.kind, .string st.table, .slice a2 st.defs.length c2, .int .i64 st.pk, .slice a4 st.lits.length c4, .bool st.star, .slice a6 st.list.length c6, .slice a7 st.sets.length c7, .slice a8 st.wh.length c8, .string st.order, .bool st.desc, .bool st.hasL, .int .i64 st.lim] 173
  have N1 := Has.new' (w.alloc (.cells #[.int .i64 st.kind, .string st.table, .slice a2 st.defs.length c2, .int .i64 st.pk, .slice a4 st.lits.length c4, .bool st.star, .slice a6 st.list.length c6, .slice a7 st.sets.length c7, .slice a8 st.wh.length c8, .string st.order, .bool st.desc, .bool st.hasL, .int .i64 st.lim] 173)) #[.int .i64 0, .int .i64 0, .slice none 0 0, .slice none 0 0] 52 (w.heap.size + 1) (by simp)
  have oA := o0.trans o1 (fun _ _ e => e)
  have hsz1 : ((w.alloc (.cells #[.int .i64 st.kind, .string st.table, .slice a2 st.defs.length c2, .int .i64 st.pk, .slice a4 st.lits.length c4, .bool st.star, .slice a6 st.list.length c6, .slice a7 st.sets.length c7, .slice a8 st.wh.length c8, .string st.order, .bool st.desc, .bool st.hasL, .int .i64 st.lim] 173)).alloc (.cells #[.int .i64 0, .int .i64 0, .slice none 0 0, .slice none 0 0] 52)).heap.size = w.heap.size + 2 := by simp
  have HA := hide (show Has ((w.alloc (.cells #[.int .i64 st.kind, .string st.table, .slice a2 st.defs.length c2, .int .i64 st.pk, .slice a4 st.lits.length c4, .bool st.star, .slice a6 st.list.length c6, .slice a7 st.sets.length c7, .slice a8 st.wh.length c8, .string st.order, .bool st.desc, .bool st.hasL, .int .i64 st.lim] 173)).alloc (.cells #[.int .i64 0, .int .i64 0, .slice none 0 0, .slice none 0 0] 52)) w.heap.size #[.int .i64 st.kind, .string st.table, .slice a2 st.defs.length c2, .int .i64 st.pk, .slice a4 st.lits.length c4, .bool st.star, .slice a6 st.list.length c6, .slice a7 st.sets.length c7, .slice a8 st.wh.length c8, .string st.order, .bool st.desc, .bool st.hasL, .int .i64 st.lim] 173 ∧ Has ((w.alloc (.cells #[.int .i64 st.kind, .string st.table, .slice a2 st.defs.length c2, .int .i64 st.pk, .slice a4 st.lits.length c4, .bool st.star, .slice a6 st.list.length c6, .slice a7 st.sets.length c7, .slice a8 st.wh.length c8, .string st.order, .bool st.desc, .bool st.hasL, .int .i64 st.lim] 173)).alloc (.cells #[.int .i64 0, .int .i64 0, .slice none 0 0, .slice none 0 0] 52)) (w.heap.size + 1) #[.int .i64 0, .int .i64 0, .slice none 0 0, .slice none 0 0] 52 ∧ QR q ((w.alloc (.cells #[.int .i64 st.kind, .string st.table, .slice a2 st.defs.length c2, .int .i64 st.pk, .slice a4 st.lits.length c4, .bool st.star, .slice a6 st.list.length c6, .slice a7 st.sets.length c7, .slice a8 st.wh.length c8, .string st.order, .bool st.desc, .bool st.hasL, .int .i64 st.lim] 173)).alloc (.cells #[.int .i64 0, .int .i64 0, .slice none 0 0, .slice none 0 0] 52)) k g x M K last ∧ StM q x k K ((w.alloc (.cells #[.int .i64 st.kind, .string st.table, .slice a2 st.defs.length c2, .int .i64 st.pk, .slice a4 st.lits.length c4, .bool st.star, .slice a6 st.list.length c6, .slice a7 st.sets.length c7, .slice a8 st.wh.length c8, .string st.order, .bool st.desc, .bool st.hasL, .int .i64 st.lim] 173)).alloc (.cells #[.int .i64 0, .int .i64 0, .slice none 0 0, .slice none 0 0] 52)) S st ∧ Only (fun _ => False) w ((w.alloc (.cells #[.int .i64 st.kind, .string st.table, .slice a2 st.defs.length c2, .int .i64 st.pk, .slice a4 st.lits.length c4, .bool st.star, .slice a6 st.list.length c6, .slice a7 st.sets.length c7, .slice a8 st.wh.length c8, .string st.order, .bool st.desc, .bool st.hasL, .int .i64 st.lim] 173)).alloc (.cells #[.int .i64 0, .int .i64 0, .slice none 0 0, .slice none 0 0] 52)) ∧ ((w.alloc (.cells #[.int .i64 st.kind, .string st.table, .slice a2 st.defs.length c2, .int .i64 st.pk, .slice a4 st.lits.length c4, .bool st.star, .slice a6 st.list.length c6, .slice a7 st.sets.length c7, .slice a8 st.wh.length c8, .string st.order, .bool st.desc, .bool st.hasL, .int .i64 st.lim] 173)).alloc (.cells #[.int .i64 0, .int .i64 0, .slice none 0 0, .slice none 0 0] 52)).heap.size = w.heap.size + 2 from ⟨N0.keep o1 (fun e => e), N1, R.quiet oA, hS.quiet oA, oA, hsz1⟩)
  have HAP := hide (And.intro hlo (And.intro hap (And.intro R.lts (And.intro hls hin))))
  have HOK := hide (And.intro hok (And.intro hB hk))
  have HCS := hide (And.intro hcs q6)
  have hmu := R.rx.muQ
  have HMU := hide hmu
  clear o0 o1 N0 N1 oA hsz1 hS hcs q6 x2 x4 x6 x7 x8 p2 p4 p6 p7 p8 R hok hB hlo hap hls hin hmu
  have b7 : (st.kind == 7) = false := by rcases hk with h | h | h <;> simp [h]
  clear hk
  obtain ⟨RR, hRR⟩ : ∃ r, runQ M s st = r := ⟨_, rfl⟩
  have HRR := hide hRR
  rw [hRR]
  clear hRR
  obtain ⟨pn, hpn⟩ : ∃ r, plnR M st last = r := ⟨_, rfl⟩
  have HPN := hide hpn
  rw [hpn]
  clear hpn
  go_enter Tryz.func113, Tryz.ntmps113
  go_upto_region 1 with fail
  generalize (w.alloc (.cells #[.int .i64 st.kind, .string st.table, .slice a2 st.defs.length c2, .int .i64 st.pk, .slice a4 st.lits.length c4, .bool st.star, .slice a6 st.list.length c6, .slice a7 st.sets.length c7, .slice a8 st.wh.length c8, .string st.order, .bool st.desc, .bool st.hasL, .int .i64 st.lim] 173)).alloc (.cells #[.int .i64 0, .int .i64 0, .slice none 0 0, .slice none 0 0] 52) = w1 at *
  generalize hH : w.heap.size = H at *
  have t0 : w1.cell? ⟨H, 0, none⟩ = some (.int .i64 st.kind) := (unhide HA).1.cell 0
  have t1 : w1.cell? ⟨H, 1, none⟩ = some (.string st.table) := (unhide HA).1.cell 1
  have tl := (unhide HA).1.lt
  have e0 : w1.cell? ⟨k, 0, none⟩ = some (.pointer (some ⟨g, 0, none⟩)) := (unhide HA).2.2.1.has.cell 0
  have kl := (unhide HA).2.2.1.has.lt
  have CA1 := hide (rschemaQ_any ((unhide HA).2.2.1.quiet ((Only.refl (fun _ => False) w1).drew)).rx st.table)
  have CA2 := hide (rschemaQ_any ((unhide HA).2.2.1.quiet (((Only.refl (fun _ => False) w1).drew).alloc (.cells #[.string ⟨#[]⟩, .slice none 0 0, .int .i64 0, .int .i64 0] 79))).rx st.table)
  have HSB := hide (show ∀ W, Only q.S w1 W → (W.cell? ⟨k, 0, none⟩ = some (.pointer (some ⟨g, 0, none⟩)) ∧ W.cell? ⟨H, 1, none⟩ = some (.string st.table)) from fun W o => ⟨cell_keep e0 o (fun h => (unhide HA).2.2.1.off.1 (Gnd.S_A h)), cell_keep t1 o ((unhide HAP).2.1 H (by have := (unhide HAP).1; omega)).S⟩)
  obtain ⟨sc, hsc⟩ : ∃ s, scqD M.com st.table = s := ⟨_, rfl⟩
  rw [hsc] at CA1 CA2
  have HSC := hide hsc
  go_upto_region 6 with fail
  have hsb0 := unhide HSB w1 (Only.refl _ _)
  go_cut [8, 9] from 29 to 38 (fun kv ev wx => ScqP q k g x M K last st.table w1 kv ev wx)
  case first =>
    refine wp_region_held_drew (S := (fun w' => w'.cell? ⟨k, 0, none⟩ = some (.pointer (some ⟨g, 0, none⟩)) ∧ w'.cell? ⟨H, 1, none⟩ = some (.string st.table))) (by kernel_rfl) hsb0 (fun hH0 => ?_)
    refine takeH 0 30 (v := ?vr01) rfl rfl (by kernel_rfl) (by kernel_rfl) (by kernel_rfl) (fun _ _ _ h => h) (Or.inl ⟨by rfl, ?hr01⟩) hH0 ?rr01
    case hr01 => (intro w hSw; clear hSw; go_simp; (try with_reducible rfl))
    case rr01 =>
    try simp only [Act.put, List.setIfInBounds_toArray, List.set_cons_zero, List.set_cons_succ]
    refine takeH 1 31 (v := ?vr02) rfl rfl (by kernel_rfl) (by kernel_rfl) (by kernel_rfl) (fun _ _ _ h => h) (Or.inl ⟨by rfl, ?hr02⟩) hH0 ?rr02
    case hr02 => (intro w hSw; clear hSw; go_simp; (try with_reducible rfl))
    case rr02 =>
    try simp only [Act.put, List.setIfInBounds_toArray, List.set_cons_zero, List.set_cons_succ]
    refine takeH 2 32 (v := ?vr03) rfl rfl (by kernel_rfl) (by kernel_rfl) (by kernel_rfl) (fun _ _ _ h => h) (Or.inl ⟨by rfl, ?hr03⟩) hH0 ?rr03
    case hr03 => (intro w hSw; clear hSw; go_simp; (try with_reducible rfl))
    case rr03 =>
    try simp only [Act.put, List.setIfInBounds_toArray, List.set_cons_zero, List.set_cons_succ]
    refine takeH 3 33 (v := ?vr04) rfl rfl (by kernel_rfl) (by kernel_rfl) (by kernel_rfl) (fun _ _ _ h => h) (Or.inl ⟨by rfl, ?hr04⟩) hH0 ?rr04
    case hr04 => (intro w hSw; obtain ⟨s0, s1⟩ := hSw; go_simp; (try with_reducible rfl))
    case rr04 =>
    try simp only [Act.put, List.setIfInBounds_toArray, List.set_cons_zero, List.set_cons_succ]
    refine takeH 4 34 (v := ?vr05) rfl rfl (by kernel_rfl) (by kernel_rfl) (by kernel_rfl) (fun _ _ _ h => h) (Or.inl ⟨by rfl, ?hr05⟩) hH0 ?rr05
    case hr05 => (intro w hSw; clear hSw; go_simp; (try with_reducible rfl))
    case rr05 =>
    try simp only [Act.put, List.setIfInBounds_toArray, List.set_cons_zero, List.set_cons_succ]
    refine takeH 5 35 (v := ?vr06) rfl rfl (by kernel_rfl) (by kernel_rfl) (by kernel_rfl) (fun _ _ _ h => h) (Or.inl ⟨by rfl, ?hr06⟩) hH0 ?rr06
    case hr06 => (intro w hSw; obtain ⟨s0, s1⟩ := hSw; go_simp; (try with_reducible rfl))
    case rr06 =>
    try simp only [Act.put, List.setIfInBounds_toArray, List.set_cons_zero, List.set_cons_succ]
    refine pairWC 6 10 (by kernel_rfl) rfl rfl 36 8 rfl rfl rfl rfl 81 Tryz.func81 (by kernel_rfl) (by kernel_rfl) #[.tmp 33, .tmp 35] #[28, 9] rfl #[.pointer (some ⟨g, 0, none⟩), .string st.table] (by simp [Act.eval]) (R := fun v w' => RX q w' g x M K ∧ Only q.S w1.drew w' ∧ ∃ ca cn cc, v = .tuple #[.agg #[.string sc.nm, .slice ca cn cc, .int .i64 sc.pk, .int .i64 sc.ix], .int .i64 sc.z] ∧ OwnC w' (.slice ca cn cc) sc.cols ∧ Newer w1.drew (.slice ca cn cc) ∧ sc.cols.length ≤ 3) ((unhide CA1).mono (by rintro en w' ⟨r, o, ca, cn, cc, rfl, h1, h2, h3⟩; exact ⟨_, rfl, r, o, ca, cn, cc, rfl, h1, h2, h3⟩)) ?kA (v := .pointer (some ⟨w1.drew.heap.size, 0, none⟩)) (w1 := (w1.drew.alloc (.cells #[.string ⟨#[]⟩, .slice none 0 0, .int .i64 0, .int .i64 0] 79))) ?eB ?kB
    case eB => (go_simp; (try with_reducible rfl))
    case kA =>
      rintro _ w5 ⟨rX, o5, ca, cn, cc, rfl, hC5, hN5, hl5⟩
      have oW5 : Only q.S w1 w5 := (((Only.refl (fun _ => False) w1).drew).mono (fun _ _ e => e.elim)).trans o5 (fun _ _ e => e)
      have S5 := unhide HSB w5 oW5
      refine ⟨S5, ?_⟩
      try simp only [Act.put, List.setIfInBounds_toArray, List.set_cons_zero, List.set_cons_succ]
      refine takeH 7 29 (v := ?vrA1) rfl rfl (by kernel_rfl) (by kernel_rfl) (by kernel_rfl) (fun _ _ _ h => h) (Or.inl ⟨by rfl, ?hrA1⟩) S5 ?rrA1
      case hrA1 => (intro w hSw; clear hSw; go_simp; (try with_reducible rfl))
      case rrA1 =>
      try simp only [Act.put, List.setIfInBounds_toArray, List.set_cons_zero, List.set_cons_succ]
      refine takeH 8 37 (v := ?vrA2) rfl rfl (by kernel_rfl) (by kernel_rfl) (by kernel_rfl) (fun _ _ _ h => h) (Or.inl ⟨by rfl, ?hrA2⟩) S5 ?rrA2
      case hrA2 => (intro w hSw; clear hSw; go_simp; (try with_reducible rfl))
      case rrA2 =>
      try simp only [Act.put, List.setIfInBounds_toArray, List.set_cons_zero, List.set_cons_succ]
      refine takeH 9 38 (v := ?vrA3) rfl rfl (by kernel_rfl) (by kernel_rfl) (by kernel_rfl) (fun _ _ _ h => h) (Or.inl ⟨by rfl, ?hrA3⟩) S5 ?rrA3
      case hrA3 => (intro w hSw; clear hSw; go_simp; (try with_reducible rfl))
      case rrA3 =>
      try simp only [Act.put, List.setIfInBounds_toArray, List.set_cons_zero, List.set_cons_succ]
      refine soneH 10 (by kernel_rfl) rfl 8 rfl rfl (v := .pointer (some ⟨w5.heap.size, 0, none⟩)) (w1 := (w5.alloc (.cells #[.string ⟨#[]⟩, .slice none 0 0, .int .i64 0, .int .i64 0] 79))) ?eA ?kA2
      case eA => (go_simp; (try with_reducible rfl))
      case kA2 =>
      have oA5 : Only (fun _ => False) w5 (w5.alloc (.cells #[.string ⟨#[]⟩, .slice none 0 0, .int .i64 0, .int .i64 0] 79)) := (Only.refl _ _).alloc _
      have oW6 := oW5.trans (oA5.mono (fun _ _ e => e.elim)) (fun _ _ e => e)
      have S6 := unhide HSB _ oW6
      refine ⟨S6, ?_⟩
      try simp only [Act.put, List.setIfInBounds_toArray, List.set_cons_zero, List.set_cons_succ]
      have z5 := oW5.size
      have hC7 := hC5.keep oA5 (fun _ _ e => e)
      have nC : ∀ b, (Value.slice ca cn cc).ownBlock = some b → b = w5.heap.size → False := fun b hb e => by have := ownsRow_lt hC5 b hb; omega
      have Q7 : QR q (w5.alloc (.cells #[.string ⟨#[]⟩, .slice none 0 0, .int .i64 0, .int .i64 0] 79)) k g x M K last := ((unhide HA).2.2.1.turn rX oW5 (fun h => (unhide HA).2.2.1.off.1 (Gnd.S_A h)) (fun b hb => .inl hb)).quiet oA5
      have hdz : w1.drew.heap.size = w1.heap.size := rfl
      refine storeH_row 79 11 (by kernel_rfl) rfl rfl rfl _ _ rfl (w5.heap.size) #[.string sc.nm, .slice ca cn cc, .int .i64 sc.pk, .int .i64 sc.ix] #[.string ⟨#[]⟩, .slice none 0 0, .int .i64 0, .int .i64 0] rfl rfl (Has.new w5 #[.string ⟨#[]⟩, .slice none 0 0, .int .i64 0, .int .i64 0] 79) Tryz.sizeESch4 rfl (by kernel_rfl) ?_
      intro w7 hHas oS
      have o7 : Only q.S w1 w7 := (oW6).lateS oS (fun b (e : b = w5.heap.size) => by rw [e]; omega)
      have S7 := unhide HSB w7 o7
      have hfin : ScqP q k g x M K last st.table w1 (.pointer (some ⟨w5.heap.size, 0, none⟩)) (.int .i64 sc.z) w7 := by
        unfold ScqP
        rw [unhide HSC]
        refine ⟨w5.heap.size, ca, cn, cc, rfl, rfl, by omega, hHas, hC7.keep oS (fun b hb (e : b = w5.heap.size) => nC b hb e), fun b hb => by have := hN5 b hb; omega, Q7.keep oS (fun b hb (e : b = w5.heap.size) => ?_), o7⟩
        have hm := (unhide HA).2.2.1.lts
        rcases hb with c | c | c | c
        · have := hm.1 _ c; omega
        · have := hm.2.1; omega
        · have := hm.2.2.1 _ c; omega
        · have := hm.2.2.2; omega
      refine ⟨S7, ?_⟩
      try simp only [Act.put, List.setIfInBounds_toArray, List.set_cons_zero, List.set_cons_succ]
      refine takeH 12 9 (v := ?vrA4) rfl rfl (by kernel_rfl) (by kernel_rfl) (by kernel_rfl) (fun _ _ _ h => h) (Or.inl ⟨by rfl, ?hrA4⟩) S7 ?rrA4
      case hrA4 => (intro w hSw; clear hSw; go_simp; (try with_reducible rfl))
      case rrA4 =>
      try simp only [Act.put, List.setIfInBounds_toArray, List.set_cons_zero, List.set_cons_succ]
      refine wpAnyH_done (by kernel_rfl) ?_ _
      have HE := hide hfin
      clear hfin hHas oS o5 rX hC5 hN5 hl5 hsb0 e0 t0 t1 tl kl CA1 CA2
      go_wp2_with fail
      go_meet
      exact unhide HE
    case kB =>
      have oB : Only q.S w1 (w1.drew.alloc (.cells #[.string ⟨#[]⟩, .slice none 0 0, .int .i64 0, .int .i64 0] 79)) := (((Only.refl (fun _ => False) w1).drew.alloc (.cells #[.string ⟨#[]⟩, .slice none 0 0, .int .i64 0, .int .i64 0] 79)).mono (fun _ _ e => e.elim))
      have SB := unhide HSB _ oB
      refine ⟨SB, ?_⟩
      try simp only [Act.put, List.setIfInBounds_toArray, List.set_cons_zero, List.set_cons_succ]
      refine callH 6 (by kernel_rfl) rfl 36 rfl rfl 81 Tryz.func81 (by kernel_rfl) (by kernel_rfl) #[.tmp 33, .tmp 35] #[28, 9] rfl #[.pointer (some ⟨g, 0, none⟩), .string st.table] (by simp [Act.eval]) (R := fun v w' => RX q w' g x M K ∧ Only q.S (w1.drew.alloc (.cells #[.string ⟨#[]⟩, .slice none 0 0, .int .i64 0, .int .i64 0] 79)) w' ∧ ∃ ca cn cc, v = .tuple #[.agg #[.string sc.nm, .slice ca cn cc, .int .i64 sc.pk, .int .i64 sc.ix], .int .i64 sc.z] ∧ OwnC w' (.slice ca cn cc) sc.cols ∧ Newer (w1.drew.alloc (.cells #[.string ⟨#[]⟩, .slice none 0 0, .int .i64 0, .int .i64 0] 79)) (.slice ca cn cc) ∧ sc.cols.length ≤ 3) ((unhide CA2).mono (by rintro en w' ⟨r, o, ca, cn, cc, rfl, h1, h2, h3⟩; exact ⟨_, rfl, r, o, ca, cn, cc, rfl, h1, h2, h3⟩)) ?kB2
      case kB2 =>
      rintro _ w5 ⟨rX, o5, ca, cn, cc, rfl, hC5, hN5, hl5⟩
      have oW5 : Only q.S w1 w5 := oB.trans o5 (fun _ _ e => e)
      have S5 := unhide HSB w5 oW5
      refine ⟨S5, ?_⟩
      try simp only [Act.put, List.setIfInBounds_toArray, List.set_cons_zero, List.set_cons_succ]
      refine takeH 7 29 (v := ?vrB1) rfl rfl (by kernel_rfl) (by kernel_rfl) (by kernel_rfl) (fun _ _ _ h => h) (Or.inl ⟨by rfl, ?hrB1⟩) S5 ?rrB1
      case hrB1 => (intro w hSw; clear hSw; go_simp; (try with_reducible rfl))
      case rrB1 =>
      try simp only [Act.put, List.setIfInBounds_toArray, List.set_cons_zero, List.set_cons_succ]
      refine takeH 8 37 (v := ?vrB2) rfl rfl (by kernel_rfl) (by kernel_rfl) (by kernel_rfl) (fun _ _ _ h => h) (Or.inl ⟨by rfl, ?hrB2⟩) S5 ?rrB2
      case hrB2 => (intro w hSw; clear hSw; go_simp; (try with_reducible rfl))
      case rrB2 =>
      try simp only [Act.put, List.setIfInBounds_toArray, List.set_cons_zero, List.set_cons_succ]
      refine takeH 9 38 (v := ?vrB3) rfl rfl (by kernel_rfl) (by kernel_rfl) (by kernel_rfl) (fun _ _ _ h => h) (Or.inl ⟨by rfl, ?hrB3⟩) S5 ?rrB3
      case hrB3 => (intro w hSw; clear hSw; go_simp; (try with_reducible rfl))
      case rrB3 =>
      try simp only [Act.put, List.setIfInBounds_toArray, List.set_cons_zero, List.set_cons_succ]
      have hdz : w1.drew.heap.size = w1.heap.size := rfl
      have hBz : (w1.drew.alloc (.cells #[.string ⟨#[]⟩, .slice none 0 0, .int .i64 0, .int .i64 0] 79)).heap.size = w1.heap.size + 1 := by simp
      have hold : Has w5 w1.drew.heap.size #[.string ⟨#[]⟩, .slice none 0 0, .int .i64 0, .int .i64 0] 79 := (Has.new w1.drew #[.string ⟨#[]⟩, .slice none 0 0, .int .i64 0, .int .i64 0] 79).keep o5 (fun h => by have := (unhide HA).2.2.1.lts.1 _ (Gnd.S_A h); omega)
      have hC7 := hC5
      have nC : ∀ b, (Value.slice ca cn cc).ownBlock = some b → b = w1.drew.heap.size → False := fun b hb e => by have := hN5 b hb; omega
      have Q7 : QR q w5 k g x M K last := (unhide HA).2.2.1.turn rX oW5 (fun h => (unhide HA).2.2.1.off.1 (Gnd.S_A h)) (fun b hb => .inl hb)
      refine storeH_row 79 11 (by kernel_rfl) rfl rfl rfl _ _ rfl (w1.drew.heap.size) #[.string sc.nm, .slice ca cn cc, .int .i64 sc.pk, .int .i64 sc.ix] #[.string ⟨#[]⟩, .slice none 0 0, .int .i64 0, .int .i64 0] rfl rfl hold Tryz.sizeESch4 rfl (by kernel_rfl) ?_
      intro w7 hHas oS
      have o7 : Only q.S w1 w7 := (oW5).lateS oS (fun b (e : b = w1.drew.heap.size) => by rw [e]; omega)
      have S7 := unhide HSB w7 o7
      have hfin : ScqP q k g x M K last st.table w1 (.pointer (some ⟨w1.drew.heap.size, 0, none⟩)) (.int .i64 sc.z) w7 := by
        unfold ScqP
        rw [unhide HSC]
        refine ⟨w1.drew.heap.size, ca, cn, cc, rfl, rfl, by omega, hHas, hC7.keep oS (fun b hb (e : b = w1.drew.heap.size) => nC b hb e), fun b hb => by have := hN5 b hb; omega, Q7.keep oS (fun b hb (e : b = w1.drew.heap.size) => ?_), o7⟩
        have hm := (unhide HA).2.2.1.lts
        rcases hb with c | c | c | c
        · have := hm.1 _ c; omega
        · have := hm.2.1; omega
        · have := hm.2.2.1 _ c; omega
        · have := hm.2.2.2; omega
      refine ⟨S7, ?_⟩
      try simp only [Act.put, List.setIfInBounds_toArray, List.set_cons_zero, List.set_cons_succ]
      refine takeH 12 9 (v := ?vrB4) rfl rfl (by kernel_rfl) (by kernel_rfl) (by kernel_rfl) (fun _ _ _ h => h) (Or.inl ⟨by rfl, ?hrB4⟩) S7 ?rrB4
      case hrB4 => (intro w hSw; clear hSw; go_simp; (try with_reducible rfl))
      case rrB4 =>
      try simp only [Act.put, List.setIfInBounds_toArray, List.set_cons_zero, List.set_cons_succ]
      refine wpAnyH_done (by kernel_rfl) ?_ _
      have HE := hide hfin
      clear hfin hHas oS o5 rX hC5 hN5 hl5 hsb0 e0 t0 t1 tl kl CA1 CA2
      go_wp2_with fail
      go_meet
      exact unhide HE
  case rest =>
  obtain ⟨kb, ca, cn, cc, rfl, rfl, hkb, hHs, hOC, hCn, hQ, oW⟩ := hcut
  rw [unhide HSC] at hHs hOC ⊢
  have hz1 := (unhide HA).2.2.2.2.2
  have HT := hide ((unhide HA).1.keep oW ((unhide HAP).2.1 H (by have := (unhide HAP).1; omega)).S)
  have HRB := hide ((unhide HA).2.1.keep oW ((unhide HAP).2.1 (H + 1) (by have := (unhide HAP).1; omega)).S)
  have HSM := hide ((unhide HA).2.2.2.1.keep oW (fun b _ ha => ha.S))
  have HW := hide (show Only (fun b => q.S b ∨ K b ∨ b = k ∨ (S.cell 6).ownBlock = some b) w wc from ((unhide HA).2.2.2.2.1.mono (fun _ _ e => e.elim)).trans (oW.mono (T := fun b => q.S b ∨ K b ∨ b = k ∨ (S.cell 6).ownBlock = some b) (fun _ _ e => .inl e)) (fun _ _ e => e))
  have HQ := hide hQ
  have HC := hide (And.intro hHs (And.intro hOC (And.intro (show ∀ b, (Value.slice ca cn cc).ownBlock = some b → H + 2 ≤ b from fun b hb => by have := hCn b hb; omega) (show H + 2 ≤ kb by omega))))
  clear hkb hHs hOC hCn hQ oW hz1 hsb0 e0 t0 t1 tl kl CA1 CA2 HSB HA
  generalize wc = w2 at *
  have hfin : ∀ w8 w9, QR q w8 k g x RR.1 K pn → Only (fun b => q.S b ∨ K b ∨ b = k ∨ (S.cell 6).ownBlock = some b) w w8 → Only (fun b => b = H + 1) w8 w9 → QR q w9 k g x RR.1 K pn ∧ Only (fun b => q.S b ∨ K b ∨ b = k ∨ (S.cell 6).ownBlock = some b) w w9 := fun w8 w9 q8 o8 o9 => by
    have hm := (unhide HAP).2.2.1
    refine ⟨q8.keep o9 (fun b hb (e : b = H + 1) => ?_), o8.lateS o9 (fun b (e : b = H + 1) => by omega)⟩
    subst e
    rcases hb with c | c | c | c
    · have := hm.1 _ c; omega
    · have := hm.2.1; omega
    · have := hm.2.2.1 _ c; omega
    · have := hm.2.2.2; omega
  have HFIN := hide hfin
  clear hfin
  cases hf : findD M.com st.table with
  | none =>
    have hs10 : sc = ⟨⟨#[]⟩, [], 0, -1, 10⟩ := by rw [← unhide HSC]; unfold scqD; rw [hf]
    have hr : RR = (M, Rs.err 10) := by rw [← unhide HRR]; unfold runQ; rw [if_neg (by simpa using b7), hf]
    have hp : pn = last := by rw [← unhide HPN]; unfold plnR; rw [hf]
    have HR2 := hide (show RR.2 = Rs.err 10 by rw [hr])
    have HQx : Hid (QR q w2 k g x RR.1 K pn) := hide (by rw [hr, hp]; exact unhide HQ)
    have HRBx := HRB
    have HWx := HW
    rw [hs10]
    clear hf hs10 hr hp
    have CF := hide (sqfailE_any 10 w2)
    go_wp2_with fail
    refine (unhide CF).mono ?_
    rintro e w7 ⟨rfl, o7⟩
    have RB7 := (unhide HRBx).keep o7 (fun e => e)
    have HO7 := hide o7
    have r0 : w7.cell? ⟨H + 1, 0, none⟩ = some (.int .i64 0) := RB7.cell 0
    have r1 : w7.cell? ⟨H + 1, 1, none⟩ = some (.int .i64 0) := RB7.cell 1
    have r2 : w7.cell? ⟨H + 1, 2, none⟩ = some (.slice none 0 0) := RB7.cell 2
    have r3 : w7.cell? ⟨H + 1, 3, none⟩ = some (.slice none 0 0) := RB7.cell 3
    have rf0 := RB7.free 0
    have rf1 := RB7.free 1
    have rf2 := RB7.free 2
    have rf3 := RB7.free 3
    have rl := RB7.lt
    have H5 := has_setAll [.int .i64 10, .int .i64 0, .slice none 0 0, .slice none 0 0] RB7 rfl
    have O5 := only_setW (H + 1) [.int .i64 10, .int .i64 0, .slice none 0 0, .slice none 0 0] 0 w7
    have FF := hide (And.intro H5 (show RnP q w k g x lo (S.cell 6) K RR pn (.returned (.agg #[.int .i64 10, .int .i64 0, .slice none 0 0, .slice none 0 0])) (setW (H + 1) [.int .i64 10, .int .i64 0, .slice none 0 0, .slice none 0 0] 0 w7) from (by
      have f := unhide HFIN w7 _ ((unhide HQx).quiet (unhide HO7)) ((unhide HWx).trans ((unhide HO7).mono (fun _ _ e => e.elim)) (fun _ _ e => e)) O5
      have hr2 := unhide HR2
      refine ⟨none, 0, 0, none, 0, 0, K, by rw [hr2]; rfl, RsM.none_ (by rw [hr2]; rfl) (by rw [hr2]; rfl), (fun b hb => by cases hb), f.1, fun b hb => .inl hb, fun b hb hc => absurd hc ((unhide HAP).2.1 b hb).2.2.1, .inl ⟨rfl, rfl⟩, f.2⟩)))
    simp only [setW, Nat.zero_add, Nat.reduceAdd] at FF
    clear H5 O5
    clear CF o7 RB7
    go_wp2_with fail
    refine bodyPost_ret (sres_result rfl _ rfl (unhide FF).1 rfl) rfl ?_
    exact (unhide FF).2
  | some t =>
    have hsct : sc = ⟨t.nm, t.cols, (t.pk : Int), ixI t.ix, 0⟩ := by rw [← unhide HSC]; unfold scqD; rw [hf]
    obtain ⟨hgd, h4, hact, hse⟩ := inT_good (unhide HAP).2.2.2.2
    obtain ⟨u, hu, un, uc, up, ux⟩ := ((unhide HMU).tb s.toNat st.table h4).2 t hf
    rw [hsct] at HC ⊢
    simp only at HC ⊢
    have G := (unhide HMU).gs s.toNat h4
    have ok := G.tb u (findD_mem hu).1
    rw [← uc, ← up, ← ux] at HC
    have HUT := hide (And.intro uc (And.intro up ux))
    have hr : RR = runQ M s st := (unhide HRR).symm
    have hp : pn = plnR M st last := (unhide HPN).symm
    unfold runQ at hr
    rw [if_neg (by simpa using b7), hf] at hr
    simp only at hr
    rw [← uc, ← up] at hr
    have htE : tabE (M.see s.toNat) st.table = u := by unfold tabE; rw [hu]; rfl
    rw [htE] at hr
    unfold plnR at hp
    rw [hf] at hp
    simp only at hp
    rw [← uc, ← up, ← ux] at hp
    have HR := hide hr
    have HP := hide hp
    have HU := hide (And.intro hu ok)
    have Hcom := hide (show findD M.com st.table ≠ none by rw [hf]; simp)
    clear hf hsct hgd h4 hact hse un hr hp htE G uc up ux
    obtain ⟨tnm, htnm⟩ : ∃ x, t.nm = x := ⟨_, rfl⟩
    rw [htnm] at HC
    clear htnm
    have HCK : Hid (Calls Tryz.prog 171 #[.agg #[.string tnm, .slice ca cn cc, .int .i64 (u.pk : Int), .int .i64 (ixI u.ix)], .agg #[.int .i64 st.kind, .string st.table, .slice a2 st.defs.length c2, .int .i64 st.pk, .slice a4 st.lits.length c4, .bool st.star, .slice a6 st.list.length c6, .slice a7 st.sets.length c7, .slice a8 st.wh.length c8, .string st.order, .bool st.desc, .bool st.hasL, .int .i64 st.lim]] w2 fun e w' => e = .returned (.int .i64 (chkD u.cols (u.pk : Int) st)) ∧ Only (fun _ => False) w2 w') := hide (by have h := sqcheck_any (tn := tnm) (pk := (u.pk : Int)) (ix := ixI u.ix) (unhide HC).2.1 (by have := (unhide HU).2.n3; omega) (unhide HSM).l (unhide HSM).o (unhide HOK).2.1; unfold schU at h; rw [(unhide HCS).1] at h; exact h)
    have t0 : w2.cell? ⟨H, 0, none⟩ = some (.int .i64 st.kind) := (unhide HT).cell 0
    have t1 : w2.cell? ⟨H, 1, none⟩ = some (.string st.table) := (unhide HT).cell 1
    have t2 : w2.cell? ⟨H, 2, none⟩ = some (.slice a2 st.defs.length c2) := (unhide HT).cell 2
    have t3 : w2.cell? ⟨H, 3, none⟩ = some (.int .i64 st.pk) := (unhide HT).cell 3
    have t4 : w2.cell? ⟨H, 4, none⟩ = some (.slice a4 st.lits.length c4) := (unhide HT).cell 4
    have t5 : w2.cell? ⟨H, 5, none⟩ = some (.bool st.star) := (unhide HT).cell 5
    have t6 : w2.cell? ⟨H, 6, none⟩ = some (.slice a6 st.list.length c6) := (unhide HT).cell 6
    have t7 : w2.cell? ⟨H, 7, none⟩ = some (.slice a7 st.sets.length c7) := (unhide HT).cell 7
    have t8 : w2.cell? ⟨H, 8, none⟩ = some (.slice a8 st.wh.length c8) := (unhide HT).cell 8
    have t9 : w2.cell? ⟨H, 9, none⟩ = some (.string st.order) := (unhide HT).cell 9
    have t10 : w2.cell? ⟨H, 10, none⟩ = some (.bool st.desc) := (unhide HT).cell 10
    have t11 : w2.cell? ⟨H, 11, none⟩ = some (.bool st.hasL) := (unhide HT).cell 11
    have t12 : w2.cell? ⟨H, 12, none⟩ = some (.int .i64 st.lim) := (unhide HT).cell 12
    have tl := (unhide HT).lt
    have s0 : w2.cell? ⟨kb, 0, none⟩ = some (.string tnm) := (unhide HC).1.cell 0
    have s1 : w2.cell? ⟨kb, 1, none⟩ = some (.slice ca cn cc) := (unhide HC).1.cell 1
    have s2 : w2.cell? ⟨kb, 2, none⟩ = some (.int .i64 (u.pk : Int)) := (unhide HC).1.cell 2
    have s3 : w2.cell? ⟨kb, 3, none⟩ = some (.int .i64 (ixI u.ix)) := (unhide HC).1.cell 3
    have sl := (unhide HC).1.lt
    obtain ⟨cz, hcz⟩ : ∃ z, chkD u.cols (u.pk : Int) st = z := ⟨_, rfl⟩
    rw [hcz] at HCK
    have HCZ := hide hcz
    clear hcz
    go_wp2_with fail
    refine (unhide HCK).mono ?_
    rintro e w3 ⟨rfl, o3⟩
    have HT3 := hide ((unhide HT).keep o3 (fun e => e))
    have HRBx := hide ((unhide HRB).keep o3 (fun e => e))
    have HSM3 := hide ((unhide HSM).quiet o3)
    have HWx := hide (show Only (fun b => q.S b ∨ K b ∨ b = k ∨ (S.cell 6).ownBlock = some b) w w3 from (unhide HW).trans (o3.mono (fun _ _ e => e.elim)) (fun _ _ e => e))
    have HQ3 := hide ((unhide HQ).quiet o3)
    have HC3 := hide (And.intro ((unhide HC).1.keep o3 (fun e => e)) (And.intro ((unhide HC).2.1.keep o3 (fun _ _ e => e)) (unhide HC).2.2))
    clear t0 t1 t2 t3 t4 t5 t6 t7 t8 t9 t10 t11 t12 tl s0 s1 s2 s3 sl HCK o3 HT HRB HSM HW HQ HC
    by_cases h0 : cz = 0
    case neg =>
      have bz : (cz != 0) = true := by simpa using h0
      have hr := unhide HR
      rw [unhide HCZ, if_pos h0] at hr
      have hp := unhide HP
      rw [unhide HCZ, if_pos h0] at hp
      have HR2 := hide (show RR.2 = Rs.err cz by rw [hr])
      have HQx : Hid (QR q w3 k g x RR.1 K pn) := hide (by rw [hr, hp]; exact unhide HQ3)
      clear hr hp h0
      have CF := hide (sqfailE_any cz w3)
      go_wp2_with fail
      refine (unhide CF).mono ?_
      rintro e w7 ⟨rfl, o7⟩
      have RB7 := (unhide HRBx).keep o7 (fun e => e)
      have HO7 := hide o7
      have r0 : w7.cell? ⟨H + 1, 0, none⟩ = some (.int .i64 0) := RB7.cell 0
      have r1 : w7.cell? ⟨H + 1, 1, none⟩ = some (.int .i64 0) := RB7.cell 1
      have r2 : w7.cell? ⟨H + 1, 2, none⟩ = some (.slice none 0 0) := RB7.cell 2
      have r3 : w7.cell? ⟨H + 1, 3, none⟩ = some (.slice none 0 0) := RB7.cell 3
      have rf0 := RB7.free 0
      have rf1 := RB7.free 1
      have rf2 := RB7.free 2
      have rf3 := RB7.free 3
      have rl := RB7.lt
      have H5 := has_setAll [.int .i64 cz, .int .i64 0, .slice none 0 0, .slice none 0 0] RB7 rfl
      have O5 := only_setW (H + 1) [.int .i64 cz, .int .i64 0, .slice none 0 0, .slice none 0 0] 0 w7
      have FF := hide (And.intro H5 (show RnP q w k g x lo (S.cell 6) K RR pn (.returned (.agg #[.int .i64 cz, .int .i64 0, .slice none 0 0, .slice none 0 0])) (setW (H + 1) [.int .i64 cz, .int .i64 0, .slice none 0 0, .slice none 0 0] 0 w7) from (by
        have f := unhide HFIN w7 _ ((unhide HQx).quiet (unhide HO7)) ((unhide HWx).trans ((unhide HO7).mono (fun _ _ e => e.elim)) (fun _ _ e => e)) O5
        have hr2 := unhide HR2
        refine ⟨none, 0, 0, none, 0, 0, K, by rw [hr2]; rfl, RsM.none_ (by rw [hr2]; rfl) (by rw [hr2]; rfl), (fun b hb => by cases hb), f.1, fun b hb => .inl hb, fun b hb hc => absurd hc ((unhide HAP).2.1 b hb).2.2.1, .inl ⟨rfl, rfl⟩, f.2⟩)))
      simp only [setW, Nat.zero_add, Nat.reduceAdd] at FF
      clear H5 O5
      clear CF o7 RB7
      go_wp2_with fail
      refine bodyPost_ret (sres_result rfl _ rfl (unhide FF).1 rfl) rfl ?_
      exact (unhide FF).2
    subst h0
    have hr := unhide HR
    rw [unhide HCZ, if_neg (fun c => c rfl)] at hr
    have hp := unhide HP
    rw [unhide HCZ, if_neg (fun c => c rfl)] at hp
    have hwh := chk_wh (unhide HCZ)
    have hW : WhOk u.cols st.wh := fun c hc => ⟨((unhide HOK).1.wh c hc).1, ((unhide HOK).1.wh c hc).2, (hwh c hc).1, (hwh c hc).2⟩
    have CF : Calls Tryz.prog 172 #[.pointer (some ⟨k, 0, none⟩), .int .i64 s, .agg #[.string tnm, .slice ca cn cc, .int .i64 (u.pk : Int), .int .i64 (ixI u.ix)], .agg #[.int .i64 st.kind, .string st.table, .slice a2 st.defs.length c2, .int .i64 st.pk, .slice a4 st.lits.length c4, .bool st.star, .slice a6 st.list.length c6, .slice a7 st.sets.length c7, .slice a8 st.wh.length c8, .string st.order, .bool st.desc, .bool st.hasL, .int .i64 st.lim]] w3 (FtP q w3 k g x M K s st.table (planD u.cols (u.pk : Int) (ixI u.ix) st.wh).kind (hitD u st.wh)) := by have h := sqfetch_any (tn := tnm) (unhide HQ3) (unhide HAP).2.2.2.2 (unhide Hcom) (unhide HU).1 (unhide HU).2 (unhide HC3).2.1 (fun b hb => (unhide HAP).2.1 b (by have := (unhide HC3).2.2.1 b hb; have := (unhide HAP).1; omega)) (unhide HSM3) hW (unhide HOK).2.1.wh; unfold schU at h; rw [(unhide HCS).1] at h; exact h
    rw [← hp] at CF
    have CF := hide CF
    have Hr := hide hr
    clear hr hp hwh hW
    have t0 : w3.cell? ⟨H, 0, none⟩ = some (.int .i64 st.kind) := (unhide HT3).cell 0
    have t1 : w3.cell? ⟨H, 1, none⟩ = some (.string st.table) := (unhide HT3).cell 1
    have t2 : w3.cell? ⟨H, 2, none⟩ = some (.slice a2 st.defs.length c2) := (unhide HT3).cell 2
    have t3 : w3.cell? ⟨H, 3, none⟩ = some (.int .i64 st.pk) := (unhide HT3).cell 3
    have t4 : w3.cell? ⟨H, 4, none⟩ = some (.slice a4 st.lits.length c4) := (unhide HT3).cell 4
    have t5 : w3.cell? ⟨H, 5, none⟩ = some (.bool st.star) := (unhide HT3).cell 5
    have t6 : w3.cell? ⟨H, 6, none⟩ = some (.slice a6 st.list.length c6) := (unhide HT3).cell 6
    have t7 : w3.cell? ⟨H, 7, none⟩ = some (.slice a7 st.sets.length c7) := (unhide HT3).cell 7
    have t8 : w3.cell? ⟨H, 8, none⟩ = some (.slice a8 st.wh.length c8) := (unhide HT3).cell 8
    have t9 : w3.cell? ⟨H, 9, none⟩ = some (.string st.order) := (unhide HT3).cell 9
    have t10 : w3.cell? ⟨H, 10, none⟩ = some (.bool st.desc) := (unhide HT3).cell 10
    have t11 : w3.cell? ⟨H, 11, none⟩ = some (.bool st.hasL) := (unhide HT3).cell 11
    have t12 : w3.cell? ⟨H, 12, none⟩ = some (.int .i64 st.lim) := (unhide HT3).cell 12
    have tl := (unhide HT3).lt
    have s0 : w3.cell? ⟨kb, 0, none⟩ = some (.string tnm) := (unhide HC3).1.cell 0
    have s1 : w3.cell? ⟨kb, 1, none⟩ = some (.slice ca cn cc) := (unhide HC3).1.cell 1
    have s2 : w3.cell? ⟨kb, 2, none⟩ = some (.int .i64 (u.pk : Int)) := (unhide HC3).1.cell 2
    have s3 : w3.cell? ⟨kb, 3, none⟩ = some (.int .i64 (ixI u.ix)) := (unhide HC3).1.cell 3
    have sl := (unhide HC3).1.lt
    obtain ⟨tk, htk⟩ : ∃ z, M.tkE s st.table 1 = z := ⟨_, rfl⟩
    have Htk := hide htk
    have HTK := hide (tk_or (mode := 1) (unhide HAP).2.2.2.2 (unhide Hcom))
    rw [htk] at HTK
    clear htk
    go_wp2_with fail
    refine (unhide CF).mono ?_
    rintro e w4 ⟨ra, rn, rc, Z, rfl, hR, hZ, hQ4, o4⟩
    rw [unhide Htk] at hZ hQ4 ⊢
    have nA : ∀ b, lo ≤ b → ¬ (q.S b ∨ K b ∨ b = k) := fun b hb => ((unhide HAP).2.1 b hb).SKk
    have hlo := (unhide HAP).1
    have HT4 := hide ((unhide HT3).keep o4 (nA H (by omega)))
    have HRB4 := hide ((unhide HRBx).keep o4 (nA (H + 1) (by omega)))
    have HSM4 := hide ((unhide HSM3).keep o4 (fun b _ ha => ha.SKk))
    have HW4 := hide (show Only (fun b => q.S b ∨ K b ∨ b = k ∨ (S.cell 6).ownBlock = some b) w w4 from (unhide HWx).trans (o4.mono (T := fun b => q.S b ∨ K b ∨ b = k ∨ (S.cell 6).ownBlock = some b) (fun b _ e => e.imp id (fun e => e.imp id .inl))) (fun _ _ e => e))
    have HC4 := hide (And.intro ((unhide HC3).1.keep o4 (nA kb (by have := (unhide HC3).2.2.2; omega))) (And.intro ((unhide HC3).2.1.keep o4 (fun b hb => nA b (by have := (unhide HC3).2.2.1 b hb; omega))) (unhide HC3).2.2))
    have hz3 : H ≤ w3.heap.size := by have := (unhide HT3).lt; omega
    have HR4 := hide (And.intro (hR.lower hz3) (And.intro hZ hQ4))
    clear t0 t1 t2 t3 t4 t5 t6 t7 t8 t9 t10 t11 t12 tl s0 s1 s2 s3 sl CF o4 HT3 HRBx HSM3 HWx HQ3 HC3 hR hZ hQ4 nA hlo hz3
    rcases unhide HTK with h0 | h0
    case inr =>
      subst h0
      have hr := unhide Hr
      rw [unhide Htk, if_pos (by omega)] at hr
      have HR2 := hide (show RR.2 = Rs.err 21 by rw [hr])
      have HQx : Hid (QR q w4 k g x RR.1 K pn) := hide (by have h := (unhide HR4).2.2; rw [if_neg (by omega)] at h; rw [hr]; exact h)
      have HRBx := HRB4
      have HWx := HW4
      clear hr
      have CF := hide (sqfailE_any 21 w4)
      go_wp2_with fail
      refine (unhide CF).mono ?_
      rintro e w7 ⟨rfl, o7⟩
      have RB7 := (unhide HRBx).keep o7 (fun e => e)
      have HO7 := hide o7
      have r0 : w7.cell? ⟨H + 1, 0, none⟩ = some (.int .i64 0) := RB7.cell 0
      have r1 : w7.cell? ⟨H + 1, 1, none⟩ = some (.int .i64 0) := RB7.cell 1
      have r2 : w7.cell? ⟨H + 1, 2, none⟩ = some (.slice none 0 0) := RB7.cell 2
      have r3 : w7.cell? ⟨H + 1, 3, none⟩ = some (.slice none 0 0) := RB7.cell 3
      have rf0 := RB7.free 0
      have rf1 := RB7.free 1
      have rf2 := RB7.free 2
      have rf3 := RB7.free 3
      have rl := RB7.lt
      have H5 := has_setAll [.int .i64 21, .int .i64 0, .slice none 0 0, .slice none 0 0] RB7 rfl
      have O5 := only_setW (H + 1) [.int .i64 21, .int .i64 0, .slice none 0 0, .slice none 0 0] 0 w7
      have FF := hide (And.intro H5 (show RnP q w k g x lo (S.cell 6) K RR pn (.returned (.agg #[.int .i64 21, .int .i64 0, .slice none 0 0, .slice none 0 0])) (setW (H + 1) [.int .i64 21, .int .i64 0, .slice none 0 0, .slice none 0 0] 0 w7) from (by
        have f := unhide HFIN w7 _ ((unhide HQx).quiet (unhide HO7)) ((unhide HWx).trans ((unhide HO7).mono (fun _ _ e => e.elim)) (fun _ _ e => e)) O5
        have hr2 := unhide HR2
        refine ⟨none, 0, 0, none, 0, 0, K, by rw [hr2]; rfl, RsM.none_ (by rw [hr2]; rfl) (by rw [hr2]; rfl), (fun b hb => by cases hb), f.1, fun b hb => .inl hb, fun b hb hc => absurd hc ((unhide HAP).2.1 b hb).2.2.1, .inl ⟨rfl, rfl⟩, f.2⟩)))
      simp only [setW, Nat.zero_add, Nat.reduceAdd] at FF
      clear H5 O5
      clear CF o7 RB7
      go_wp2_with fail
      refine bodyPost_ret (sres_result rfl _ rfl (unhide FF).1 rfl) rfl ?_
      exact (unhide FF).2
    subst h0
    have hr := unhide Hr
    rw [unhide Htk, if_neg (fun c => c rfl)] at hr
    have hk := (unhide HOK).2.2
    have HZ := hide (show Z.map (·.2) = hitD u st.wh ∧ QR q w4 k g x (M.setL s.toNat st.table 1) K pn from ⟨by have h := (unhide HR4).2.1; rw [if_pos rfl] at h; exact h, by have h := (unhide HR4).2.2; rw [if_pos rfl] at h; exact h⟩)
    have hsub : (hitD u st.wh).Sublist u.rows := List.filter_sublist
    have hz8 : Z.length ≤ 8 := by have e := congrArg List.length (unhide HZ).1; rw [List.length_map] at e; rw [e]; exact Nat.le_trans hsub.length_le (unhide HU).2.len
    have hrow : ∀ z ∈ Z, z.2.length = u.cols.length := fun z hz => by have h2 : z.2 ∈ hitD u st.wh := by { rw [← (unhide HZ).1]; exact List.mem_map.mpr ⟨z, hz, rfl⟩ }; exact ((unhide HU).2.row _ (hsub.subset h2)).len
    have hcc := chk_cols (unhide HCZ)
    have hss := chk_sets (unhide HCZ)
    have t0 : w4.cell? ⟨H, 0, none⟩ = some (.int .i64 st.kind) := (unhide HT4).cell 0
    have t1 : w4.cell? ⟨H, 1, none⟩ = some (.string st.table) := (unhide HT4).cell 1
    have t2 : w4.cell? ⟨H, 2, none⟩ = some (.slice a2 st.defs.length c2) := (unhide HT4).cell 2
    have t3 : w4.cell? ⟨H, 3, none⟩ = some (.int .i64 st.pk) := (unhide HT4).cell 3
    have t4 : w4.cell? ⟨H, 4, none⟩ = some (.slice a4 st.lits.length c4) := (unhide HT4).cell 4
    have t5 : w4.cell? ⟨H, 5, none⟩ = some (.bool st.star) := (unhide HT4).cell 5
    have t6 : w4.cell? ⟨H, 6, none⟩ = some (.slice a6 st.list.length c6) := (unhide HT4).cell 6
    have t7 : w4.cell? ⟨H, 7, none⟩ = some (.slice a7 st.sets.length c7) := (unhide HT4).cell 7
    have t8 : w4.cell? ⟨H, 8, none⟩ = some (.slice a8 st.wh.length c8) := (unhide HT4).cell 8
    have t9 : w4.cell? ⟨H, 9, none⟩ = some (.string st.order) := (unhide HT4).cell 9
    have t10 : w4.cell? ⟨H, 10, none⟩ = some (.bool st.desc) := (unhide HT4).cell 10
    have t11 : w4.cell? ⟨H, 11, none⟩ = some (.bool st.hasL) := (unhide HT4).cell 11
    have t12 : w4.cell? ⟨H, 12, none⟩ = some (.int .i64 st.lim) := (unhide HT4).cell 12
    have tl := (unhide HT4).lt
    have s0 : w4.cell? ⟨kb, 0, none⟩ = some (.string tnm) := (unhide HC4).1.cell 0
    have s1 : w4.cell? ⟨kb, 1, none⟩ = some (.slice ca cn cc) := (unhide HC4).1.cell 1
    have s2 : w4.cell? ⟨kb, 2, none⟩ = some (.int .i64 (u.pk : Int)) := (unhide HC4).1.cell 2
    have s3 : w4.cell? ⟨kb, 3, none⟩ = some (.int .i64 (ixI u.ix)) := (unhide HC4).1.cell 3
    have sl := (unhide HC4).1.lt
    by_cases h8 : st.kind = 8
    · have b8 : (st.kind == 8) = true := by simp [h8]
      rw [if_pos h8] at hr
      have CP : Calls Tryz.prog 173 #[.agg #[.string tnm, .slice ca cn cc, .int .i64 (u.pk : Int), .int .i64 (ixI u.ix)], .agg #[.int .i64 st.kind, .string st.table, .slice a2 st.defs.length c2, .int .i64 st.pk, .slice a4 st.lits.length c4, .bool st.star, .slice a6 st.list.length c6, .slice a7 st.sets.length c7, .slice a8 st.wh.length c8, .string st.order, .bool st.desc, .bool st.hasL, .int .i64 st.lim], .slice ra rn rc] w4 (PjP w4 (.slice ra rn rc) (.slice a6 st.list.length c6) (prjD u.cols st (hitD u st.wh))) := by have h := sqproject_any (tn := tnm) (pk := (u.pk : Int)) (ix := ixI u.ix) (unhide HC4).2.1 (unhide HU).2.n3 (unhide HSM4).l (unhide HSM4).o (unhide HR4).1 hz8 hrow hcc.2.2.2 hcc.2.2.1 (unhide HOK).2.1.list; unfold schU at h; rw [(unhide HCS).1, (unhide HCS).2, (unhide HZ).1] at h; exact h
      have hr2 : RR.2 = prjD u.cols st (hitD u st.wh) := by rw [hr]
      have hr1 : RR.1 = M.setL s.toNat st.table 1 := by rw [hr]
      rw [← hr2] at CP
      have CP := hide CP
      have Hr1 := hide hr1
      clear hr hr1 hr2 h8 hz8 hrow hcc hss hsub hk
      go_wp2_with fail
      refine (unhide CP).mono ?_
      rintro e w5 ⟨na, nn, nc, ya, yn, yc, rfl, hM5, hb5, o5⟩
      have hp6 := (unhide HAP).2.2.2.1 6 (by unfold sqj; omega)
      rw [(unhide HCS).2] at hp6
      have hz4 : lo ≤ w4.heap.size := by have := (unhide HRB4).lt; have := (unhide HAP).1; omega
      have nR : ∀ b, ((Value.slice ra rn rc).ownBlock = some b ∨ (Value.slice a6 st.list.length c6).ownBlock = some b) → lo ≤ b ∧ b ≠ H + 1 := fun b hb => by
        rcases hb with h | h
        · exact ⟨by have := (unhide HR4).1.nb b h; have := (unhide HAP).1; omega, ownsRow_ne (unhide HR4).1.own (unhide HRB4) (by decide) b h⟩
        · refine ⟨hp6 b h, fun e => ?_⟩
          have h6 := (unhide HSM4).l.own 6 (by unfold sqj; omega)
          rw [(unhide HCS).2] at h6
          exact ownsRow_ne h6 (unhide HRB4) (by decide) b h e
      have RB5 := (unhide HRB4).keep o5 (fun h => (nR _ h).2 rfl)
      have Q5 : QR q w5 k g x RR.1 K pn := by rw [unhide Hr1]; exact (unhide HZ).2.keep o5 (fun b hb h => by
          have ha := (unhide HAP).2.1 b (nR b h).1
          rcases hb with c | c | c | c
          · exact ha.1 c
          · exact ha.2.1 c
          · exact ha.2.2.1 c
          · exact ha.2.2.2 c)
      have W5 : Only (fun b => q.S b ∨ K b ∨ b = k ∨ (S.cell 6).ownBlock = some b) w w5 := (unhide HW4).trans o5 (fun b hl h => h.elim (fun h => by have := (unhide HR4).1.nb b h; omega) (fun h => .inr (.inr (.inr (by rw [(unhide HCS).2]; exact h)))))
      have HF5 := hide (And.intro Q5 (And.intro W5 (And.intro (show RsM lo w5 (.slice na nn nc) (.slice ya yn yc) RR.2 from ⟨hM5.cn, hM5.rl.elim (fun Y h => ⟨Y, h.1.lower hz4, h.2⟩)⟩) (And.intro (show ∀ b, (Value.slice na nn nc).ownBlock = some b → lo ≤ b from fun b hb => (hb5 b hb).elim (hp6 b) (fun h => by omega)) (ownsRow_ne hM5.cn RB5 (by decide))))))
      have r0 : w5.cell? ⟨H + 1, 0, none⟩ = some (.int .i64 0) := RB5.cell 0
      have r1 : w5.cell? ⟨H + 1, 1, none⟩ = some (.int .i64 0) := RB5.cell 1
      have r2 : w5.cell? ⟨H + 1, 2, none⟩ = some (.slice none 0 0) := RB5.cell 2
      have r3 : w5.cell? ⟨H + 1, 3, none⟩ = some (.slice none 0 0) := RB5.cell 3
      have rf0 := RB5.free 0
      have rf1 := RB5.free 1
      have rf2 := RB5.free 2
      have rf3 := RB5.free 3
      have rl := RB5.lt
      have HRB5 := hide RB5
      have H5 := has_setAll [.int .i64 RR.2.e, .int .i64 RR.2.n, .slice na nn nc, .slice ya yn yc] RB5 rfl
      have O5 := only_setW (H + 1) [.int .i64 RR.2.e, .int .i64 RR.2.n, .slice na nn nc, .slice ya yn yc] 0 w5
      have FF := hide (And.intro H5 (show RnP q w k g x lo (S.cell 6) K RR pn (.returned (.agg #[.int .i64 RR.2.e, .int .i64 RR.2.n, .slice na nn nc, .slice ya yn yc])) (setW (H + 1) [.int .i64 RR.2.e, .int .i64 RR.2.n, .slice na nn nc, .slice ya yn yc] 0 w5) from (by
        have f5 := unhide HF5
        have f := unhide HFIN w5 _ f5.1 f5.2.1 O5
        refine ⟨na, nn, nc, ya, yn, yc, K, rfl, ⟨ownsRow_keep f5.2.2.1.cn O5 (fun b hb (e : b = H + 1) => f5.2.2.2.2 b hb e), ?_⟩, f5.2.2.2.1, f.1, fun b hb => .inl hb, fun b hb hc => absurd hc ((unhide HAP).2.1 b hb).2.2.1, .inr rfl, f.2⟩
        obtain ⟨Y, h1, h2⟩ := f5.2.2.1.rl
        exact ⟨Y, h1.keep O5 (fun b hb (e : b = H + 1) => ownsRow_ne h1.own (unhide HRB5) (by decide) b hb e) (fun z hz b hb (e : b = H + 1) => ownsRow_ne (h1.row z hz).1 (unhide HRB5) (by decide) b hb e), h2⟩)))
      simp only [setW, Nat.zero_add, Nat.reduceAdd] at FF
      clear H5 O5
      clear t0 t1 t2 t3 t4 t5 t6 t7 t8 t9 t10 t11 t12 tl s0 s1 s2 s3 sl CP Q5 W5 nR hM5 hb5 o5 hp6 hz4 RB5
      go_wp2_with fail
      refine bodyPost_ret (sres_result rfl _ rfl (unhide FF).1 rfl) rfl ?_
      exact (unhide FF).2
    · have b8 : (st.kind == 8) = false := by simp [h8]
      rw [if_neg h8] at hr
      have hset : SetOk u.cols u.pk st.sets := fun c hc => ⟨⟨((unhide HOK).1.sets c hc).2, (hss c hc).2.2.2⟩, (hss c hc).1, (hss c hc).2.1, (hss c hc).2.2.1⟩
      have hc1 : RR = chgQ (M.setL s.toNat st.table 1) s st u (hitD u st.wh) := by
        rw [hr, chgD_congr (unhide HUT).1.symm (unhide HUT).2.1.symm]
        unfold chgQ
        rfl
      have hz4 : lo ≤ w4.heap.size := by have := (unhide HRB4).lt; have := (unhide HAP).1; omega
      have CP : Calls Tryz.prog 174 #[.pointer (some ⟨k, 0, none⟩), .int .i64 s, .agg #[.string tnm, .slice ca cn cc, .int .i64 (u.pk : Int), .int .i64 (ixI u.ix)], .agg #[.int .i64 st.kind, .string st.table, .slice a2 st.defs.length c2, .int .i64 st.pk, .slice a4 st.lits.length c4, .bool st.star, .slice a6 st.list.length c6, .slice a7 st.sets.length c7, .slice a8 st.wh.length c8, .string st.order, .bool st.desc, .bool st.hasL, .int .i64 st.lim], .slice ra rn rc] w4 (ChP q w4 k g x Z K pn RR) := by have h := sqchange_any (tn := tnm) (ix := ixI u.ix) (unhide HZ).2 (unhide HAP).2.2.2.2 (unhide Hcom) (unhide HU).1 (unhide HC4).2.1 (fun b hb => (unhide HAP).2.1 b (by have := (unhide HC4).2.2.1 b hb; have := (unhide HAP).1; omega)) (unhide HSM4) hset (unhide HOK).2.1.sets ((unhide HR4).1.lower (lo' := lo) (by have := (unhide HAP).1; omega)) (unhide HZ).1 (unhide HAP).2.1 hz4; unfold schU at h; rw [(unhide HCS).1, ← hc1] at h; exact h
      have CP := hide CP
      have Hz4 := hide hz4
      clear hr hc1 h8 hz8 hrow hcc hss hsub hk hset hz4
      go_wp2_with fail
      refine (unhide CP).mono ?_
      rintro e w5 ⟨rfl, hc5, hr5, K', hQ5, hK5, o5⟩
      have hHl := (unhide HRB4).lt
      have hZb : ∀ b, Zb Z b → H ≤ b ∧ b ≠ H + 1 := fun b ⟨z, hz, hb⟩ => ⟨((unhide HR4).1.row z hz).2 b hb, ownsRow_ne ((unhide HR4).1.row z hz).1 (unhide HRB4) (by decide) b hb⟩
      have hl := (unhide HAP).1
      have RB5 := (unhide HRB4).keep o5 (fun h => h.elim (fun h => ((unhide HAP).2.1 _ (by omega)).S h) (fun h => h.elim (fun h => ((unhide HAP).2.1 _ (by omega)).2.2.1 h) (fun h => (hZb _ h).2 rfl)))
      have W5 : Only (fun b => q.S b ∨ K b ∨ b = k ∨ (S.cell 6).ownBlock = some b) w w5 := (unhide HW4).trans o5 (fun b hl h => h.imp id (fun h => h.imp id (fun h => by have := (hZb b h).1; omega)))
      have hK2 : ∀ b, K' b → K b ∨ H + 2 ≤ b := fun b hb => (hK5 b hb).imp id (fun h => by omega)
      have HD := hide (And.intro hQ5 (And.intro hK2 (And.intro hc5 (And.intro hr5 W5))))
      have r0 : w5.cell? ⟨H + 1, 0, none⟩ = some (.int .i64 0) := RB5.cell 0
      have r1 : w5.cell? ⟨H + 1, 1, none⟩ = some (.int .i64 0) := RB5.cell 1
      have r2 : w5.cell? ⟨H + 1, 2, none⟩ = some (.slice none 0 0) := RB5.cell 2
      have r3 : w5.cell? ⟨H + 1, 3, none⟩ = some (.slice none 0 0) := RB5.cell 3
      have rf0 := RB5.free 0
      have rf1 := RB5.free 1
      have rf2 := RB5.free 2
      have rf3 := RB5.free 3
      have rl := RB5.lt
      have H5 := has_setAll [.int .i64 RR.2.e, .int .i64 RR.2.n, .slice none 0 0, .slice none 0 0] RB5 rfl
      have O5 := only_setW (H + 1) [.int .i64 RR.2.e, .int .i64 RR.2.n, .slice none 0 0, .slice none 0 0] 0 w5
      have FF := hide (And.intro H5 (show RnP q w k g x lo (S.cell 6) K RR pn (.returned (.agg #[.int .i64 RR.2.e, .int .i64 RR.2.n, .slice none 0 0, .slice none 0 0])) (setW (H + 1) [.int .i64 RR.2.e, .int .i64 RR.2.n, .slice none 0 0, .slice none 0 0] 0 w5) from (by
        obtain ⟨d1, d2, d3, d4, d5⟩ := unhide HD
        have hm := (unhide HAP).2.2.1
        refine ⟨none, 0, 0, none, 0, 0, K', rfl, RsM.none_ d3 d4, (fun b hb => by cases hb), d1.keep O5 (fun b hb (e : b = H + 1) => ?_), fun b hb => (d2 b hb).imp id (fun h => by omega), fun b hb hc => (d2 b hc).elim (fun c => absurd c ((unhide HAP).2.1 b hb).2.2.1) (fun h => by omega), .inl ⟨rfl, rfl⟩, d5.lateS O5 (fun b (e : b = H + 1) => by omega)⟩
        subst e
        rcases hb with c | c | c | c
        · have := hm.1 _ c; omega
        · have := hm.2.1; omega
        · exact (d2 _ c).elim (fun c => by have := hm.2.2.1 _ c; omega) (fun c => by omega)
        · have := hm.2.2.2; omega)))
      simp only [setW, Nat.zero_add, Nat.reduceAdd] at FF
      clear H5 O5
      clear t0 t1 t2 t3 t4 t5 t6 t7 t8 t9 t10 t11 t12 tl s0 s1 s2 s3 sl CP hQ5 hK5 hc5 hr5 o5 RB5 W5 hK2 hZb
      go_wp2_with fail
      refine bodyPost_ret (sres_result rfl _ rfl (unhide FF).1 rfl) rfl ?_
      exact (unhide FF).2
end
end Go.Proofs.Qxb6500412aGreat
