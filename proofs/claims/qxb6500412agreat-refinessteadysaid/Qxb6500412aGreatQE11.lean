/-
  OWN WORK. QUERY's MODEL: run: UPDATE (written by tools/gen_qe8.py).
-/
import Derived.Test.Qxb6500412aGreatQE8
namespace Go.Proofs.Qxb6500412aGreat
open Go.RowKit Go.PlainAid
set_option linter.unusedSimpArgs false
set_option linter.unusedVariables false

section
variable {w w' : World} {k q lo : Nat} {M : Mu} {H : Nat → Prop} {s : Int} {S : Sq} {st : St} {m : Ms}
set_option maxRecDepth 100000 in
set_option maxHeartbeats 32000000 in
theorem smrun_upd (E : ME w k q M H) (ok : MuOk M) (mq : MuQ M) (hin : M.inT s = 0) (hL : SML lo w S) (hO : SmOf S m) (hm : m = Ms.of st) (hk : st.kind = 9) (hs0 : st.list = [] ∧ st.lits = []) (hstar : st.star = true → st.list = []) (hB : StB st) (hok : StOk st) (hsg : ∀ c ∈ st.wh, okSg c.op) (hlo : lo ≤ w.heap.size) (hap : ∀ j, smj j → ∀ b, (S.cell j).ownBlock = some b → ¬ H b) : Calls Tryz.prog 191 #[.pointer (some ⟨k, 0, none⟩), .int .i64 s, .agg (tabV 12 S.cell)] w (MnP w k q lo H (runQ M s st)) := by
  obtain ⟨i0, hi0, hz0, hz1, hz2⟩ := info_parts Tryz.infoEVals
  obtain ⟨a2, n2, c2, a4, n4, c4, a5, n5, c5, a7, n7, c7, hcs⟩ := hO.cells_ hL
  have x4 := hL.own 4 (by unfold smj; omega)
  have q4 : S.cell 4 = .slice a4 n4 c4 := by
    have := congrArg (·[4]?) hcs
    simpa [tabV_get] using this
  have p4 := hL.new 4 (by unfold smj; omega)
  have ap4 := hap 4 (by unfold smj; omega)
  rw [q4] at p4 ap4
  rw [q4, hO.x4.1, hO.x4.2] at x4
  have x4 : OwnN w (.slice a4 n4 c4) m.names := x4
  have e4 : n4 = m.names.length := by obtain ⟨_, _, e⟩ := ownsRow_shape x4; cases e; rfl
  subst e4
  have x5 := hL.own 5 (by unfold smj; omega)
  have q5 : S.cell 5 = .slice a5 n5 c5 := by
    have := congrArg (·[5]?) hcs
    simpa [tabV_get] using this
  have p5 := hL.new 5 (by unfold smj; omega)
  have ap5 := hap 5 (by unfold smj; omega)
  rw [q5] at p5 ap5
  rw [q5, hO.x5.1, hO.x5.2] at x5
  have x5 : OwnV w (.slice a5 n5 c5) m.vals := x5
  have e5 : n5 = m.vals.length := by obtain ⟨_, _, e⟩ := ownsRow_shape x5; cases e; rfl
  subst e5
  have x7 := hL.own 7 (by unfold smj; omega)
  have q7 : S.cell 7 = .slice a7 n7 c7 := by
    have := congrArg (·[7]?) hcs
    simpa [tabV_get] using this
  have p7 := hL.new 7 (by unfold smj; omega)
  have ap7 := hap 7 (by unfold smj; omega)
  rw [q7] at p7 ap7
  rw [q7, hO.x7.1, hO.x7.2] at x7
  have x7 : OwnSm w (.slice a7 n7 c7) m.wh := x7
  have e7 : n7 = m.wh.length := by obtain ⟨_, _, e⟩ := ownsRow_shape x7; cases e; rfl
  subst e7
  have hmk : m.kind = 9 := by rw [hm]; exact hk
  have hcs2 := hcs
  rw [hmk] at hcs2
  rw [hcs2]
  have o0 : Only (fun _ => False) w (w.alloc (.cells #[.int .i64 9, .string m.table, .slice a2 n2 c2, .int .i64 m.pk, .slice a4 m.names.length c4, .slice a5 m.vals.length c5, .bool m.star, .slice a7 m.wh.length c7, .string m.order, .bool m.desc, .bool m.hasL, .int .i64 m.lim] 253)) := (Only.refl _ w).alloc _
  have o1 : Only (fun _ => False) (w.alloc (.cells #[.int .i64 9, .string m.table, .slice a2 n2 c2, .int .i64 m.pk, .slice a4 m.names.length c4, .slice a5 m.vals.length c5, .bool m.star, .slice a7 m.wh.length c7, .string m.order, .bool m.desc, .bool m.hasL, .int .i64 m.lim] 253)) ((w.alloc (.cells #[.int .i64 9, .string m.table, .slice a2 n2 c2, .int .i64 m.pk, .slice a4 m.names.length c4, .slice a5 m.vals.length c5, .bool m.star, .slice a7 m.wh.length c7, .string m.order, .bool m.desc, .bool m.hasL, .int .i64 m.lim] 253)).alloc (.cells #[.int .i64 0, .int .i64 0, .slice none 0 0, .slice none 0 0] 52)) := (Only.refl _ _).alloc _
  have N0 := Has.new w #[.int .i64 9, .string m.table, .slice a2 n2 c2, .int .i64 m.pk, .slice a4 m.names.length c4, .slice a5 m.vals.length c5, .bool m.star, .slice a7 m.wh.length c7, .string m.order, .bool m.desc, .bool m.hasL, .int .i64 m.lim] 253
  have N1 := Has.new' (w.alloc (.cells #[.int .i64 9, .string m.table, .slice a2 n2 c2, .int .i64 m.pk, .slice a4 m.names.length c4, .slice a5 m.vals.length c5, .bool m.star, .slice a7 m.wh.length c7, .string m.order, .bool m.desc, .bool m.hasL, .int .i64 m.lim] 253)) #[.int .i64 0, .int .i64 0, .slice none 0 0, .slice none 0 0] 52 (w.heap.size + 1) (by simp)
  have oA := o0.trans o1 (fun _ _ e => e)
  have hsz1 : ((w.alloc (.cells #[.int .i64 9, .string m.table, .slice a2 n2 c2, .int .i64 m.pk, .slice a4 m.names.length c4, .slice a5 m.vals.length c5, .bool m.star, .slice a7 m.wh.length c7, .string m.order, .bool m.desc, .bool m.hasL, .int .i64 m.lim] 253)).alloc (.cells #[.int .i64 0, .int .i64 0, .slice none 0 0, .slice none 0 0] 52)).heap.size = w.heap.size + 2 := by simp
  have HA := hide (show Has ((w.alloc (.cells #[.int .i64 9, .string m.table, .slice a2 n2 c2, .int .i64 m.pk, .slice a4 m.names.length c4, .slice a5 m.vals.length c5, .bool m.star, .slice a7 m.wh.length c7, .string m.order, .bool m.desc, .bool m.hasL, .int .i64 m.lim] 253)).alloc (.cells #[.int .i64 0, .int .i64 0, .slice none 0 0, .slice none 0 0] 52)) w.heap.size #[.int .i64 9, .string m.table, .slice a2 n2 c2, .int .i64 m.pk, .slice a4 m.names.length c4, .slice a5 m.vals.length c5, .bool m.star, .slice a7 m.wh.length c7, .string m.order, .bool m.desc, .bool m.hasL, .int .i64 m.lim] 253 ∧ Has ((w.alloc (.cells #[.int .i64 9, .string m.table, .slice a2 n2 c2, .int .i64 m.pk, .slice a4 m.names.length c4, .slice a5 m.vals.length c5, .bool m.star, .slice a7 m.wh.length c7, .string m.order, .bool m.desc, .bool m.hasL, .int .i64 m.lim] 253)).alloc (.cells #[.int .i64 0, .int .i64 0, .slice none 0 0, .slice none 0 0] 52)) (w.heap.size + 1) #[.int .i64 0, .int .i64 0, .slice none 0 0, .slice none 0 0] 52 ∧ ME ((w.alloc (.cells #[.int .i64 9, .string m.table, .slice a2 n2 c2, .int .i64 m.pk, .slice a4 m.names.length c4, .slice a5 m.vals.length c5, .bool m.star, .slice a7 m.wh.length c7, .string m.order, .bool m.desc, .bool m.hasL, .int .i64 m.lim] 253)).alloc (.cells #[.int .i64 0, .int .i64 0, .slice none 0 0, .slice none 0 0] 52)) k q M H ∧ OwnN ((w.alloc (.cells #[.int .i64 9, .string m.table, .slice a2 n2 c2, .int .i64 m.pk, .slice a4 m.names.length c4, .slice a5 m.vals.length c5, .bool m.star, .slice a7 m.wh.length c7, .string m.order, .bool m.desc, .bool m.hasL, .int .i64 m.lim] 253)).alloc (.cells #[.int .i64 0, .int .i64 0, .slice none 0 0, .slice none 0 0] 52)) (.slice a4 m.names.length c4) m.names ∧ OwnV ((w.alloc (.cells #[.int .i64 9, .string m.table, .slice a2 n2 c2, .int .i64 m.pk, .slice a4 m.names.length c4, .slice a5 m.vals.length c5, .bool m.star, .slice a7 m.wh.length c7, .string m.order, .bool m.desc, .bool m.hasL, .int .i64 m.lim] 253)).alloc (.cells #[.int .i64 0, .int .i64 0, .slice none 0 0, .slice none 0 0] 52)) (.slice a5 m.vals.length c5) m.vals ∧ OwnSm ((w.alloc (.cells #[.int .i64 9, .string m.table, .slice a2 n2 c2, .int .i64 m.pk, .slice a4 m.names.length c4, .slice a5 m.vals.length c5, .bool m.star, .slice a7 m.wh.length c7, .string m.order, .bool m.desc, .bool m.hasL, .int .i64 m.lim] 253)).alloc (.cells #[.int .i64 0, .int .i64 0, .slice none 0 0, .slice none 0 0] 52)) (.slice a7 m.wh.length c7) m.wh ∧ Only (fun _ => False) w ((w.alloc (.cells #[.int .i64 9, .string m.table, .slice a2 n2 c2, .int .i64 m.pk, .slice a4 m.names.length c4, .slice a5 m.vals.length c5, .bool m.star, .slice a7 m.wh.length c7, .string m.order, .bool m.desc, .bool m.hasL, .int .i64 m.lim] 253)).alloc (.cells #[.int .i64 0, .int .i64 0, .slice none 0 0, .slice none 0 0] 52)) ∧ ((w.alloc (.cells #[.int .i64 9, .string m.table, .slice a2 n2 c2, .int .i64 m.pk, .slice a4 m.names.length c4, .slice a5 m.vals.length c5, .bool m.star, .slice a7 m.wh.length c7, .string m.order, .bool m.desc, .bool m.hasL, .int .i64 m.lim] 253)).alloc (.cells #[.int .i64 0, .int .i64 0, .slice none 0 0, .slice none 0 0] 52)).heap.size = w.heap.size + 2 ∧ SML lo ((w.alloc (.cells #[.int .i64 9, .string m.table, .slice a2 n2 c2, .int .i64 m.pk, .slice a4 m.names.length c4, .slice a5 m.vals.length c5, .bool m.star, .slice a7 m.wh.length c7, .string m.order, .bool m.desc, .bool m.hasL, .int .i64 m.lim] 253)).alloc (.cells #[.int .i64 0, .int .i64 0, .slice none 0 0, .slice none 0 0] 52)) S from ⟨N0.keep o1 (fun e => e), N1, E.quiet oA, ownsRow_keep x4 oA (fun _ _ e => e), x5.keep oA (fun _ _ e => e), x7.quiet oA, oA, hsz1, hL.quiet oA⟩)
  have HAP := hide (show lo ≤ w.heap.size ∧ ((∀ b, (Value.slice a4 m.names.length c4).ownBlock = some b → ¬ H b) ∧ (∀ b, (Value.slice a5 m.vals.length c5).ownBlock = some b → ¬ H b) ∧ (∀ b, (Value.slice a7 m.wh.length c7).ownBlock = some b → ¬ H b) ∧ ∀ j, smj j → ∀ b, (S.cell j).ownBlock = some b → ¬ H b) ∧ (∀ b, H b → b < w.heap.size) ∧ (∀ b, (Value.slice a4 m.names.length c4).ownBlock = some b → lo ≤ b ∧ b < w.heap.size) ∧ (∀ b, (Value.slice a5 m.vals.length c5).ownBlock = some b → lo ≤ b ∧ b < w.heap.size) ∧ (∀ b, (Value.slice a7 m.wh.length c7).ownBlock = some b → lo ≤ b ∧ b < w.heap.size) from ⟨hlo, ⟨ap4, ap5, ap7, hap⟩, E.mx.lt, fun b hb => ⟨p4 b hb, ownsRow_lt x4 b hb⟩, fun b hb => ⟨p5 b hb, ownsRow_lt x5 b hb⟩, fun b hb => ⟨p7 b hb, ownsRow_lt x7 b hb⟩⟩)
  have HOK := hide (And.intro hok (And.intro hB (And.intro hk (And.intro hm (And.intro hs0 (And.intro hstar (And.intro hsg (And.intro ok (And.intro mq hin)))))))))
  have HCS := hide (And.intro hcs2 (And.intro hO (And.intro hmk q4)))
  have hml : m.names.length ≤ 1000 ∧ m.vals.length ≤ 1000 ∧ m.wh.length ≤ 1000 := by
    rw [hm]
    have b1 := hB.list
    have b2 := hB.lits
    have b3 := hB.sets
    have b4 := hB.wh
    refine ⟨?_, ?_, ?_⟩
    · show (st.list ++ st.sets.map (·.col)).length ≤ 1000
      rw [List.length_append, List.length_map]; omega
    · show (st.lits ++ st.sets.map (·.lit)).length ≤ 1000
      rw [List.length_append, List.length_map]; omega
    · show st.wh.length ≤ 1000
      omega
  obtain ⟨hl4, hl5, hl7⟩ := hml
  have HTB := hide (show m.table = st.table ∧ m.wh = st.wh by rw [hm]; exact ⟨rfl, rfl⟩)
  have HK := hide (show k ≠ w.heap.size + 1 from by have := E.kl; omega)
  clear o0 o1 N0 N1 oA hsz1 hL hO hcs hcs2 q4 q5 q7 x4 x5 x7 p4 p5 p7 ap4 ap5 ap7 E hok hB hk hm hs0 hstar hsg ok mq hin hlo hap hmk
  obtain ⟨RR, hRR⟩ : ∃ r, runQ M s st = r := ⟨_, rfl⟩
  have HRR := hide hRR
  rw [hRR]
  clear hRR
  go_enter Tryz.func191, Tryz.ntmps191
  go_upto_region 1 with fail
  generalize (w.alloc (.cells #[.int .i64 9, .string m.table, .slice a2 n2 c2, .int .i64 m.pk, .slice a4 m.names.length c4, .slice a5 m.vals.length c5, .bool m.star, .slice a7 m.wh.length c7, .string m.order, .bool m.desc, .bool m.hasL, .int .i64 m.lim] 253)).alloc (.cells #[.int .i64 0, .int .i64 0, .slice none 0 0, .slice none 0 0] 52) = w1 at *
  generalize hH : w.heap.size = G at *
  have HHg := hide hH
  have t0 : w1.cell? ⟨G, 0, none⟩ = some (.int .i64 9) := (unhide HA).1.cell 0
  have t1 : w1.cell? ⟨G, 1, none⟩ = some (.string m.table) := (unhide HA).1.cell 1
  have tl := (unhide HA).1.lt
  have e0 : w1.cell? ⟨k, 0, none⟩ = some (.pointer (some ⟨q, 0, none⟩)) := (unhide HA).2.2.1.has.cell 0
  have kl := (unhide HA).2.2.1.kl
  rw [(unhide HTB).1] at t1
  have CA1 := hide (mschQ_any ((unhide HA).2.2.1.mx.quiet ((Only.refl (fun _ => False) w1).drew)) st.table)
  have CA2 := hide (mschQ_any ((unhide HA).2.2.1.mx.quiet (((Only.refl (fun _ => False) w1).drew).alloc (.cells #[.string ⟨#[]⟩, .slice none 0 0, .int .i64 0, .int .i64 0] 79))) st.table)
  have HSB := hide (show ∀ W, Only (fun _ => False) w1 W → (W.cell? ⟨k, 0, none⟩ = some (.pointer (some ⟨q, 0, none⟩)) ∧ W.cell? ⟨G, 1, none⟩ = some (.string st.table)) from fun W o => ⟨o.cellS e0, o.cellS t1⟩)
  obtain ⟨sc, hsc⟩ : ∃ s, scqD M.com st.table = s := ⟨_, rfl⟩
  rw [hsc] at CA1 CA2
  have HSC := hide hsc
  clear hsc
  go_upto_region 6 with fail
  have hsb0 := unhide HSB w1 (Only.refl _ _)
  go_cut [8, 9] from 33 to 44 (fun kv ev wx => ScmP sc w1 kv ev wx)
  case first =>
    refine wp_region_held_drew (S := (fun w' => w'.cell? ⟨k, 0, none⟩ = some (.pointer (some ⟨q, 0, none⟩)) ∧ w'.cell? ⟨G, 1, none⟩ = some (.string st.table))) (by kernel_rfl) hsb0 (fun hH0 => ?_)
    refine takeH 0 34 (v := ?vr01) rfl rfl (by kernel_rfl) (by kernel_rfl) (by kernel_rfl) (fun _ _ _ h => h) (Or.inl ⟨by rfl, ?hr01⟩) hH0 ?rr01
    case hr01 => (intro w hSw; clear hSw; go_simp; (try with_reducible rfl))
    case rr01 =>
    try simp only [Act.put, List.setIfInBounds_toArray, List.set_cons_zero, List.set_cons_succ]
    refine takeH 1 35 (v := ?vr02) rfl rfl (by kernel_rfl) (by kernel_rfl) (by kernel_rfl) (fun _ _ _ h => h) (Or.inl ⟨by rfl, ?hr02⟩) hH0 ?rr02
    case hr02 => (intro w hSw; clear hSw; go_simp; (try with_reducible rfl))
    case rr02 =>
    try simp only [Act.put, List.setIfInBounds_toArray, List.set_cons_zero, List.set_cons_succ]
    refine takeH 2 36 (v := ?vr03) rfl rfl (by kernel_rfl) (by kernel_rfl) (by kernel_rfl) (fun _ _ _ h => h) (Or.inl ⟨by rfl, ?hr03⟩) hH0 ?rr03
    case hr03 => (intro w hSw; clear hSw; go_simp; (try with_reducible rfl))
    case rr03 =>
    try simp only [Act.put, List.setIfInBounds_toArray, List.set_cons_zero, List.set_cons_succ]
    refine takeH 3 37 (v := ?vr04) rfl rfl (by kernel_rfl) (by kernel_rfl) (by kernel_rfl) (fun _ _ _ h => h) (Or.inl ⟨by rfl, ?hr04⟩) hH0 ?rr04
    case hr04 => (intro w hSw; obtain ⟨s0, s1⟩ := hSw; go_simp; (try with_reducible rfl))
    case rr04 =>
    try simp only [Act.put, List.setIfInBounds_toArray, List.set_cons_zero, List.set_cons_succ]
    refine takeH 4 38 (v := ?vr05) rfl rfl (by kernel_rfl) (by kernel_rfl) (by kernel_rfl) (fun _ _ _ h => h) (Or.inl ⟨by rfl, ?hr05⟩) hH0 ?rr05
    case hr05 => (intro w hSw; clear hSw; go_simp; (try with_reducible rfl))
    case rr05 =>
    try simp only [Act.put, List.setIfInBounds_toArray, List.set_cons_zero, List.set_cons_succ]
    refine takeH 5 39 (v := ?vr06) rfl rfl (by kernel_rfl) (by kernel_rfl) (by kernel_rfl) (fun _ _ _ h => h) (Or.inl ⟨by rfl, ?hr06⟩) hH0 ?rr06
    case hr06 => (intro w hSw; clear hSw; go_simp; (try with_reducible rfl))
    case rr06 =>
    try simp only [Act.put, List.setIfInBounds_toArray, List.set_cons_zero, List.set_cons_succ]
    refine takeH 6 40 (v := ?vr07) rfl rfl (by kernel_rfl) (by kernel_rfl) (by kernel_rfl) (fun _ _ _ h => h) (Or.inl ⟨by rfl, ?hr07⟩) hH0 ?rr07
    case hr07 => (intro w hSw; clear hSw; go_simp; (try with_reducible rfl))
    case rr07 =>
    try simp only [Act.put, List.setIfInBounds_toArray, List.set_cons_zero, List.set_cons_succ]
    refine takeH 7 41 (v := ?vr08) rfl rfl (by kernel_rfl) (by kernel_rfl) (by kernel_rfl) (fun _ _ _ h => h) (Or.inl ⟨by rfl, ?hr08⟩) hH0 ?rr08
    case hr08 => (intro w hSw; obtain ⟨s0, s1⟩ := hSw; go_simp; (try with_reducible rfl))
    case rr08 =>
    try simp only [Act.put, List.setIfInBounds_toArray, List.set_cons_zero, List.set_cons_succ]
    refine pairWC 8 12 (by kernel_rfl) rfl rfl 42 8 rfl rfl rfl rfl 181 Tryz.func181 (by kernel_rfl) (by kernel_rfl) #[.tmp 39, .tmp 41] #[107, 9] rfl #[.pointer (some ⟨q, 0, none⟩), .string st.table] (by simp [Act.eval]) (R := fun v w' => ∃ ca cn cc, v = .tuple #[.agg #[.string sc.nm, .slice ca cn cc, .int .i64 sc.pk, .int .i64 sc.ix], .int .i64 sc.z] ∧ OwnC w' (.slice ca cn cc) sc.cols ∧ Newer w1.drew (.slice ca cn cc) ∧ sc.cols.length ≤ 3 ∧ Only (fun _ => False) w1.drew w') (unhide CA1) ?kA (v := .pointer (some ⟨w1.drew.heap.size, 0, none⟩)) (w1 := (w1.drew.alloc (.cells #[.string ⟨#[]⟩, .slice none 0 0, .int .i64 0, .int .i64 0] 79))) ?eB ?kB
    case eB => (go_simp; (try with_reducible rfl))
    case kA =>
      rintro _ w5 ⟨ca, cn, cc, rfl, hC5, hN5, hl5, o5⟩
      have oW5 : Only (fun _ => False) w1 w5 := ((Only.refl (fun _ => False) w1).drew).trans o5 (fun _ _ e => e)
      have S5 := unhide HSB w5 oW5
      refine ⟨S5, ?_⟩
      try simp only [Act.put, List.setIfInBounds_toArray, List.set_cons_zero, List.set_cons_succ]
      refine takeH 9 33 (v := ?vrA1) rfl rfl (by kernel_rfl) (by kernel_rfl) (by kernel_rfl) (fun _ _ _ h => h) (Or.inl ⟨by rfl, ?hrA1⟩) S5 ?rrA1
      case hrA1 => (intro w hSw; clear hSw; go_simp; (try with_reducible rfl))
      case rrA1 =>
      try simp only [Act.put, List.setIfInBounds_toArray, List.set_cons_zero, List.set_cons_succ]
      refine takeH 10 43 (v := ?vrA2) rfl rfl (by kernel_rfl) (by kernel_rfl) (by kernel_rfl) (fun _ _ _ h => h) (Or.inl ⟨by rfl, ?hrA2⟩) S5 ?rrA2
      case hrA2 => (intro w hSw; clear hSw; go_simp; (try with_reducible rfl))
      case rrA2 =>
      try simp only [Act.put, List.setIfInBounds_toArray, List.set_cons_zero, List.set_cons_succ]
      refine takeH 11 44 (v := ?vrA3) rfl rfl (by kernel_rfl) (by kernel_rfl) (by kernel_rfl) (fun _ _ _ h => h) (Or.inl ⟨by rfl, ?hrA3⟩) S5 ?rrA3
      case hrA3 => (intro w hSw; clear hSw; go_simp; (try with_reducible rfl))
      case rrA3 =>
      try simp only [Act.put, List.setIfInBounds_toArray, List.set_cons_zero, List.set_cons_succ]
      refine soneH 12 (by kernel_rfl) rfl 8 rfl rfl (v := .pointer (some ⟨w5.heap.size, 0, none⟩)) (w1 := (w5.alloc (.cells #[.string ⟨#[]⟩, .slice none 0 0, .int .i64 0, .int .i64 0] 79))) ?eA ?kA2
      case eA => (go_simp; (try with_reducible rfl))
      case kA2 =>
      have oA5 : Only (fun _ => False) w5 (w5.alloc (.cells #[.string ⟨#[]⟩, .slice none 0 0, .int .i64 0, .int .i64 0] 79)) := (Only.refl _ _).alloc _
      have oW6 := oW5.trans oA5 (fun _ _ e => e)
      have S6 := unhide HSB _ oW6
      refine ⟨S6, ?_⟩
      try simp only [Act.put, List.setIfInBounds_toArray, List.set_cons_zero, List.set_cons_succ]
      have z5 := oW5.size
      have hC7 := hC5.keep oA5 (fun _ _ e => e)
      have nC : ∀ b, (Value.slice ca cn cc).ownBlock = some b → b = w5.heap.size → False := fun b hb e => by have := ownsRow_lt hC5 b hb; omega
      have hdz : w1.drew.heap.size = w1.heap.size := rfl
      refine storeH_row 79 13 (by kernel_rfl) rfl rfl rfl _ _ rfl (w5.heap.size) #[.string sc.nm, .slice ca cn cc, .int .i64 sc.pk, .int .i64 sc.ix] #[.string ⟨#[]⟩, .slice none 0 0, .int .i64 0, .int .i64 0] rfl rfl (Has.new w5 #[.string ⟨#[]⟩, .slice none 0 0, .int .i64 0, .int .i64 0] 79) Tryz.sizeESch4 rfl (by kernel_rfl) ?_
      intro w7 hHas oS
      have o7 : Only (fun _ => False) w1 w7 := (oW6).lateS oS (fun b (e : b = w5.heap.size) => by rw [e]; omega)
      have S7 := unhide HSB w7 o7
      have hfin : ScmP sc w1 (.pointer (some ⟨w5.heap.size, 0, none⟩)) (.int .i64 sc.z) w7 := ⟨w5.heap.size, ca, cn, cc, rfl, rfl, by omega, hHas, hC7.keep oS (fun b hb (e : b = w5.heap.size) => nC b hb e), fun b hb => by have := hN5 b hb; omega, o7⟩
      refine ⟨S7, ?_⟩
      try simp only [Act.put, List.setIfInBounds_toArray, List.set_cons_zero, List.set_cons_succ]
      refine takeH 14 9 (v := ?vrA4) rfl rfl (by kernel_rfl) (by kernel_rfl) (by kernel_rfl) (fun _ _ _ h => h) (Or.inl ⟨by rfl, ?hrA4⟩) S7 ?rrA4
      case hrA4 => (intro w hSw; clear hSw; go_simp; (try with_reducible rfl))
      case rrA4 =>
      try simp only [Act.put, List.setIfInBounds_toArray, List.set_cons_zero, List.set_cons_succ]
      refine wpAnyH_done (by kernel_rfl) ?_ _
      have HE := hide hfin
      clear hfin hHas oS o5 hC5 hN5 hl5 hsb0 e0 t0 t1 tl kl CA1 CA2
      go_wp2_with fail
      go_meet
      exact unhide HE
    case kB =>
      have oB : Only (fun _ => False) w1 (w1.drew.alloc (.cells #[.string ⟨#[]⟩, .slice none 0 0, .int .i64 0, .int .i64 0] 79)) := (Only.refl (fun _ => False) w1).drew.alloc (.cells #[.string ⟨#[]⟩, .slice none 0 0, .int .i64 0, .int .i64 0] 79)
      have SB := unhide HSB _ oB
      refine ⟨SB, ?_⟩
      try simp only [Act.put, List.setIfInBounds_toArray, List.set_cons_zero, List.set_cons_succ]
      refine callH 8 (by kernel_rfl) rfl 42 rfl rfl 181 Tryz.func181 (by kernel_rfl) (by kernel_rfl) #[.tmp 39, .tmp 41] #[107, 9] rfl #[.pointer (some ⟨q, 0, none⟩), .string st.table] (by simp [Act.eval]) (R := fun v w' => ∃ ca cn cc, v = .tuple #[.agg #[.string sc.nm, .slice ca cn cc, .int .i64 sc.pk, .int .i64 sc.ix], .int .i64 sc.z] ∧ OwnC w' (.slice ca cn cc) sc.cols ∧ Newer (w1.drew.alloc (.cells #[.string ⟨#[]⟩, .slice none 0 0, .int .i64 0, .int .i64 0] 79)) (.slice ca cn cc) ∧ sc.cols.length ≤ 3 ∧ Only (fun _ => False) (w1.drew.alloc (.cells #[.string ⟨#[]⟩, .slice none 0 0, .int .i64 0, .int .i64 0] 79)) w') (unhide CA2) ?kB2
      case kB2 =>
      rintro _ w5 ⟨ca, cn, cc, rfl, hC5, hN5, hl5, o5⟩
      have oW5 : Only (fun _ => False) w1 w5 := oB.trans o5 (fun _ _ e => e)
      have S5 := unhide HSB w5 oW5
      refine ⟨S5, ?_⟩
      try simp only [Act.put, List.setIfInBounds_toArray, List.set_cons_zero, List.set_cons_succ]
      refine takeH 9 33 (v := ?vrB1) rfl rfl (by kernel_rfl) (by kernel_rfl) (by kernel_rfl) (fun _ _ _ h => h) (Or.inl ⟨by rfl, ?hrB1⟩) S5 ?rrB1
      case hrB1 => (intro w hSw; clear hSw; go_simp; (try with_reducible rfl))
      case rrB1 =>
      try simp only [Act.put, List.setIfInBounds_toArray, List.set_cons_zero, List.set_cons_succ]
      refine takeH 10 43 (v := ?vrB2) rfl rfl (by kernel_rfl) (by kernel_rfl) (by kernel_rfl) (fun _ _ _ h => h) (Or.inl ⟨by rfl, ?hrB2⟩) S5 ?rrB2
      case hrB2 => (intro w hSw; clear hSw; go_simp; (try with_reducible rfl))
      case rrB2 =>
      try simp only [Act.put, List.setIfInBounds_toArray, List.set_cons_zero, List.set_cons_succ]
      refine takeH 11 44 (v := ?vrB3) rfl rfl (by kernel_rfl) (by kernel_rfl) (by kernel_rfl) (fun _ _ _ h => h) (Or.inl ⟨by rfl, ?hrB3⟩) S5 ?rrB3
      case hrB3 => (intro w hSw; clear hSw; go_simp; (try with_reducible rfl))
      case rrB3 =>
      try simp only [Act.put, List.setIfInBounds_toArray, List.set_cons_zero, List.set_cons_succ]
      have hdz : w1.drew.heap.size = w1.heap.size := rfl
      have hBz : (w1.drew.alloc (.cells #[.string ⟨#[]⟩, .slice none 0 0, .int .i64 0, .int .i64 0] 79)).heap.size = w1.heap.size + 1 := by simp
      have hold : Has w5 w1.drew.heap.size #[.string ⟨#[]⟩, .slice none 0 0, .int .i64 0, .int .i64 0] 79 := (Has.new w1.drew #[.string ⟨#[]⟩, .slice none 0 0, .int .i64 0, .int .i64 0] 79).keep o5 (fun e => e)
      have hC7 := hC5
      have nC : ∀ b, (Value.slice ca cn cc).ownBlock = some b → b = w1.drew.heap.size → False := fun b hb e => by have := hN5 b hb; omega
      refine storeH_row 79 13 (by kernel_rfl) rfl rfl rfl _ _ rfl (w1.drew.heap.size) #[.string sc.nm, .slice ca cn cc, .int .i64 sc.pk, .int .i64 sc.ix] #[.string ⟨#[]⟩, .slice none 0 0, .int .i64 0, .int .i64 0] rfl rfl hold Tryz.sizeESch4 rfl (by kernel_rfl) ?_
      intro w7 hHas oS
      have o7 : Only (fun _ => False) w1 w7 := (oW5).lateS oS (fun b (e : b = w1.drew.heap.size) => by rw [e]; omega)
      have S7 := unhide HSB w7 o7
      have hfin : ScmP sc w1 (.pointer (some ⟨w1.drew.heap.size, 0, none⟩)) (.int .i64 sc.z) w7 := ⟨w1.drew.heap.size, ca, cn, cc, rfl, rfl, by omega, hHas, hC7.keep oS (fun b hb (e : b = w1.drew.heap.size) => nC b hb e), fun b hb => by have := hN5 b hb; omega, o7⟩
      refine ⟨S7, ?_⟩
      try simp only [Act.put, List.setIfInBounds_toArray, List.set_cons_zero, List.set_cons_succ]
      refine takeH 14 9 (v := ?vrB4) rfl rfl (by kernel_rfl) (by kernel_rfl) (by kernel_rfl) (fun _ _ _ h => h) (Or.inl ⟨by rfl, ?hrB4⟩) S7 ?rrB4
      case hrB4 => (intro w hSw; clear hSw; go_simp; (try with_reducible rfl))
      case rrB4 =>
      try simp only [Act.put, List.setIfInBounds_toArray, List.set_cons_zero, List.set_cons_succ]
      refine wpAnyH_done (by kernel_rfl) ?_ _
      have HE := hide hfin
      clear hfin hHas oS o5 hC5 hN5 hl5 hsb0 e0 t0 t1 tl kl CA1 CA2
      go_wp2_with fail
      go_meet
      exact unhide HE
  case rest =>
  obtain ⟨kb, ca, cn, cc, rfl, rfl, hkb, hHs, hOC, hCn, oW⟩ := hcut
  have hz1 := (unhide HA).2.2.2.2.2.2.2.1
  have HT := hide ((unhide HA).1.keep oW (fun e => e))
  have HRB := hide ((unhide HA).2.1.keep oW (fun e => e))
  have HE := hide ((unhide HA).2.2.1.quiet oW)
  have HLs := hide (And.intro (ownsRow_keep (unhide HA).2.2.2.1 oW (fun _ _ e => e)) (And.intro ((unhide HA).2.2.2.2.1.keep oW (fun _ _ e => e)) (And.intro ((unhide HA).2.2.2.2.2.1.quiet oW) ((unhide HA).2.2.2.2.2.2.2.2.quiet oW))))
  have HW := hide (show Only (fun _ => False) w wc from (unhide HA).2.2.2.2.2.2.1.trans oW (fun _ _ e => e))
  have HC := hide (And.intro hHs (And.intro hOC (And.intro (show ∀ b, (Value.slice ca cn cc).ownBlock = some b → G + 2 ≤ b from fun b hb => by have := hCn b hb; omega) (show G + 2 ≤ kb by omega))))
  clear hkb hHs hOC hCn oW hz1 hsb0 e0 t0 t1 tl kl CA1 CA2 HSB HA
  generalize wc = w2 at *
  have hfin : ∀ w8 w9 H', ME w8 k q RR.1 H' → (∀ b, H' b → H b ∨ w.heap.size ≤ b) → ¬ H' (G + 1) → Only H w w8 → Only (fun b => b = G + 1) w8 w9 → ME w9 k q RR.1 H' ∧ Only H w w9 := fun w8 w9 H' e8 hh hn o8 o9 => ⟨e8.keep o9 (fun b hb (e : b = G + 1) => hb.elim (fun c => hn (by rw [← e]; exact c)) (fun c => unhide HK (by rw [← c]; exact e))), o8.lateS o9 (fun b (e : b = G + 1) => by have := unhide HHg; omega)⟩
  have HFIN := hide hfin
  clear hfin
  cases hf : findD M.com st.table with
  | none =>
    have hs10 : sc = ⟨⟨#[]⟩, [], 0, -1, 10⟩ := by rw [← unhide HSC]; unfold scqD; rw [hf]
    have hr : RR = (M, Rs.err 10) := by rw [← unhide HRR]; unfold runQ; rw [if_neg (by rw [(unhide HOK).2.2.1]; decide), hf]
    have HR2 := hide (show RR.2 = Rs.err 10 by rw [hr])
    have HQx := hide (show ∃ HX, ME w2 k q RR.1 HX ∧ (∀ b, HX b → H b ∨ w.heap.size ≤ b) ∧ ¬ HX (G + 1) ∧ Only H w w2 from ⟨H, by rw [hr]; exact unhide HE, fun b hb => .inl hb, fun c => by have := (unhide HAP).2.2.1 _ c; omega, (unhide HW).mono (fun _ _ e => e.elim)⟩)
    have HRBx := HRB
    rw [hs10]
    clear hf hs10 hr
    have CF := hide (smfailE_any 10 w2)
    go_wp2_with fail
    refine (unhide CF).mono ?_
    rintro e w7 ⟨rfl, o7⟩
    have RB7 := (unhide HRBx).keep o7 (fun e => e)
    have HO7 := hide o7
    have r0 : w7.cell? ⟨G + 1, 0, none⟩ = some (.int .i64 0) := RB7.cell 0
    have r1 : w7.cell? ⟨G + 1, 1, none⟩ = some (.int .i64 0) := RB7.cell 1
    have r2 : w7.cell? ⟨G + 1, 2, none⟩ = some (.slice none 0 0) := RB7.cell 2
    have r3 : w7.cell? ⟨G + 1, 3, none⟩ = some (.slice none 0 0) := RB7.cell 3
    have rf0 := RB7.free 0
    have rf1 := RB7.free 1
    have rf2 := RB7.free 2
    have rf3 := RB7.free 3
    have rl := RB7.lt
    have H5 := has_setAll [.int .i64 10, .int .i64 0, .slice none 0 0, .slice none 0 0] RB7 rfl
    have O5 := only_setW (G + 1) [.int .i64 10, .int .i64 0, .slice none 0 0, .slice none 0 0] 0 w7
    have FF := hide (And.intro H5 (show MnP w k q lo H RR (.returned (.agg #[.int .i64 10, .int .i64 0, .slice none 0 0, .slice none 0 0])) (setW (G + 1) [.int .i64 10, .int .i64 0, .slice none 0 0, .slice none 0 0] 0 w7) from (by
      obtain ⟨HX, y1, y2, y3, y4⟩ := unhide HQx
      have f := unhide HFIN w7 _ HX (y1.quiet (unhide HO7)) y2 y3 (y4.trans ((unhide HO7).mono (fun _ _ e => e.elim)) (fun _ _ e => e)) O5
      have hr2 := unhide HR2
      exact ⟨none, 0, 0, none, 0, 0, HX, fun _ => False, by rw [hr2]; rfl, RsN.none_ (by rw [hr2]; rfl) (by rw [hr2]; rfl), (fun b hb => hb.elim), f.1, y2, f.2⟩)))
    simp only [setW, Nat.zero_add, Nat.reduceAdd] at FF
    clear H5 O5
    clear CF o7 RB7
    go_wp2_with fail
    refine bodyPost_ret (sres_result rfl _ rfl (unhide FF).1 rfl) rfl ?_
    exact (unhide FF).2
  | some t =>
    have hsct : sc = ⟨t.nm, t.cols, (t.pk : Int), ixI t.ix, 0⟩ := by rw [← unhide HSC]; unfold scqD; rw [hf]
    obtain ⟨hgd, h4, hact, hse⟩ := inT_good (unhide HOK).2.2.2.2.2.2.2.2.2
    obtain ⟨u, hu, un, uc, up, ux⟩ := ((unhide HOK).2.2.2.2.2.2.2.2.1.tb s.toNat st.table h4).2 t hf
    rw [hsct] at HC ⊢
    simp only at HC ⊢
    have GG := (unhide HOK).2.2.2.2.2.2.2.2.1.gs s.toNat h4
    have okt := GG.tb u (findD_mem hu).1
    rw [← uc, ← up, ← ux] at HC
    have hr : RR = runQ M s st := (unhide HRR).symm
    unfold runQ at hr
    rw [if_neg (by rw [(unhide HOK).2.2.1]; decide), hf] at hr
    simp only at hr
    rw [← uc, ← up] at hr
    have htE : tabE (M.see s.toNat) st.table = u := by unfold tabE; rw [hu]; rfl
    rw [htE] at hr
    have HR := hide hr
    have HU := hide (And.intro hu (And.intro okt (And.intro GG (And.intro h4 hact))))
    have HUT := hide (And.intro uc up)
    have Hcom := hide (show findD M.com st.table ≠ none by rw [hf]; simp)
    clear hf hsct hgd h4 hact hse un hr htE GG uc up ux
    obtain ⟨tnm, htnm⟩ : ∃ x, t.nm = x := ⟨_, rfl⟩
    rw [htnm] at HC
    clear htnm
    have HCK : Hid (Calls Tryz.prog 276 #[.agg #[.string tnm, .slice ca cn cc, .int .i64 (u.pk : Int), .int .i64 (ixI u.ix)], .agg #[.int .i64 9, .string m.table, .slice a2 n2 c2, .int .i64 m.pk, .slice a4 m.names.length c4, .slice a5 m.vals.length c5, .bool m.star, .slice a7 m.wh.length c7, .string m.order, .bool m.desc, .bool m.hasL, .int .i64 m.lim]] w2 fun e w' => e = .returned (.int .i64 (chkD u.cols (u.pk : Int) st)) ∧ Only (fun _ => False) w2 w') := hide (by
      have h := smcheck_upd (tn := tnm) (pk := (u.pk : Int)) (ix := ixI u.ix) (unhide HC).2.1 (by have := (unhide HU).2.1.n3; omega) (unhide HLs).2.2.2 (unhide HCS).2.1 (unhide HCS).2.2.1 hl4 hl5 hl7 (by rw [(unhide HOK).2.2.2.1]; show (st.lits ++ st.sets.map (·.lit)).length = (st.list ++ st.sets.map (·.col)).length; rw [(unhide HOK).2.2.2.2.1.1, (unhide HOK).2.2.2.2.1.2]; simp)
      unfold schU at h
      rw [(unhide HCS).1] at h
      have hmc : mchk u.cols (u.pk : Int) m = chkD u.cols (u.pk : Int) st := by rw [(unhide HOK).2.2.2.1]; exact mchk_eq st (fun _ => (unhide HOK).2.2.2.2.1) (fun c => absurd (unhide HOK).2.2.1 c)
      rw [hmc] at h
      exact h)
    have t0 : w2.cell? ⟨G, 0, none⟩ = some (.int .i64 9) := (unhide HT).cell 0
    have t1 : w2.cell? ⟨G, 1, none⟩ = some (.string m.table) := (unhide HT).cell 1
    have t2 : w2.cell? ⟨G, 2, none⟩ = some (.slice a2 n2 c2) := (unhide HT).cell 2
    have t3 : w2.cell? ⟨G, 3, none⟩ = some (.int .i64 m.pk) := (unhide HT).cell 3
    have t4 : w2.cell? ⟨G, 4, none⟩ = some (.slice a4 m.names.length c4) := (unhide HT).cell 4
    have t5 : w2.cell? ⟨G, 5, none⟩ = some (.slice a5 m.vals.length c5) := (unhide HT).cell 5
    have t6 : w2.cell? ⟨G, 6, none⟩ = some (.bool m.star) := (unhide HT).cell 6
    have t7 : w2.cell? ⟨G, 7, none⟩ = some (.slice a7 m.wh.length c7) := (unhide HT).cell 7
    have t8 : w2.cell? ⟨G, 8, none⟩ = some (.string m.order) := (unhide HT).cell 8
    have t9 : w2.cell? ⟨G, 9, none⟩ = some (.bool m.desc) := (unhide HT).cell 9
    have t10 : w2.cell? ⟨G, 10, none⟩ = some (.bool m.hasL) := (unhide HT).cell 10
    have t11 : w2.cell? ⟨G, 11, none⟩ = some (.int .i64 m.lim) := (unhide HT).cell 11
    have tl := (unhide HT).lt
    have s0 : w2.cell? ⟨kb, 0, none⟩ = some (.string tnm) := (unhide HC).1.cell 0
    have s1 : w2.cell? ⟨kb, 1, none⟩ = some (.slice ca cn cc) := (unhide HC).1.cell 1
    have s2 : w2.cell? ⟨kb, 2, none⟩ = some (.int .i64 (u.pk : Int)) := (unhide HC).1.cell 2
    have s3 : w2.cell? ⟨kb, 3, none⟩ = some (.int .i64 (ixI u.ix)) := (unhide HC).1.cell 3
    have sl := (unhide HC).1.lt
    obtain ⟨cz, hcz⟩ : ∃ z, chkD u.cols (u.pk : Int) st = z := ⟨_, rfl⟩
    rw [hcz] at HCK
    have HCZ := hide hcz
    clear hcz
    go_wp2_with fail
    refine (unhide HCK).mono ?_
    rintro e w3 ⟨rfl, o3⟩
    have HI3 := hide (show RnI w H G kb #[.int .i64 9, .string m.table, .slice a2 n2 c2, .int .i64 m.pk, .slice a4 m.names.length c4, .slice a5 m.vals.length c5, .bool m.star, .slice a7 m.wh.length c7, .string m.order, .bool m.desc, .bool m.hasL, .int .i64 m.lim] #[.string tnm, .slice ca cn cc, .int .i64 (u.pk : Int), .int .i64 (ixI u.ix)] (.slice ca cn cc) u.cols (.slice a4 m.names.length c4) (.slice a5 m.vals.length c5) (.slice a7 m.wh.length c7) m w3 from ⟨(unhide HT).keep o3 (fun e => e), (unhide HRB).keep o3 (fun e => e), (unhide HC).1.keep o3 (fun e => e), (unhide HC).2.1.keep o3 (fun _ _ e => e), ownsRow_keep (unhide HLs).1 o3 (fun _ _ e => e), (unhide HLs).2.1.keep o3 (fun _ _ e => e), (unhide HLs).2.2.1.quiet o3, ((unhide HW).trans o3 (fun _ _ e => e)).mono (fun _ _ e => e.elim)⟩)
    have HE3 := hide ((unhide HE).quiet o3)
    have HL3 := hide ((unhide HLs).2.2.2.quiet o3)
    have HNB := hide (show ∀ b, RnB G kb (.slice ca cn cc) (.slice a4 m.names.length c4) (.slice a5 m.vals.length c5) (.slice a7 m.wh.length c7) b → ¬ H b ∧ b < w3.heap.size from fun b hb => ⟨by
      have hl := (unhide HAP).1
      have hl2 := (unhide HAP).2.2.1
      rcases hb with e | e | e | e | e | e | e
      · intro c; have := hl2 b c; omega
      · intro c; have := hl2 b c; omega
      · intro c; have := hl2 b c; have := (unhide HC).2.2.2; omega
      · intro c; have := hl2 b c; have := (unhide HC).2.2.1 b e; omega
      · exact (unhide HAP).2.1.1 b e
      · exact (unhide HAP).2.1.2.1 b e
      · exact (unhide HAP).2.1.2.2.1 b e, (unhide HI3).lt b hb⟩)
    clear t0 t1 t2 t3 t4 t5 t6 t7 t8 t9 t10 t11 tl s0 s1 s2 s3 sl HCK o3 HT HRB HE HLs HW HC
    by_cases h0 : cz = 0
    case neg =>
      have bz : (cz != 0) = true := by simpa using h0
      have hr := unhide HR
      rw [unhide HCZ, if_pos h0] at hr
      have HR2 := hide (show RR.2 = Rs.err cz by rw [hr])
      have HQx := hide (show ∃ HX, ME w3 k q RR.1 HX ∧ (∀ b, HX b → H b ∨ w.heap.size ≤ b) ∧ ¬ HX (G + 1) ∧ Only H w w3 from ⟨H, by rw [hr]; exact unhide HE3, fun b hb => .inl hb, (unhide HNB (G + 1) (.inr (.inl rfl))).1, (unhide HI3).on⟩)
      have HRBx := hide (unhide HI3).rb
      clear hr h0
      have CF := hide (smfailE_any cz w3)
      go_wp2_with fail
      refine (unhide CF).mono ?_
      rintro e w7 ⟨rfl, o7⟩
      have RB7 := (unhide HRBx).keep o7 (fun e => e)
      have HO7 := hide o7
      have r0 : w7.cell? ⟨G + 1, 0, none⟩ = some (.int .i64 0) := RB7.cell 0
      have r1 : w7.cell? ⟨G + 1, 1, none⟩ = some (.int .i64 0) := RB7.cell 1
      have r2 : w7.cell? ⟨G + 1, 2, none⟩ = some (.slice none 0 0) := RB7.cell 2
      have r3 : w7.cell? ⟨G + 1, 3, none⟩ = some (.slice none 0 0) := RB7.cell 3
      have rf0 := RB7.free 0
      have rf1 := RB7.free 1
      have rf2 := RB7.free 2
      have rf3 := RB7.free 3
      have rl := RB7.lt
      have H5 := has_setAll [.int .i64 cz, .int .i64 0, .slice none 0 0, .slice none 0 0] RB7 rfl
      have O5 := only_setW (G + 1) [.int .i64 cz, .int .i64 0, .slice none 0 0, .slice none 0 0] 0 w7
      have FF := hide (And.intro H5 (show MnP w k q lo H RR (.returned (.agg #[.int .i64 cz, .int .i64 0, .slice none 0 0, .slice none 0 0])) (setW (G + 1) [.int .i64 cz, .int .i64 0, .slice none 0 0, .slice none 0 0] 0 w7) from (by
        obtain ⟨HX, y1, y2, y3, y4⟩ := unhide HQx
        have f := unhide HFIN w7 _ HX (y1.quiet (unhide HO7)) y2 y3 (y4.trans ((unhide HO7).mono (fun _ _ e => e.elim)) (fun _ _ e => e)) O5
        have hr2 := unhide HR2
        exact ⟨none, 0, 0, none, 0, 0, HX, fun _ => False, by rw [hr2]; rfl, RsN.none_ (by rw [hr2]; rfl) (by rw [hr2]; rfl), (fun b hb => hb.elim), f.1, y2, f.2⟩)))
      simp only [setW, Nat.zero_add, Nat.reduceAdd] at FF
      clear H5 O5
      clear CF o7 RB7
      go_wp2_with fail
      refine bodyPost_ret (sres_result rfl _ rfl (unhide FF).1 rfl) rfl ?_
      exact (unhide FF).2
    subst h0
    have hr := unhide HR
    rw [unhide HCZ, if_neg (fun c => c rfl)] at hr
    have Hr := hide hr
    clear hr
    obtain ⟨tk, htk⟩ : ∃ z, M.tkE s st.table 1 = z := ⟨_, rfl⟩
    have Htk := hide htk
    have HTK := hide (tk_or (mode := 1) (unhide HOK).2.2.2.2.2.2.2.2.2 (unhide Hcom))
    rw [htk] at HTK
    have oD4 : Only (fun _ => False) w3 w3.drew := (Only.refl _ w3).drew
    have CS := mscanQ_any (s := s) ((unhide HE3).mx.quiet oD4) (unhide HOK).2.2.2.2.2.2.2.2.2 (unhide HU).1 (unhide HU).2.1
    rw [htk] at CS
    unfold bdA vl0 at CS
    have CS := hide CS
    have e0 : w3.cell? ⟨k, 0, none⟩ = some (.pointer (some ⟨q, 0, none⟩)) := (unhide HE3).has.cell 0
    have kl := (unhide HE3).kl
    have t1 : w3.cell? ⟨G, 1, none⟩ = some (.string m.table) := (unhide HI3).sv.cell 1
    rw [(unhide HTB).1] at t1
    have tl := (unhide HI3).sv.lt
    have s2 : w3.cell? ⟨kb, 2, none⟩ = some (.int .i64 (u.pk : Int)) := (unhide HI3).sc.cell 2
    have sl := (unhide HI3).sc.lt
    have nk := hide (unhide HE3).kH
    have nT := hide (unhide HNB G (.inl rfl)).1
    have nS := hide (unhide HNB kb (.inr (.inr (.inl rfl)))).1
    clear oD4 htk
    go_upto_region 12 with fail
    refine wp_region_held_drew (S := (fun w' => w'.cell? ⟨k, 0, none⟩ = some (.pointer (some ⟨q, 0, none⟩)) ∧ w'.cell? ⟨G, 1, none⟩ = some (.string st.table) ∧ w'.cell? ⟨kb, 2, none⟩ = some (.int .i64 (u.pk : Int)))) (by kernel_rfl) ⟨e0, t1, s2⟩ (fun hH0 => ?_)
    refine takeH 0 57 (v := ?vsc1) rfl rfl (by kernel_rfl) (by kernel_rfl) (by kernel_rfl) (fun _ _ _ h => h) (Or.inl ⟨by rfl, ?hsc1⟩) hH0 ?rsc1
    case hsc1 => (intro w hSw; clear hSw; go_simp; (try with_reducible rfl))
    case rsc1 =>
    try simp only [Act.put, List.setIfInBounds_toArray, List.set_cons_zero, List.set_cons_succ]
    refine takeH 1 58 (v := ?vsc2) rfl rfl (by kernel_rfl) (by kernel_rfl) (by kernel_rfl) (fun _ _ _ h => h) (Or.inl ⟨by rfl, ?hsc2⟩) hH0 ?rsc2
    case hsc2 => (intro w hSw; clear hSw; go_simp; (try with_reducible rfl))
    case rsc2 =>
    try simp only [Act.put, List.setIfInBounds_toArray, List.set_cons_zero, List.set_cons_succ]
    refine takeH 2 59 (v := ?vsc3) rfl rfl (by kernel_rfl) (by kernel_rfl) (by kernel_rfl) (fun _ _ _ h => h) (Or.inl ⟨by rfl, ?hsc3⟩) hH0 ?rsc3
    case hsc3 => (intro w hSw; clear hSw; go_simp; (try with_reducible rfl))
    case rsc3 =>
    try simp only [Act.put, List.setIfInBounds_toArray, List.set_cons_zero, List.set_cons_succ]
    refine takeH 3 60 (v := ?vsc4) rfl rfl (by kernel_rfl) (by kernel_rfl) (by kernel_rfl) (fun _ _ _ h => h) (Or.inl ⟨by rfl, ?hsc4⟩) hH0 ?rsc4
    case hsc4 => (intro w hSw; obtain ⟨s0, s1, s2⟩ := hSw; go_simp; (try with_reducible rfl))
    case rsc4 =>
    try simp only [Act.put, List.setIfInBounds_toArray, List.set_cons_zero, List.set_cons_succ]
    refine takeH 4 61 (v := ?vsc5) rfl rfl (by kernel_rfl) (by kernel_rfl) (by kernel_rfl) (fun _ _ _ h => h) (Or.inl ⟨by rfl, ?hsc5⟩) hH0 ?rsc5
    case hsc5 => (intro w hSw; clear hSw; go_simp; (try with_reducible rfl))
    case rsc5 =>
    try simp only [Act.put, List.setIfInBounds_toArray, List.set_cons_zero, List.set_cons_succ]
    refine takeH 5 62 (v := ?vsc6) rfl rfl (by kernel_rfl) (by kernel_rfl) (by kernel_rfl) (fun _ _ _ h => h) (Or.inl ⟨by rfl, ?hsc6⟩) hH0 ?rsc6
    case hsc6 => (intro w hSw; clear hSw; go_simp; (try with_reducible rfl))
    case rsc6 =>
    try simp only [Act.put, List.setIfInBounds_toArray, List.set_cons_zero, List.set_cons_succ]
    refine takeH 6 63 (v := ?vsc7) rfl rfl (by kernel_rfl) (by kernel_rfl) (by kernel_rfl) (fun _ _ _ h => h) (Or.inl ⟨by rfl, ?hsc7⟩) hH0 ?rsc7
    case hsc7 => (intro w hSw; obtain ⟨s0, s1, s2⟩ := hSw; go_simp; (try with_reducible rfl))
    case rsc7 =>
    try simp only [Act.put, List.setIfInBounds_toArray, List.set_cons_zero, List.set_cons_succ]
    refine takeH 7 64 (v := ?vsc8) rfl rfl (by kernel_rfl) (by kernel_rfl) (by kernel_rfl) (fun _ _ _ h => h) (Or.inl ⟨by rfl, ?hsc8⟩) hH0 ?rsc8
    case hsc8 => (intro w hSw; clear hSw; go_simp; (try with_reducible rfl))
    case rsc8 =>
    try simp only [Act.put, List.setIfInBounds_toArray, List.set_cons_zero, List.set_cons_succ]
    refine takeH 8 65 (v := ?vsc9) rfl rfl (by kernel_rfl) (by kernel_rfl) (by kernel_rfl) (fun _ _ _ h => h) (Or.inl ⟨by rfl, ?hsc9⟩) hH0 ?rsc9
    case hsc9 => (intro w hSw; obtain ⟨s0, s1, s2⟩ := hSw; go_simp; (try with_reducible rfl))
    case rsc9 =>
    try simp only [Act.put, List.setIfInBounds_toArray, List.set_cons_zero, List.set_cons_succ]
    refine takeH 9 66 (v := ?vsc10) rfl rfl (by kernel_rfl) (by kernel_rfl) (by kernel_rfl) (fun _ _ _ h => h) (Or.inl ⟨by rfl, ?hsc10⟩) hH0 ?rsc10
    case hsc10 => (intro w hSw; clear hSw; go_simp; (try with_reducible rfl))
    case rsc10 =>
    try simp only [Act.put, List.setIfInBounds_toArray, List.set_cons_zero, List.set_cons_succ]
    refine takeH 10 67 (v := ?vsc11) rfl rfl (by kernel_rfl) (by kernel_rfl) (by kernel_rfl) (fun _ _ _ h => h) (Or.inl ⟨by rfl, ?hsc11⟩) hH0 ?rsc11
    case hsc11 => (intro w hSw; clear hSw; go_simp; (try with_reducible rfl))
    case rsc11 =>
    try simp only [Act.put, List.setIfInBounds_toArray, List.set_cons_zero, List.set_cons_succ]
    refine callH 11 (by kernel_rfl) rfl 68 rfl rfl 277 Tryz.func277 (by kernel_rfl) (by kernel_rfl) #[.tmp 60, .tmp 61, .tmp 63, .tmp 65, .tmp 66, .tmp 67] #[104, 3, 9, 3, 244, 244] rfl #[.pointer (some ⟨q, 0, none⟩), .int .i64 s, .string st.table, .int .i64 (u.pk : Int), .agg #[.bool false, .bool false, .int .i64 0, .string ⟨#[]⟩], .agg #[.bool false, .bool false, .int .i64 0, .string ⟨#[]⟩]] (by simp [Act.eval]) (R := fun v w' => ∃ ra rn rc Z H' lim, v = .tuple #[.slice ra rn rc, .int .i64 tk] ∧ RL lim (.slice ra rn rc) Z w' ∧ Z.map (·.2) = (if tk = 0 then scnL u u.pk (bndOf false ⟨false, 0, ⟨#[]⟩⟩) (bndOf false ⟨false, 0, ⟨#[]⟩⟩) else []) ∧ MX w' q (if tk = 0 then M.setL s.toNat st.table 1 else M) H' ∧ (∀ b, H' b → b < lim) ∧ (∀ b, H' b → H b ∨ w3.drew.heap.size ≤ b) ∧ w3.drew.heap.size ≤ lim ∧ lim ≤ w'.heap.size ∧ Only H w3.drew w') (unhide CS) ?ksc
    case ksc =>
    rintro _ w6 ⟨ra, rn, rc, Z, H1, lim, rfl, hR, hZ, hX, hl1, hl2, hl3, hlm, o6⟩
    have S6 : w6.cell? ⟨k, 0, none⟩ = some (.pointer (some ⟨q, 0, none⟩)) ∧ w6.cell? ⟨G, 1, none⟩ = some (.string st.table) ∧ w6.cell? ⟨kb, 2, none⟩ = some (.int .i64 (u.pk : Int)) := ⟨cell_keep (hH0.1) o6 (unhide nk), cell_keep (hH0.2.1) o6 (unhide nT), cell_keep (hH0.2.2) o6 (unhide nS)⟩
    refine ⟨S6, ?_⟩
    try simp only [Act.put, List.setIfInBounds_toArray, List.set_cons_zero, List.set_cons_succ]
    refine takeH 12 56 (v := ?vsc12) rfl rfl (by kernel_rfl) (by kernel_rfl) (by kernel_rfl) (fun _ _ _ h => h) (Or.inl ⟨by rfl, ?hsc12⟩) S6 ?rsc12
    case hsc12 => (intro w hSw; clear hSw; go_simp; (try with_reducible rfl))
    case rsc12 =>
    try simp only [Act.put, List.setIfInBounds_toArray, List.set_cons_zero, List.set_cons_succ]
    refine takeH 13 69 (v := ?vsc13) rfl rfl (by kernel_rfl) (by kernel_rfl) (by kernel_rfl) (fun _ _ _ h => h) (Or.inl ⟨by rfl, ?hsc13⟩) S6 ?rsc13
    case hsc13 => (intro w hSw; clear hSw; go_simp; (try with_reducible rfl))
    case rsc13 =>
    try simp only [Act.put, List.setIfInBounds_toArray, List.set_cons_zero, List.set_cons_succ]
    refine takeH 14 70 (v := ?vsc14) rfl rfl (by kernel_rfl) (by kernel_rfl) (by kernel_rfl) (fun _ _ _ h => h) (Or.inl ⟨by rfl, ?hsc14⟩) S6 ?rsc14
    case hsc14 => (intro w hSw; clear hSw; go_simp; (try with_reducible rfl))
    case rsc14 =>
    try simp only [Act.put, List.setIfInBounds_toArray, List.set_cons_zero, List.set_cons_succ]
    refine takeH 15 10 (v := ?vsc15) rfl rfl (by kernel_rfl) (by kernel_rfl) (by kernel_rfl) (fun _ _ _ h => h) (Or.inl ⟨by rfl, ?hsc15⟩) S6 ?rsc15
    case hsc15 => (intro w hSw; clear hSw; go_simp; (try with_reducible rfl))
    case rsc15 =>
    try simp only [Act.put, List.setIfInBounds_toArray, List.set_cons_zero, List.set_cons_succ]
    refine takeH 16 9 (v := ?vsc16) rfl rfl (by kernel_rfl) (by kernel_rfl) (by kernel_rfl) (fun _ _ _ h => h) (Or.inl ⟨by rfl, ?hsc16⟩) S6 ?rsc16
    case hsc16 => (intro w hSw; clear hSw; go_simp; (try with_reducible rfl))
    case rsc16 =>
    try simp only [Act.put, List.setIfInBounds_toArray, List.set_cons_zero, List.set_cons_succ]
    refine wpAnyH_done (by kernel_rfl) ?_ _
    have oD : Only (H) w3 w6 := (Only.refl (H) w3).drew.trans o6 (fun _ _ e => e)
    clear hH0 S6
    have hdz : w3.drew.heap.size = w3.heap.size := rfl
    rw [hdz] at hl2 hl3
    have HI4 := hide (show RnI w H G kb #[.int .i64 9, .string m.table, .slice a2 n2 c2, .int .i64 m.pk, .slice a4 m.names.length c4, .slice a5 m.vals.length c5, .bool m.star, .slice a7 m.wh.length c7, .string m.order, .bool m.desc, .bool m.hasL, .int .i64 m.lim] #[.string tnm, .slice ca cn cc, .int .i64 (u.pk : Int), .int .i64 (ixI u.ix)] (.slice ca cn cc) u.cols (.slice a4 m.names.length c4) (.slice a5 m.vals.length c5) (.slice a7 m.wh.length c7) m w6 from (unhide HI3).keep oD (fun b hb => (unhide HNB b hb).1) (fun b _ h => h))
    have HE4 := hide (show ME w6 k q (if tk = 0 then M.setL s.toNat st.table 1 else M) H1 from (unhide HE3).turn hX oD hl2)
    have HL4 := hide (show SML lo w6 S from (unhide HL3).keep oD (fun j hj b hb => (unhide HAP).2.1.2.2.2 j hj b hb))
    have hGw : G + 2 ≤ w3.heap.size := by have := (unhide HI3).rb.lt; omega
    have HN1 := hide (show (∀ b, H1 b → b < lim) ∧ (∀ b, H1 b → H b ∨ w.heap.size ≤ b) ∧ (∀ b, RnB G kb (.slice ca cn cc) (.slice a4 m.names.length c4) (.slice a5 m.vals.length c5) (.slice a7 m.wh.length c7) b → ¬ H1 b ∧ b < lim) ∧ G + 2 ≤ lim from ⟨hl1, fun b hb => (hl2 b hb).imp id (fun c => by have := unhide HHg; omega), fun b hb => ⟨fun c => (hl2 b c).elim (unhide HNB b hb).1 (fun c => by have := (unhide HNB b hb).2; omega), by have := (unhide HNB b hb).2; omega⟩, by omega⟩)
    have HR4 := hide (And.intro hR hZ)
    have HLm := hide (show lim ≤ w6.heap.size from hlm)
    have HKl := hide (show k < lim from by have := (unhide HE3).kl; omega)
    clear hX hl1 hl2 hl3 hlm oD o6 CS hR hZ HI3 HE3 HL3 HNB nk nT nS e0 t1 s2 tl sl kl hdz hGw
    generalize w6 = w4 at *
    rcases unhide HTK with h0 | h0
    case inr =>
      subst h0
      have hr := unhide Hr
      rw [unhide Htk, if_pos (by omega)] at hr
      have HR2 := hide (show RR.2 = Rs.err 21 by rw [hr])
      have HQx := hide (show ∃ HX, ME w4 k q RR.1 HX ∧ (∀ b, HX b → H b ∨ w.heap.size ≤ b) ∧ ¬ HX (G + 1) ∧ Only H w w4 from ⟨H1, by have h := unhide HE4; rw [if_neg (by omega)] at h; rw [hr]; exact h, (unhide HN1).2.1, ((unhide HN1).2.2.1 (G + 1) (.inr (.inl rfl))).1, (unhide HI4).on⟩)
      have HRBx := hide (unhide HI4).rb
      clear hr
      have CF := hide (smfailE_any 21 w4)
      go_wp2_with fail
      refine (unhide CF).mono ?_
      rintro e w7 ⟨rfl, o7⟩
      have RB7 := (unhide HRBx).keep o7 (fun e => e)
      have HO7 := hide o7
      have r0 : w7.cell? ⟨G + 1, 0, none⟩ = some (.int .i64 0) := RB7.cell 0
      have r1 : w7.cell? ⟨G + 1, 1, none⟩ = some (.int .i64 0) := RB7.cell 1
      have r2 : w7.cell? ⟨G + 1, 2, none⟩ = some (.slice none 0 0) := RB7.cell 2
      have r3 : w7.cell? ⟨G + 1, 3, none⟩ = some (.slice none 0 0) := RB7.cell 3
      have rf0 := RB7.free 0
      have rf1 := RB7.free 1
      have rf2 := RB7.free 2
      have rf3 := RB7.free 3
      have rl := RB7.lt
      have H5 := has_setAll [.int .i64 21, .int .i64 0, .slice none 0 0, .slice none 0 0] RB7 rfl
      have O5 := only_setW (G + 1) [.int .i64 21, .int .i64 0, .slice none 0 0, .slice none 0 0] 0 w7
      have FF := hide (And.intro H5 (show MnP w k q lo H RR (.returned (.agg #[.int .i64 21, .int .i64 0, .slice none 0 0, .slice none 0 0])) (setW (G + 1) [.int .i64 21, .int .i64 0, .slice none 0 0, .slice none 0 0] 0 w7) from (by
        obtain ⟨HX, y1, y2, y3, y4⟩ := unhide HQx
        have f := unhide HFIN w7 _ HX (y1.quiet (unhide HO7)) y2 y3 (y4.trans ((unhide HO7).mono (fun _ _ e => e.elim)) (fun _ _ e => e)) O5
        have hr2 := unhide HR2
        exact ⟨none, 0, 0, none, 0, 0, HX, fun _ => False, by rw [hr2]; rfl, RsN.none_ (by rw [hr2]; rfl) (by rw [hr2]; rfl), (fun b hb => hb.elim), f.1, y2, f.2⟩)))
      simp only [setW, Nat.zero_add, Nat.reduceAdd] at FF
      clear H5 O5
      clear CF o7 RB7
      go_wp2_with fail
      refine bodyPost_ret (sres_result rfl _ rfl (unhide FF).1 rfl) rfl ?_
      exact (unhide FF).2
    subst h0
    have hr := unhide Hr
    rw [unhide Htk, if_neg (fun c => c rfl)] at hr
    have Hr2 := hide hr
    clear hr Hr
    have hZ0 := (unhide HR4).2
    rw [if_pos rfl] at hZ0
    have hE4 := unhide HE4
    rw [if_pos rfl] at hE4
    have HE5 := hide hE4
    have HR5 := hide (And.intro (unhide HR4).1 hZ0)
    clear hE4 hZ0 HE4 HR4
    obtain ⟨hcap, hrn⟩ := (unhide HR5).1.room
    have hZrow : ∀ z ∈ Z, z.2 ∈ u.rows := fun z hz => by
      have h2 : z.2 ∈ Z.map (·.2) := List.mem_map.mpr ⟨z, hz, rfl⟩
      rw [(unhide HR5).2] at h2
      exact ((scnL_mem (unhide HU).2.1 _ _ _ _).mp h2).1
    have hz8 : Z.length ≤ 8 := by have e := congrArg List.length (unhide HR5).2; rw [List.length_map] at e; rw [e]; exact scnL_len (unhide HU).2.1 _ _ _
    have HZR := hide hZrow
    clear hZrow hcap
    have hwh := chk_wh (unhide HCZ)
    have HWH := hide (show (∀ c ∈ m.wh, okSg c.op) ∧ (∀ c ∈ m.wh, 0 ≤ qcol u.cols c.col) by rw [(unhide HTB).2]; exact ⟨(unhide HOK).2.2.2.2.2.2.1, fun c hc => (hwh c hc).1⟩)
    clear hwh
    go_upto_region 17 with fail
    go_loopg [11, 12] (rn + 1) (fun gk hv iv wr => ∃ i : Nat, gk + i = rn + 1 ∧ iv = .int .i64 i ∧ i ≤ rn ∧ GR 95 1 w4 hv ((Z.take i).filter (fun z => matB u.cols m.wh z.2)).length (((Z.take i).filter (fun z => matB u.cols m.wh z.2)).map (·.1)) wr)
    case atStart => exact ⟨0, rfl, rfl, Nat.zero_le _, GR.nil _ _ _⟩
    case round =>
      obtain ⟨i, hgk, rfl, hi, hg⟩ := hrel
      by_cases hs : i < rn
      · have a1 : decide ((i : Int) < (rn : Int)) = true := decide_eq_true (by omega)
        have a1p : (i : Int) < (rn : Int) := by omega
        obtain ⟨z, hz⟩ := getE (l := Z) (i := i) (by omega)
        have hzm := List.mem_of_getElem? hz
        have hP := (unhide HI4).quiet hg.ho
        have hR := (unhide HR5).1.quiet hg.ho
        have O1 := (hR.row z hzm).1
        obtain ⟨za, zc, hzs⟩ := O1.shape
        have hzl : z.2.length = u.cols.length := ((unhide HU).2.1.row _ (unhide HZR z hzm)).len
        obtain ⟨zn, hzn⟩ : ∃ n, z.2.length = n := ⟨_, rfl⟩
        rw [hzn] at hzs
        rw [hzs] at O1
        have own2 := hR.own
        obtain ⟨rg, hra⟩ : ∃ rg, ra = some ⟨rg, 0, none⟩ := by
          rcases own2.2 with ⟨he, h0⟩ | ⟨g', cap', cur, he, _⟩
          · have := (List.getElem?_eq_some_iff.mp hz).1; omega
          · have := he
            simp at this
            exact ⟨g', this.1⟩
        have hcx : wr.cell? ⟨rg, i, none⟩ = some (.slice za zn zc) := by
          have hc0 := World.ownsRow.cells own2 (g := rg) (by rw [hra]; rfl) i z.1 (by rw [List.getElem?_map, hz]; rfl)
          rw [addr_add, hzs] at hc0
          simpa using hc0
        obtain ⟨mb, hmb⟩ : ∃ b, matB u.cols m.wh z.2 = b := ⟨_, rfl⟩
        have oD : Only (fun _ => False) wr wr.drew := (Only.refl _ wr).drew
        have C1 := smmatch_any (tn := tnm) (pk := (u.pk : Int)) (ix := ixI u.ix) (hP.oc.keep oD (fun _ _ e => e)) (by have := (unhide HU).2.1.n3; omega) (hP.o7.quiet oD) hl7 (unhide HWH).1 (O1.keep oD (fun _ _ e => e)) hzl (unhide HWH).2
        unfold schU at C1
        rw [hmb] at C1
        have C1 := hide C1
        have s0 : wr.cell? ⟨kb, 0, none⟩ = some (.string tnm) := hP.sc.cell 0
        have s1 : wr.cell? ⟨kb, 1, none⟩ = some (.slice ca cn cc) := hP.sc.cell 1
        have s2 : wr.cell? ⟨kb, 2, none⟩ = some (.int .i64 (u.pk : Int)) := hP.sc.cell 2
        have s3 : wr.cell? ⟨kb, 3, none⟩ = some (.int .i64 (ixI u.ix)) := hP.sc.cell 3
        have sl := hP.sc.lt
        have t7 : wr.cell? ⟨G, 7, none⟩ = some (.slice a7 m.wh.length c7) := hP.sv.cell 7
        have tl := hP.sv.lt
        have htk2 : (Z.take (i + 1)).filter (fun z => matB u.cols m.wh z.2) = (Z.take i).filter (fun z => matB u.cols m.wh z.2) ++ pickZ mb z := by
          rw [List.take_add_one, hz, Option.toList_some, List.filter_append]
          congr 1
          unfold pickZ
          simp only [List.filter_cons, List.filter_nil, hmb]
        have HTK2 := hide htk2
        have HG := hide (fun (w6 : World) (o : Only (fun _ => False) wr w6) => hg.far o)
        obtain ⟨hva, hvc, hhv⟩ := ownsRow_shape hg.own
        subst hhv
        have hr8 : ((Z.take i).filter (fun z => matB u.cols m.wh z.2)).length ≤ 8 := Nat.le_trans (List.length_filter_le _ _) (by rw [List.length_take]; omega)
        have Hra := hide hra
        have Hzs := hide hzs
        generalize hZf : (Z.take i).filter (fun z => matB u.cols m.wh z.2) = Zf at *
        obtain ⟨zl, hzln⟩ : ∃ n, Zf.length = n := ⟨_, rfl⟩
        rw [hzln] at HG hr8 ⊢
        have Hzl := hide hzln
        rw [hra]
        clear hg hP hR O1 own2 hz hzm hzs hzn hzl hra hmb oD htk2 hZf hzln
        go_upto_region 19 with fail
        refine wp_region_held_drew (S := (fun w' => w'.cell? ⟨rg, i, none⟩ = some (.slice za zn zc) ∧ w'.cell? ⟨kb, 0, none⟩ = some (.string tnm) ∧ w'.cell? ⟨kb, 1, none⟩ = some (.slice ca cn cc) ∧ w'.cell? ⟨kb, 2, none⟩ = some (.int .i64 (u.pk : Int)) ∧ w'.cell? ⟨kb, 3, none⟩ = some (.int .i64 (ixI u.ix)) ∧ w'.cell? ⟨G, 7, none⟩ = some (.slice a7 m.wh.length c7))) (by kernel_rfl) ⟨hcx, s0, s1, s2, s3, t7⟩ (fun hH0 => ?_)
        refine takeH 0 81 (v := ?vmt1) rfl rfl (by kernel_rfl) (by kernel_rfl) (by kernel_rfl) (fun _ _ _ h => h) (Or.inl ⟨by rfl, ?hmt1⟩) hH0 ?rmt1
        case hmt1 => (intro w hSw; obtain ⟨s0, s1, s2, s3, s4, s5⟩ := hSw; go_simp; (try with_reducible rfl))
        case rmt1 =>
        try simp only [Act.put, List.setIfInBounds_toArray, List.set_cons_zero, List.set_cons_succ]
        refine takeH 1 82 (v := ?vmt2) rfl rfl (by kernel_rfl) (by kernel_rfl) (by kernel_rfl) (fun _ _ _ h => h) (Or.inl ⟨by rfl, ?hmt2⟩) hH0 ?rmt2
        case hmt2 => (intro w hSw; clear hSw; go_simp; (try with_reducible rfl))
        case rmt2 =>
        try simp only [Act.put, List.setIfInBounds_toArray, List.set_cons_zero, List.set_cons_succ]
        refine takeH 2 83 (v := ?vmt3) rfl rfl (by kernel_rfl) (by kernel_rfl) (by kernel_rfl) (fun _ _ _ h => h) (Or.inl ⟨by rfl, ?hmt3⟩) hH0 ?rmt3
        case hmt3 => (intro w hSw; obtain ⟨s0, s1, s2, s3, s4, s5⟩ := hSw; go_simp; (try with_reducible rfl))
        case rmt3 =>
        try simp only [Act.put, List.setIfInBounds_toArray, List.set_cons_zero, List.set_cons_succ]
        refine takeH 3 84 (v := ?vmt4) rfl rfl (by kernel_rfl) (by kernel_rfl) (by kernel_rfl) (fun _ _ _ h => h) (Or.inl ⟨by rfl, ?hmt4⟩) hH0 ?rmt4
        case hmt4 => (intro w hSw; clear hSw; go_simp; (try with_reducible rfl))
        case rmt4 =>
        try simp only [Act.put, List.setIfInBounds_toArray, List.set_cons_zero, List.set_cons_succ]
        refine takeH 4 85 (v := ?vmt5) rfl rfl (by kernel_rfl) (by kernel_rfl) (by kernel_rfl) (fun _ _ _ h => h) (Or.inl ⟨by rfl, ?hmt5⟩) hH0 ?rmt5
        case hmt5 => (intro w hSw; clear hSw; go_simp; (try with_reducible rfl))
        case rmt5 =>
        try simp only [Act.put, List.setIfInBounds_toArray, List.set_cons_zero, List.set_cons_succ]
        refine takeH 5 86 (v := ?vmt6) rfl rfl (by kernel_rfl) (by kernel_rfl) (by kernel_rfl) (fun _ _ _ h => h) (Or.inl ⟨by rfl, ?hmt6⟩) hH0 ?rmt6
        case hmt6 => (intro w hSw; clear hSw; go_simp; (try with_reducible rfl))
        case rmt6 =>
        try simp only [Act.put, List.setIfInBounds_toArray, List.set_cons_zero, List.set_cons_succ]
        refine takeH 6 87 (v := ?vmt7) rfl rfl (by kernel_rfl) (by kernel_rfl) (by kernel_rfl) (fun _ _ _ h => h) (Or.inl ⟨by rfl, ?hmt7⟩) hH0 ?rmt7
        case hmt7 => (intro w hSw; obtain ⟨s0, s1, s2, s3, s4, s5⟩ := hSw; go_simp; (try with_reducible rfl))
        case rmt7 =>
        try simp only [Act.put, List.setIfInBounds_toArray, List.set_cons_zero, List.set_cons_succ]
        refine callH 7 (by kernel_rfl) rfl 88 rfl rfl 278 Tryz.func278 (by kernel_rfl) (by kernel_rfl) #[.tmp 81, .tmp 83, .tmp 87] #[79, 251, 95] rfl #[.agg #[.string tnm, .slice ca cn cc, .int .i64 (u.pk : Int), .int .i64 (ixI u.ix)], .slice a7 m.wh.length c7, .slice za zn zc] (by simp [Act.eval]) (R := fun v w' => v = .bool mb ∧ Only (fun _ => False) wr.drew w') ((unhide C1).mono (by rintro en w' ⟨rfl, o⟩; exact ⟨_, rfl, rfl, o⟩)) ?kmt
        case kmt =>
        rintro _ w6 ⟨rfl, o6⟩
        have S6 : w6.cell? ⟨rg, i, none⟩ = some (.slice za zn zc) ∧ w6.cell? ⟨kb, 0, none⟩ = some (.string tnm) ∧ w6.cell? ⟨kb, 1, none⟩ = some (.slice ca cn cc) ∧ w6.cell? ⟨kb, 2, none⟩ = some (.int .i64 (u.pk : Int)) ∧ w6.cell? ⟨kb, 3, none⟩ = some (.int .i64 (ixI u.ix)) ∧ w6.cell? ⟨G, 7, none⟩ = some (.slice a7 m.wh.length c7) := ⟨o6.cellS hH0.1, o6.cellS hH0.2.1, o6.cellS hH0.2.2.1, o6.cellS hH0.2.2.2.1, o6.cellS hH0.2.2.2.2.1, o6.cellS hH0.2.2.2.2.2⟩
        refine ⟨S6, ?_⟩
        try simp only [Act.put, List.setIfInBounds_toArray, List.set_cons_zero, List.set_cons_succ]
        refine wpAnyH_done (by kernel_rfl) ?_ _
        have oD : Only (fun _ => False) wr w6 := (Only.refl _ wr).drew.trans o6 (fun _ _ e => e)
        have HF := hide oD
        clear hH0 S6 o6 oD
        have HG6 := hide (unhide HG w6 (unhide HF))
        have hcx := (unhide HF).cellS hcx
        clear HF C1 s0 s1 s2 s3 sl t7 tl HG
        cases mb with
        | false =>
          go_wp2_with fail
          rw [← unhide Hra]
          go_roundg (gk - 1)
          case measure => omega
          case rel => exact ⟨i + 1, by omega, by go_num, by omega, by rw [unhide HTK2]; show GR 95 1 w4 _ (Zf ++ ([] : List (Value × List Vl))).length ((Zf ++ ([] : List (Value × List Vl))).map (fun x => x.1)) _; rw [List.append_nil, unhide Hzl]; exact unhide HG6⟩
        | true =>
          have own1 := (unhide HG6).own
          have hcl := cell_lt hcx
          go_wp2_with (at_builtin; refine wpList_append2 _ rfl _ _ 50 rfl 95 i0 _ 1 24 Tryz.underlying50 hi0 hz0 hz1 hz2 rfl (by decide) _ _ _ rfl (own1.alloc _) ⟨w6.heap.size, 0, none⟩ 1 1 [.slice za zn zc] rfl rfl ?f1 ?f2 ?f3 ?f4 ?_)
          (try case f1 => exact news_ok _ [.slice za zn zc] 95 _ rfl)
          case f2 => first | rfl | (intro u hu; simp at hu; subst hu; rfl)
          case f3 => unfold maxLen; omega
          case f4 => omega
          intro v' w9 hown hgrow hwhere
          have HQ := hide (GR.push (unhide HG6) hown hgrow hwhere)
          obtain ⟨va, vc, hv'⟩ := ownsRow_shape hown
          rw [hv'] at HQ ⊢
          clear hown hgrow hwhere own1 hv' hcx hcl HG6
          go_wp2_with fail
          rw [← unhide Hra]
          go_roundg (gk - 1)
          case measure => omega
          case rel => exact ⟨i + 1, by omega, by go_num, by omega, by rw [unhide HTK2]; show GR 95 1 w4 _ (Zf ++ [z]).length ((Zf ++ [z]).map (·.1)) _; rw [List.length_append, List.map_append, unhide Hzl]; show GR 95 1 w4 _ (zl + 1) (Zf.map (·.1) ++ [z.1]) _; rw [unhide Hzs]; exact unhide HQ⟩
      · have a1 : decide ((i : Int) < (rn : Int)) = false := decide_eq_false (by omega)
        have a1p : ¬ (i : Int) < (rn : Int) := by omega
        rw [List.take_of_length_le (by omega)] at hg
        obtain ⟨Zh, hZh⟩ : ∃ l, Z.filter (fun z => matB u.cols m.wh z.2) = l := ⟨_, rfl⟩
        rw [hZh] at hg
        have hZhm : Zh.map (·.2) = hitD u st.wh := by
          rw [← hZh, ← (unhide HTB).2]
          have e : (Z.filter (fun z => matB u.cols m.wh z.2)).map (·.2) = (Z.map (·.2)).filter (matB u.cols m.wh) := by rw [List.filter_map]; rfl
          rw [e, (unhide HR5).2]
          exact full_hit
        have hsubZ : Zh.Sublist Z := by rw [← hZh]; exact List.filter_sublist
        obtain ⟨hva, hvc, hhv⟩ := ownsRow_shape hg.own
        subst hhv
        obtain ⟨hn, hhn⟩ : ∃ n, Zh.length = n := ⟨_, rfl⟩
        rw [hhn] at hg ⊢
        have hRh : RL lim (.slice hva hn hvc) Zh wr := ⟨by rw [hhn]; exact hg.own, fun z hz => ⟨(((unhide HR5).1.quiet hg.ho).row z (hsubZ.subset hz)).1, ((unhide HR5).1.row z (hsubZ.subset hz)).2⟩, fun b hb => Nat.le_trans (unhide HLm) (hg.hb b hb), (unhide HR5).1.ap.sublist hsubZ⟩
        have HW45 := hide (show w4.heap.size ≤ wr.heap.size from hg.ho.size)
        have HI5 := hide ((unhide HI4).quiet hg.ho)
        have HGw5 := hide (show G + 2 ≤ wr.heap.size from (unhide HI5).rb.lt)
        have HE6 := hide ((unhide HE5).quiet hg.ho)
        have HL5 := hide ((unhide HL4).quiet hg.ho)
        have HRh := hide (And.intro hRh (And.intro hZhm (And.intro hhn (show ∀ z ∈ Zh, z.2 ∈ u.rows from fun z hz => unhide HZR z (hsubZ.subset hz)))))
        have hn8 : hn ≤ 8 := by rw [← hhn]; exact Nat.le_trans hsubZ.length_le hz8
        clear hg hRh hZhm hsubZ hZh HI4 HE5 HL4 HR5 hhn hz8 hgk hi hs
        obtain ⟨w5, hw5⟩ : ∃ x, x = wr := ⟨_, rfl⟩
        rw [← hw5] at HI5 HE6 HL5 HRh HW45 HGw5 ⊢
        clear hw5 wr
        have hr := unhide Hr2
        rw [if_neg (by rw [(unhide HOK).2.2.1]; decide)] at hr
        obtain ⟨hit, hhit⟩ : ∃ l, hitD u st.wh = l := ⟨_, rfl⟩
        have hc1 : RR = chgQ (M.setL s.toNat st.table 1) s st u hit := by
          rw [hr, chgD_congr (unhide HUT).1.symm (unhide HUT).2.symm, hhit]
          unfold chgQ
          rfl
        have hss := chk_sets (unhide HCZ)
        have hset : SetOk u.cols u.pk st.sets := fun c hc => ⟨⟨((unhide HOK).1.sets c hc).2, (hss c hc).2.2.2⟩, (hss c hc).1, (hss c hc).2.1, (hss c hc).2.2.1⟩
        have hsub : hit.Sublist u.rows := by rw [← hhit]; exact List.filter_sublist
        have hlen : hit.length = hn := by rw [← hhit, ← (unhide HRh).2.1, List.length_map]; exact (unhide HRh).2.2.1
        have hin := (unhide HOK).2.2.2.2.2.2.2.2.2
        have ok1 : MuOk (M.setL s.toNat st.table 1) := (unhide HOK).2.2.2.2.2.2.2.1.lock (unhide HU).2.2.2.1 (unhide HU).2.2.2.2 (tk0_bars hin (unhide Htk)) (.inl rfl)
        have HG := hide (show DGd ((M.setL s.toNat st.table 1).see s.toNat) ∧ findD ((M.setL s.toNat st.table 1).see s.toNat) st.table = some u ∧ SetOk u.cols u.pk st.sets ∧ hit.Sublist u.rows ∧ Zh.map (·.2) = hit ∧ hit.length = hn ∧ RR = chgQ (M.setL s.toNat st.table 1) s st u hit ∧ (∀ i, i ≤ hn → MuOk (MiQ (M.setL s.toNat st.table 1) s st u hit i)) from ⟨(unhide HU).2.2.1, (unhide HU).1, hset, hsub, by rw [← hhit]; exact (unhide HRh).2.1, hlen, hc1, fun i hi => ok1.chg (unhide HU).2.2.2.1 (unhide HU).2.2.2.2 hin (unhide HU).1 hset hsub (by omega)⟩)
        obtain ⟨tk2, htk2⟩ : ∃ z, (M.setL s.toNat st.table 1).tkE s st.table 2 = z := ⟨_, rfl⟩
        have Htk2 := hide htk2
        have HTK2 := hide (tk_or (M := (M.setL s.toNat st.table 1)) (mode := 2) hin (show findD (M.setL s.toNat st.table 1).com st.table ≠ none from unhide Hcom))
        rw [htk2] at HTK2
        have HCB := hide (show ∀ b, (Value.slice hva hn hvc).ownBlock = some b ∨ Zb Zh b → lim ≤ b ∧ b < w5.heap.size from fun b hb => hb.elim (fun h => ⟨(unhide HRh).1.nb b h, ownsRow_lt (unhide HRh).1.own b h⟩) (fun ⟨z, hz, h⟩ => ⟨((unhide HRh).1.row z hz).2 b h, ownsRow_lt ((unhide HRh).1.row z hz).1 b h⟩))
        have HBl := hide (show ∀ (Hi : Nat → Prop), (∀ b, Hi b → H1 b ∨ w5.heap.size ≤ b) → (∀ b, RnB G kb (.slice ca cn cc) (.slice a4 m.names.length c4) (.slice a5 m.vals.length c5) (.slice a7 m.wh.length c7) b → ¬ Hi b) ∧ (∀ b, (Value.slice hva hn hvc).ownBlock = some b ∨ Zb Zh b → ¬ Hi b) from fun Hi h => ⟨fun b hb c => (h b c).elim ((unhide HN1).2.2.1 b hb).1 (fun d => by have := ((unhide HN1).2.2.1 b hb).2; have := unhide HLm; have := unhide HW45; omega), fun b hb c => by
          have h5 := unhide HCB b hb
          exact (h b c).elim (fun d => by have := (unhide HN1).1 b d; omega) (fun d => by omega)⟩)
        have HAPZ := hide (unhide HRh).1.ap
        clear hr hhit hc1 hss hset hsub hlen hin ok1 htk2
        have t0 : w5.cell? ⟨G, 0, none⟩ = some (.int .i64 9) := (unhide HI5).sv.cell 0
        have tl := (unhide HI5).sv.lt
        go_upto_region 24 with fail
        clear t0 tl
        go_loopg [9, 13, 14] (hn + 1) (fun gk _ iv _ wr => ∃ (i : Nat) (Hi : Nat → Prop), gk + i = hn + 1 ∧ iv = .int .i64 i ∧ i ≤ hn ∧ (0 < i → tk2 = 0) ∧ RnI w H G kb #[.int .i64 9, .string m.table, .slice a2 n2 c2, .int .i64 m.pk, .slice a4 m.names.length c4, .slice a5 m.vals.length c5, .bool m.star, .slice a7 m.wh.length c7, .string m.order, .bool m.desc, .bool m.hasL, .int .i64 m.lim] #[.string tnm, .slice ca cn cc, .int .i64 (u.pk : Int), .int .i64 (ixI u.ix)] (.slice ca cn cc) u.cols (.slice a4 m.names.length c4) (.slice a5 m.vals.length c5) (.slice a7 m.wh.length c7) m wr ∧ ME wr k q (MiQ (M.setL s.toNat st.table 1) s st u hit i) Hi ∧ (∀ b, Hi b → H1 b ∨ w5.heap.size ≤ b) ∧ w5.heap.size ≤ wr.heap.size ∧ wr.ownsRow 0 95 1 (.slice hva hn hvc) Zh.length (Zh.map (·.1)) ∧ (∀ z ∈ Zh.drop i, OwnV wr z.1 z.2))
        case atStart => exact ⟨0, H1, rfl, rfl, Nat.zero_le _, fun h => by omega, unhide HI5, by unfold MiQ; rw [if_pos (.inl rfl)]; exact unhide HE6, fun b hb => .inl hb, Nat.le_refl _, (unhide HRh).1.own, fun z hz => ((unhide HRh).1.row z (by simpa using hz)).1⟩
        case round =>
          obtain ⟨i, Hi, hgk, rfl, hi, hi0, hI, hE, hHi, hszw, hoh, hZr⟩ := hrel
          have t0 : wr.cell? ⟨G, 0, none⟩ = some (.int .i64 9) := hI.sv.cell 0
          have tl := hI.sv.lt
          by_cases hs : i < hn
          · have a1 : decide ((i : Int) < (hn : Int)) = true := decide_eq_true (by omega)
            have a1p : (i : Int) < (hn : Int) := by omega
            obtain ⟨z, hz⟩ := getE (l := Zh) (i := i) (by rw [(unhide HRh).2.2.1]; exact hs)
            have hzm := List.mem_of_getElem? hz
            obtain ⟨hzlt, hzel⟩ := List.getElem?_eq_some_iff.mp hz
            have hdc : Zh.drop i = z :: Zh.drop (i + 1) := by rw [List.drop_eq_getElem_cons hzlt, hzel]
            have hzd : z ∈ Zh.drop i := by rw [hdc]; simp
            have hndr : ∀ z' ∈ Zh.drop (i + 1), z' ∈ Zh.drop i := fun z' hz' => by rw [hdc]; exact List.mem_cons_of_mem _ hz'
            have hrr : hit[i]? = some z.2 := by rw [← (unhide HG).2.2.2.2.1, List.getElem?_map, hz]; rfl
            have hrok := (unhide HU).2.1.row _ ((unhide HRh).2.2.2 z hzm)
            have hzl : z.2.length = u.cols.length := hrok.len
            have O1 := hZr z hzd
            obtain ⟨za, zc, hzs⟩ := O1.shape
            obtain ⟨zn, hzn⟩ : ∃ n, z.2.length = n := ⟨_, rfl⟩
            rw [hzn] at hzs
            rw [hzs] at O1
            obtain ⟨hg, hha⟩ : ∃ rg, hva = some ⟨rg, 0, none⟩ := by
              rcases hoh.2 with ⟨he, h0⟩ | ⟨g', cap', cur, he, _⟩
              · have := hzlt; omega
              · have := he
                simp at this
                exact ⟨g', this.1⟩
            have hcx : wr.cell? ⟨hg, i, none⟩ = some (.slice za zn zc) := by
              have hc0 := World.ownsRow.cells hoh (g := hg) (by rw [hha]; rfl) i z.1 (by rw [List.getElem?_map, hz]; rfl)
              rw [addr_add, hzs] at hc0
              simpa using hc0
            have pkn := (unhide HU).2.1.pkn
            obtain ⟨y, hy⟩ := getE (l := z.2) (i := u.pk) (by omega)
            have hyk : kyR u.pk z.2 = y := by unfold kyR; rw [hy]; rfl
            obtain ⟨zg, hza, v0, v1, v2⟩ := O1.at_ hy
            subst hza
            have bl := unhide HBl Hi hHi
            have hgb : (Value.slice hva hn hvc).ownBlock = some hg := by rw [hha]; rfl
            have hzb : Zb Zh zg := ⟨z, hzm, by rw [hzs]; rfl⟩
            have nk := hide hE.kH
            have nT := hide (bl.1 G (.inl rfl))
            have nS := hide (bl.1 kb (.inr (.inr (.inl rfl))))
            have nh := hide (bl.2 hg (.inl hgb))
            have nz := hide (bl.2 zg (.inr hzb))
            have HSTEP := hide (show ∀ (wa w' : World) (o1 : RnI w H G kb #[.int .i64 9, .string m.table, .slice a2 n2 c2, .int .i64 m.pk, .slice a4 m.names.length c4, .slice a5 m.vals.length c5, .bool m.star, .slice a7 m.wh.length c7, .string m.order, .bool m.desc, .bool m.hasL, .int .i64 m.lim] #[.string tnm, .slice ca cn cc, .int .i64 (u.pk : Int), .int .i64 (ixI u.ix)] (.slice ca cn cc) u.cols (.slice a4 m.names.length c4) (.slice a5 m.vals.length c5) (.slice a7 m.wh.length c7) m wa) (o2 : ME wa k q (MiQ (M.setL s.toNat st.table 1) s st u hit i) Hi) (o3 : wa.ownsRow 0 95 1 (.slice hva hn hvc) Zh.length (Zh.map (·.1))) (o4 : ∀ z ∈ Zh.drop (i + 1), OwnV wa z.1 z.2), w5.heap.size ≤ wa.heap.size → MX w' q (MiQ (M.setL s.toNat st.table 1) s st u hit (i + 1)) (Ext Hi wa w') → Only Hi wa w' → RnI w H G kb #[.int .i64 9, .string m.table, .slice a2 n2 c2, .int .i64 m.pk, .slice a4 m.names.length c4, .slice a5 m.vals.length c5, .bool m.star, .slice a7 m.wh.length c7, .string m.order, .bool m.desc, .bool m.hasL, .int .i64 m.lim] #[.string tnm, .slice ca cn cc, .int .i64 (u.pk : Int), .int .i64 (ixI u.ix)] (.slice ca cn cc) u.cols (.slice a4 m.names.length c4) (.slice a5 m.vals.length c5) (.slice a7 m.wh.length c7) m w' ∧ ME w' k q (MiQ (M.setL s.toNat st.table 1) s st u hit (i + 1)) (Ext Hi wa w') ∧ (∀ b, Ext Hi wa w' b → H1 b ∨ w5.heap.size ≤ b) ∧ w'.ownsRow 0 95 1 (.slice hva hn hvc) Zh.length (Zh.map (·.1)) ∧ (∀ z ∈ Zh.drop (i + 1), OwnV w' z.1 z.2) from fun wa w' o1 o2 o3 o4 hsz X o => ⟨o1.keep o (fun b hb => bl.1 b hb) (fun b hl h => (hHi b h).elim (fun c => ((unhide HN1).2.1 b c).elim id (fun c => by omega)) (fun c => by have := unhide HGw5; have := unhide HHg; omega)), o2.turn X o (fun b hb => hb.imp id (fun c => c.1)), fun b hb => hb.elim (hHi b) (fun c => .inr (by have := c.1; omega)), ownsRow_keep o3 o (fun b hb => bl.2 b (.inl hb)), fun z' hz' => (o4 z' hz').keep o (fun b hb => bl.2 b (.inr ⟨z', List.mem_of_mem_drop hz', hb⟩))⟩)
            have e0 : wr.cell? ⟨k, 0, none⟩ = some (.pointer (some ⟨q, 0, none⟩)) := hE.has.cell 0
            have kl := hE.kl
            have t1 : wr.cell? ⟨G, 1, none⟩ = some (.string m.table) := hI.sv.cell 1
            rw [(unhide HTB).1] at t1
            have s2 : wr.cell? ⟨kb, 2, none⟩ = some (.int .i64 (u.pk : Int)) := hI.sc.cell 2
            have sl := hI.sc.lt
            have zlt : (u.pk : Int) < (zn : Int) := by omega
            have Hha := hide hha
            have oD4 : Only (fun _ => False) wr wr.drew := (Only.refl _ wr).drew
            have hwf : ∀ v ∈ z.2, v.wf := fun v hv => (hrok.2 v hv).1
            have hnm : m.names = st.sets.map (·.col) := by rw [(unhide HOK).2.2.2.1]; show st.list ++ _ = _; rw [(unhide HOK).2.2.2.2.1.1]; rfl
            have hvl : m.vals = st.sets.map (·.lit) := by rw [(unhide HOK).2.2.2.1]; show st.lits ++ _ = _; rw [(unhide HOK).2.2.2.2.1.2]; rfl
            have HNV := hide (And.intro hnm hvl)
            have hnl : m.names.length = st.sets.length := by rw [hnm, List.length_map]
            have hvln : m.vals.length = st.sets.length := by rw [hvl, List.length_map]
            have HNL := hide (And.intro hnl hvln)
            have HI := hide (And.intro hI (And.intro hE (And.intro hoh (And.intro hZr (And.intro O1 hszw)))))
            have HZZ := hide (And.intro hzs (And.intro hgb (And.intro hzb (And.intro hz (And.intro hndr (And.intro hdc (And.intro hrr (And.intro hrok (And.intro hzl (And.intro hzn hzm))))))))))
            have HHi := hide hHi
            clear hI hE hHi hoh hZr O1 hy hyk bl hgb hzb oD4 hwf hndr hdc hzd hzel hzlt hrr hrok hzl hzn hzs hzm hz pkn hnm hvl hnl hvln hha e0 kl t1 s2 sl zlt hcx v0 v1 v2
            obtain ⟨wo, hwo⟩ : ∃ x, x = wr := ⟨_, rfl⟩
            rw [← hwo] at HI t0 tl ⊢
            have hszo : w5.heap.size ≤ wo.heap.size := (unhide HI).2.2.2.2.2
            clear hwo hszw wr
            go_upto_region 29 with fail
            clear t0 tl
            go_loopw [14] (fun jv wq => ∃ j : Nat, jv = .int .i64 j ∧ j ≤ st.sets.length ∧ OwnV wq (.slice (some ⟨zg, 0, none⟩) zn zc) (setR u.cols (st.sets.take j) z.2) ∧ Only (fun b => b = zg) wo wq) (fun jv _ => st.sets.length + 1 - (intOf jv).toNat)
            case atStart => exact ⟨0, rfl, Nat.zero_le _, (unhide HI).2.2.2.2.1, Only.refl _ _⟩
            case round =>
              obtain ⟨j, rfl, hj, hV, oQ⟩ := hrel
              have nzb : ∀ b, RnB G kb (.slice ca cn cc) (.slice a4 m.names.length c4) (.slice a5 m.vals.length c5) (.slice a7 m.wh.length c7) b → ¬ b = zg := fun b hb e => by
                have h1 := ((unhide HN1).2.2.1 b hb).2
                have h2 := (unhide HCB zg (.inr (unhide HZZ).2.2.1)).1
                omega
              have nzh : ∀ b, (Value.slice hva hn hvc).ownBlock = some b → ¬ b = zg := fun b hb e => by
                subst e
                obtain ⟨c0, hc0⟩ := ownsRow_has (unhide HI).2.2.1 hb
                exact ownsRow_ne (unhide HI).2.2.2.2.1 hc0 (by decide) b rfl rfl
              have hzlim := (unhide HCB zg (.inr (unhide HZZ).2.2.1))
              have hIq : RnI w H G kb #[.int .i64 9, .string m.table, .slice a2 n2 c2, .int .i64 m.pk, .slice a4 m.names.length c4, .slice a5 m.vals.length c5, .bool m.star, .slice a7 m.wh.length c7, .string m.order, .bool m.desc, .bool m.hasL, .int .i64 m.lim] #[.string tnm, .slice ca cn cc, .int .i64 (u.pk : Int), .int .i64 (ixI u.ix)] (.slice ca cn cc) u.cols (.slice a4 m.names.length c4) (.slice a5 m.vals.length c5) (.slice a7 m.wh.length c7) m wr := (unhide HI).1.keep oQ nzb (fun b hl (e : b = zg) => by have := (unhide HN1).2.2.2; have := unhide HHg; omega)
              have hEq : ME wr k q (MiQ (M.setL s.toNat st.table 1) s st u hit i) Hi := (unhide HI).2.1.keep oQ (fun b hb (e : b = zg) => by
                subst e
                rcases hb with c | c
                · exact unhide nz c
                · have := unhide HKl; omega)
              have hohq : wr.ownsRow 0 95 1 (.slice hva hn hvc) Zh.length (Zh.map (·.1)) := ownsRow_keep (unhide HI).2.2.1 oQ nzh
              have hcx : wr.cell? ⟨hg, i, none⟩ = some (.slice (some ⟨zg, 0, none⟩) zn zc) := by
                have hc0 := World.ownsRow.cells hohq (g := hg) (unhide HZZ).2.1 i z.1 (by rw [List.getElem?_map, (unhide HZZ).2.2.2.1]; rfl)
                rw [addr_add, (unhide HZZ).1] at hc0
                simpa using hc0
              have t4 : wr.cell? ⟨G, 4, none⟩ = some (.slice a4 m.names.length c4) := hIq.sv.cell 4
              have tl := hIq.sv.lt
              rw [(unhide HNL).1] at t4
              by_cases hjs : j < st.sets.length
              · have c1 : decide ((j : Int) < (st.sets.length : Int)) = true := decide_eq_true (by omega)
                have HJS := hide (show wrap64 ((j : Int) + 1) = ((j + 1 : Nat) : Int) ∧ j + 1 ≤ st.sets.length ∧ st.sets.length + 1 - (j + 1) < st.sets.length + 1 - j from ⟨by have := (unhide HOK).2.1.sets; unfold wrap64; omega, by omega, by omega⟩)
                have c1p : (j : Int) < (st.sets.length : Int) := by omega
                obtain ⟨c, hx⟩ := getE hjs
                obtain ⟨no, hno, x0⟩ := strs_at hIq.o4 (i := j) (x := c.col) (by rw [(unhide HNV).1, List.getElem?_map, hx]; rfl)
                obtain ⟨gv, hgv, v0, v1, v2⟩ := hIq.o5.at_ (i := j) (x := c.lit) (by rw [(unhide HNV).2, List.getElem?_map, hx]; rfl)
                have t5 : wr.cell? ⟨G, 5, none⟩ = some (.slice a5 m.vals.length c5) := hIq.sv.cell 5
                rw [(unhide HNL).2] at t5
                obtain ⟨q1, q2, q3, q4⟩ := (unhide HG).2.2.1 c (List.mem_of_getElem? hx)
                have hqr := qcol_rng u.cols c.col
                obtain ⟨mc, hm⟩ : ∃ m' : Nat, qcol u.cols c.col = (m' : Int) := ⟨(qcol u.cols c.col).toNat, by omega⟩
                have hsl2 : (setR u.cols (st.sets.take j) z.2).length = zn := by rw [setR_len]; exact (unhide HZZ).2.2.2.2.2.2.2.2.2.1
                have hzl2 := (unhide HZZ).2.2.2.2.2.2.2.2.1
                have hzn2 := (unhide HZZ).2.2.2.2.2.2.2.2.2.1
                have hmz : mc < (setR u.cols (st.sets.take j) z.2).length := by omega
                have s0 : wr.cell? ⟨kb, 0, none⟩ = some (.string tnm) := hIq.sc.cell 0
                have s1 : wr.cell? ⟨kb, 1, none⟩ = some (.slice ca cn cc) := hIq.sc.cell 1
                have s2 : wr.cell? ⟨kb, 2, none⟩ = some (.int .i64 (u.pk : Int)) := hIq.sc.cell 2
                have s3 : wr.cell? ⟨kb, 3, none⟩ = some (.int .i64 (ixI u.ix)) := hIq.sc.cell 3
                have oD : Only (fun _ => False) wr wr.drew := (Only.refl _ wr).drew
                have C1 := smcolOf_any (tn := tnm) (pk := (u.pk : Int)) (ix := ixI u.ix) (hIq.oc.keep oD (fun _ _ e => e)) (by have := (unhide HU).2.1.n3; omega) c.col
                unfold schU at C1
                rw [hm] at C1
                have C1 := hide C1
                have hmzp : (mc : Int) < (zn : Int) := by omega
                have HNX := hide (show setR u.cols (st.sets.take (j + 1)) z.2 = (setR u.cols (st.sets.take j) z.2).set mc c.lit by unfold setR; rw [List.take_add_one, hx, Option.toList_some, List.foldl_append]; show List.set _ (qcol u.cols c.col).toNat c.lit = _; rw [hm]; rfl)
                subst hno hgv
                have HSB := hide (show ∀ W, Only (fun b => b = zg) wr W → (W.cell? ⟨hg, i, none⟩ = some (.slice (some ⟨zg, 0, none⟩) zn zc) ∧ W.cell? ⟨kb, 0, none⟩ = some (.string tnm) ∧ W.cell? ⟨kb, 1, none⟩ = some (.slice ca cn cc) ∧ W.cell? ⟨kb, 2, none⟩ = some (.int .i64 (u.pk : Int)) ∧ W.cell? ⟨kb, 3, none⟩ = some (.int .i64 (ixI u.ix)) ∧ W.cell? ⟨G, 4, none⟩ = some (.slice (some ⟨no, 0, none⟩) st.sets.length c4) ∧ W.cell? ⟨no, j, none⟩ = some (.string c.col) ∧ W.cell? ⟨G, 5, none⟩ = some (.slice (some ⟨gv, 0, none⟩) st.sets.length c5) ∧ W.cell? ⟨gv, j * 3, none⟩ = some (.bool c.lit.str) ∧ W.cell? ⟨gv, j * 3 + 1, none⟩ = some (.int .i64 c.lit.i) ∧ W.cell? ⟨gv, j * 3 + 2, none⟩ = some (.string c.lit.s)) from fun W o => ⟨cell_keep hcx o (nzh _ (unhide HZZ).2.1), cell_keep s0 o (nzb _ (.inr (.inr (.inl rfl)))), cell_keep s1 o (nzb _ (.inr (.inr (.inl rfl)))), cell_keep s2 o (nzb _ (.inr (.inr (.inl rfl)))), cell_keep s3 o (nzb _ (.inr (.inr (.inl rfl)))), cell_keep t4 o (nzb _ (.inl rfl)), cell_keep x0 o (nzb _ (.inr (.inr (.inr (.inr (.inl rfl)))))), cell_keep t5 o (nzb _ (.inl rfl)), cell_keep v0 o (nzb _ (.inr (.inr (.inr (.inr (.inr (.inl rfl))))))), cell_keep v1 o (nzb _ (.inr (.inr (.inr (.inr (.inr (.inl rfl))))))), cell_keep v2 o (nzb _ (.inr (.inr (.inr (.inr (.inr (.inl rfl)))))))⟩)
                have hsb0 := unhide HSB wr (Only.refl _ _)
                have HV := hide (And.intro hV (And.intro hmz oQ))
                rw [unhide Hha]
                clear hIq hEq hohq nzb nzh hV oQ hx hm hqr q1 q2 q3 q4 hsl2 hzl2 hzn2 hmz oD
                go_upto_region 31 with fail
                refine wp_region_held_drew (S := (fun w' => w'.cell? ⟨hg, i, none⟩ = some (.slice (some ⟨zg, 0, none⟩) zn zc) ∧ w'.cell? ⟨kb, 0, none⟩ = some (.string tnm) ∧ w'.cell? ⟨kb, 1, none⟩ = some (.slice ca cn cc) ∧ w'.cell? ⟨kb, 2, none⟩ = some (.int .i64 (u.pk : Int)) ∧ w'.cell? ⟨kb, 3, none⟩ = some (.int .i64 (ixI u.ix)) ∧ w'.cell? ⟨G, 4, none⟩ = some (.slice (some ⟨no, 0, none⟩) st.sets.length c4) ∧ w'.cell? ⟨no, j, none⟩ = some (.string c.col) ∧ w'.cell? ⟨G, 5, none⟩ = some (.slice (some ⟨gv, 0, none⟩) st.sets.length c5) ∧ w'.cell? ⟨gv, j * 3, none⟩ = some (.bool c.lit.str) ∧ w'.cell? ⟨gv, j * 3 + 1, none⟩ = some (.int .i64 c.lit.i) ∧ w'.cell? ⟨gv, j * 3 + 2, none⟩ = some (.string c.lit.s))) (by kernel_rfl) hsb0 (fun hH0 => ?_)
                refine takeH 0 135 (v := ?vcb1) rfl rfl (by kernel_rfl) (by kernel_rfl) (by kernel_rfl) (fun _ _ _ h => h) (Or.inl ⟨by rfl, ?hcb1⟩) hH0 ?rcb1
                case hcb1 => (intro w hSw; clear hSw; go_simp; (try with_reducible rfl))
                case rcb1 =>
                try simp only [Act.put, List.setIfInBounds_toArray, List.set_cons_zero, List.set_cons_succ]
                refine takeH 1 136 (v := ?vcb2) rfl rfl (by kernel_rfl) (by kernel_rfl) (by kernel_rfl) (fun _ _ _ h => h) (Or.inl ⟨by rfl, ?hcb2⟩) hH0 ?rcb2
                case hcb2 => (intro w hSw; clear hSw; go_simp; (try with_reducible rfl))
                case rcb2 =>
                try simp only [Act.put, List.setIfInBounds_toArray, List.set_cons_zero, List.set_cons_succ]
                refine takeH 2 137 (v := ?vcb3) rfl rfl (by kernel_rfl) (by kernel_rfl) (by kernel_rfl) (fun _ _ _ h => h) (Or.inl ⟨by rfl, ?hcb3⟩) hH0 ?rcb3
                case hcb3 => (intro w hSw; clear hSw; go_simp; (try with_reducible rfl))
                case rcb3 =>
                try simp only [Act.put, List.setIfInBounds_toArray, List.set_cons_zero, List.set_cons_succ]
                refine takeH 3 138 (v := ?vcb4) rfl rfl (by kernel_rfl) (by kernel_rfl) (by kernel_rfl) (fun _ _ _ h => h) (Or.inl ⟨by rfl, ?hcb4⟩) hH0 ?rcb4
                case hcb4 => (intro w hSw; obtain ⟨s0, s1, s2, s3, s4, s5, s6, s7, s8, s9, s10⟩ := hSw; go_simp; (try with_reducible rfl))
                case rcb4 =>
                try simp only [Act.put, List.setIfInBounds_toArray, List.set_cons_zero, List.set_cons_succ]
                refine takeH 4 139 (v := ?vcb5) rfl rfl (by kernel_rfl) (by kernel_rfl) (by kernel_rfl) (fun _ _ _ h => h) (Or.inl ⟨by rfl, ?hcb5⟩) hH0 ?rcb5
                case hcb5 => (intro w hSw; obtain ⟨s0, s1, s2, s3, s4, s5, s6, s7, s8, s9, s10⟩ := hSw; go_simp; (try with_reducible rfl))
                case rcb5 =>
                try simp only [Act.put, List.setIfInBounds_toArray, List.set_cons_zero, List.set_cons_succ]
                refine takeH 5 140 (v := ?vcb6) rfl rfl (by kernel_rfl) (by kernel_rfl) (by kernel_rfl) (fun _ _ _ h => h) (Or.inl ⟨by rfl, ?hcb6⟩) hH0 ?rcb6
                case hcb6 => (intro w hSw; clear hSw; go_simp; (try with_reducible rfl))
                case rcb6 =>
                try simp only [Act.put, List.setIfInBounds_toArray, List.set_cons_zero, List.set_cons_succ]
                refine takeH 6 141 (v := ?vcb7) rfl rfl (by kernel_rfl) (by kernel_rfl) (by kernel_rfl) (fun _ _ _ h => h) (Or.inl ⟨by rfl, ?hcb7⟩) hH0 ?rcb7
                case hcb7 => (intro w hSw; obtain ⟨s0, s1, s2, s3, s4, s5, s6, s7, s8, s9, s10⟩ := hSw; go_simp; (try with_reducible rfl))
                case rcb7 =>
                try simp only [Act.put, List.setIfInBounds_toArray, List.set_cons_zero, List.set_cons_succ]
                refine takeH 7 142 (v := ?vcb8) rfl rfl (by kernel_rfl) (by kernel_rfl) (by kernel_rfl) (fun _ _ _ h => h) (Or.inl ⟨by rfl, ?hcb8⟩) hH0 ?rcb8
                case hcb8 => (intro w hSw; clear hSw; go_simp; (try with_reducible rfl))
                case rcb8 =>
                try simp only [Act.put, List.setIfInBounds_toArray, List.set_cons_zero, List.set_cons_succ]
                refine takeH 8 143 (v := ?vcb9) rfl rfl (by kernel_rfl) (by kernel_rfl) (by kernel_rfl) (fun _ _ _ h => h) (Or.inl ⟨by rfl, ?hcb9⟩) hH0 ?rcb9
                case hcb9 => (intro w hSw; clear hSw; go_simp; (try with_reducible rfl))
                case rcb9 =>
                try simp only [Act.put, List.setIfInBounds_toArray, List.set_cons_zero, List.set_cons_succ]
                refine takeH 9 144 (v := ?vcb10) rfl rfl (by kernel_rfl) (by kernel_rfl) (by kernel_rfl) (fun _ _ _ h => h) (Or.inl ⟨by rfl, ?hcb10⟩) hH0 ?rcb10
                case hcb10 => (intro w hSw; obtain ⟨s0, s1, s2, s3, s4, s5, s6, s7, s8, s9, s10⟩ := hSw; go_simp; (try with_reducible rfl))
                case rcb10 =>
                try simp only [Act.put, List.setIfInBounds_toArray, List.set_cons_zero, List.set_cons_succ]
                refine takeH 11 146 (v := ?vcb11) rfl rfl (by kernel_rfl) (by kernel_rfl) (by kernel_rfl) (fun _ _ _ h => h) (Or.inl ⟨by rfl, ?hcb11⟩) hH0 ?rcb11
                case hcb11 => (intro w hSw; clear hSw; go_simp; (try with_reducible rfl))
                case rcb11 =>
                try simp only [Act.put, List.setIfInBounds_toArray, List.set_cons_zero, List.set_cons_succ]
                refine takeH 12 147 (v := ?vcb12) rfl rfl (by kernel_rfl) (by kernel_rfl) (by kernel_rfl) (fun _ _ _ h => h) (Or.inl ⟨by rfl, ?hcb12⟩) hH0 ?rcb12
                case hcb12 => (intro w hSw; obtain ⟨s0, s1, s2, s3, s4, s5, s6, s7, s8, s9, s10⟩ := hSw; go_simp; (try with_reducible rfl))
                case rcb12 =>
                try simp only [Act.put, List.setIfInBounds_toArray, List.set_cons_zero, List.set_cons_succ]
                refine takeH 13 148 (v := ?vcb13) rfl rfl (by kernel_rfl) (by kernel_rfl) (by kernel_rfl) (fun _ _ _ h => h) (Or.inl ⟨by rfl, ?hcb13⟩) hH0 ?rcb13
                case hcb13 => (intro w hSw; clear hSw; go_simp; (try with_reducible rfl))
                case rcb13 =>
                try simp only [Act.put, List.setIfInBounds_toArray, List.set_cons_zero, List.set_cons_succ]
                refine takeH 14 149 (v := ?vcb14) rfl rfl (by kernel_rfl) (by kernel_rfl) (by kernel_rfl) (fun _ _ _ h => h) (Or.inl ⟨by rfl, ?hcb14⟩) hH0 ?rcb14
                case hcb14 => (intro w hSw; clear hSw; go_simp; (try with_reducible rfl))
                case rcb14 =>
                try simp only [Act.put, List.setIfInBounds_toArray, List.set_cons_zero, List.set_cons_succ]
                refine takeH 15 150 (v := ?vcb15) rfl rfl (by kernel_rfl) (by kernel_rfl) (by kernel_rfl) (fun _ _ _ h => h) (Or.inl ⟨by rfl, ?hcb15⟩) hH0 ?rcb15
                case hcb15 => (intro w hSw; obtain ⟨s0, s1, s2, s3, s4, s5, s6, s7, s8, s9, s10⟩ := hSw; go_simp; (try with_reducible rfl))
                case rcb15 =>
                try simp only [Act.put, List.setIfInBounds_toArray, List.set_cons_zero, List.set_cons_succ]
                refine callH 10 (by kernel_rfl) rfl 145 rfl rfl 273 Tryz.func273 (by kernel_rfl) (by kernel_rfl) #[.tmp 139, .tmp 144] #[79, 9] rfl #[.agg #[.string tnm, .slice ca cn cc, .int .i64 (u.pk : Int), .int .i64 (ixI u.ix)], .string c.col] (by simp [Act.eval]) (R := fun v w' => v = .int .i64 (mc : Int) ∧ Only (fun _ => False) wr.drew w') ((unhide C1).mono (by rintro en w' ⟨rfl, o⟩; exact ⟨_, rfl, rfl, o⟩)) ?kcc
                case kcc =>
                rintro _ w6 ⟨rfl, o6⟩
                have oE : Only (fun _ => False) wr w6 := (Only.refl _ wr).drew.trans o6 (fun _ _ e => e)
                have S6 := unhide HSB w6 (oE.mono (fun _ _ e => e.elim))
                refine ⟨S6, ?_⟩
                try simp only [Act.put, List.setIfInBounds_toArray, List.set_cons_zero, List.set_cons_succ]
                refine takeH 16 151 (v := ?vcb16) rfl rfl (by kernel_rfl) (by kernel_rfl) (by kernel_rfl) (fun _ _ _ h => h) (Or.inl ⟨by rfl, ?hcb16⟩) S6 ?rcb16
                case hcb16 => (intro w hSw; clear hSw; go_simp; (try with_reducible rfl))
                case rcb16 =>
                try simp only [Act.put, List.setIfInBounds_toArray, List.set_cons_zero, List.set_cons_succ]
                have hV6 := (unhide HV).1.keep oE (fun _ _ e => e)
                refine storeH_any 17 (by kernel_rfl) rfl rfl rfl 152 _ _ rfl ⟨zg, mc * 3, none⟩ (.agg #[.bool c.lit.str, .int .i64 c.lit.i, .string c.lit.s]) rfl rfl (hV6.storev (unhide HV).2.1 c.lit) (unhide HSB _ ((oE.mono (fun _ _ e => e.elim)).trans (only_setVl w6 zg mc c.lit) (fun _ _ e => e))) ?_
                try simp only [Act.put, List.setIfInBounds_toArray, List.set_cons_zero, List.set_cons_succ]
                refine wpAnyH_done (by kernel_rfl) ?_ _
                have HQ := hide (And.intro (hV6.setv (unhide HV).2.1 c.lit) ((unhide HV).2.2.trans ((oE.mono (fun _ _ e => e.elim)).trans (only_setVl w6 zg mc c.lit) (fun _ _ e => e)) (fun _ _ e => e)))
                rw [← unhide HNX] at HQ
                clear hV6 o6 oE S6 C1 HSB hsb0 hcx s0 s1 s2 s3 t4 t5 x0 v0 v1 v2 HV HNX tl
                go_wp2_with fail
                go_roundw
                case rel => exact ⟨j + 1, by rw [(unhide HJS).1], (unhide HJS).2.1, (unhide HQ).1, (unhide HQ).2⟩
                case measure => rw [(unhide HJS).1]; exact (unhide HJS).2.2
              · have c1 : decide ((j : Int) < (st.sets.length : Int)) = false := decide_eq_false (by omega)
                have c1p : ¬ (j : Int) < (st.sets.length : Int) := by omega
                have hjE : st.sets.take j = st.sets := List.take_of_length_le (by omega)
                rw [hjE] at hV
                have e0 : wr.cell? ⟨k, 0, none⟩ = some (.pointer (some ⟨q, 0, none⟩)) := hEq.has.cell 0
                have kl := hEq.kl
                have t1 : wr.cell? ⟨G, 1, none⟩ = some (.string m.table) := hIq.sv.cell 1
                rw [(unhide HTB).1] at t1
                have oD4 : Only (fun _ => False) wr wr.drew := (Only.refl _ wr).drew
                have hwf2 : ∀ v ∈ setR u.cols st.sets z.2, v.wf := fun v hv => ((setR_ok st.sets z.2 (unhide HG).2.2.1 (unhide HZZ).2.2.2.2.2.2.2.1).1.2 v hv).1
                have hlen2 : (setR u.cols st.sets z.2).length ≤ 200 := by rw [setR_len, (unhide HZZ).2.2.2.2.2.2.2.2.1]; have := (unhide HU).2.1.n3; omega
                have CD := xmupdate_any (hEq.mx.quiet oD4) ((unhide HG).2.2.2.2.2.2.2 i hi) s st.table (hV.keep oD4 (fun _ _ e => e)) (fun b hb c => by (have hb' : zg = b := by simpa [Value.ownBlock] using hb); exact unhide nz (by rw [hb']; exact c)) hwf2 hlen2
                have CD : Calls Tryz.prog 281 #[.pointer (some ⟨q, 0, none⟩), .int .i64 s, .string st.table, .slice (some ⟨zg, 0, none⟩) zn zc] wr.drew fun e w' => ∃ v, e = .returned v ∧ v = .int .i64 tk2 ∧ MX w' q (MiQ (M.setL s.toNat st.table 1) s st u hit (i + 1)) (Ext Hi wr.drew w') ∧ Only Hi wr.drew w' := CD.mono (by
                  intro e w' h
                  obtain ⟨rfl, h2, h3⟩ := mchg_step (unhide HG).1 (unhide HG).2.1 (unhide HG).2.2.1 (unhide HG).2.2.2.1 (unhide HZZ).2.2.2.2.2.2.1 (fun D => by unfold chg1; rw [if_neg (by rw [(unhide HOK).2.2.1]; decide)]) h
                  exact ⟨_, rfl, by rw [unhide Htk2], h2, h3⟩)
                have CD := hide CD
                have HJ := hide (And.intro (hIq.quiet oD4) (And.intro (hEq.quiet oD4) (And.intro (ownsRow_keep hohq oD4 (fun _ _ e => e)) (And.intro (show ∀ z' ∈ Zh.drop (i + 1), OwnV wr.drew z'.1 z'.2 from fun z' hz' => by
                  have hp3 : ApZ (Zh.drop i) := (unhide HAPZ).sublist (List.drop_sublist _ _)
                  rw [(unhide HZZ).2.2.2.2.2.1] at hp3
                  have hz1 : z'.1.ownBlock ≠ some zg := (List.pairwise_cons.mp hp3).1 z' hz' zg (by rw [(unhide HZZ).1]; rfl)
                  exact (((unhide HI).2.2.2.1 z' ((unhide HZZ).2.2.2.2.1 z' hz')).keep oQ (fun b hb (e : b = zg) => hz1 (by rw [← e]; exact hb))).keep oD4 (fun _ _ e => e)) (show w5.heap.size ≤ wr.drew.heap.size from Nat.le_trans hszo oQ.size)))))
                clear hIq hEq hohq nzb nzh hV oQ oD4 hwf2 hlen2 hjE hzlim
                rw [unhide Hha]
                go_upto_region 32 with fail
                refine wp_region_held_drew (S := (fun w' => w'.cell? ⟨k, 0, none⟩ = some (.pointer (some ⟨q, 0, none⟩)) ∧ w'.cell? ⟨G, 1, none⟩ = some (.string st.table) ∧ w'.cell? ⟨hg, i, none⟩ = some (.slice (some ⟨zg, 0, none⟩) zn zc))) (by kernel_rfl) ⟨e0, t1, hcx⟩ (fun hH0 => ?_)
                refine takeH 0 152 (v := ?vud1) rfl rfl (by kernel_rfl) (by kernel_rfl) (by kernel_rfl) (fun _ _ _ h => h) (Or.inl ⟨by rfl, ?hud1⟩) hH0 ?rud1
                case hud1 => (intro w hSw; clear hSw; go_simp; (try with_reducible rfl))
                case rud1 =>
                try simp only [Act.put, List.setIfInBounds_toArray, List.set_cons_zero, List.set_cons_succ]
                refine takeH 1 153 (v := ?vud2) rfl rfl (by kernel_rfl) (by kernel_rfl) (by kernel_rfl) (fun _ _ _ h => h) (Or.inl ⟨by rfl, ?hud2⟩) hH0 ?rud2
                case hud2 => (intro w hSw; clear hSw; go_simp; (try with_reducible rfl))
                case rud2 =>
                try simp only [Act.put, List.setIfInBounds_toArray, List.set_cons_zero, List.set_cons_succ]
                refine takeH 2 154 (v := ?vud3) rfl rfl (by kernel_rfl) (by kernel_rfl) (by kernel_rfl) (fun _ _ _ h => h) (Or.inl ⟨by rfl, ?hud3⟩) hH0 ?rud3
                case hud3 => (intro w hSw; clear hSw; go_simp; (try with_reducible rfl))
                case rud3 =>
                try simp only [Act.put, List.setIfInBounds_toArray, List.set_cons_zero, List.set_cons_succ]
                refine takeH 3 155 (v := ?vud4) rfl rfl (by kernel_rfl) (by kernel_rfl) (by kernel_rfl) (fun _ _ _ h => h) (Or.inl ⟨by rfl, ?hud4⟩) hH0 ?rud4
                case hud4 => (intro w hSw; obtain ⟨s0, s1, s2⟩ := hSw; go_simp; (try with_reducible rfl))
                case rud4 =>
                try simp only [Act.put, List.setIfInBounds_toArray, List.set_cons_zero, List.set_cons_succ]
                refine takeH 4 156 (v := ?vud5) rfl rfl (by kernel_rfl) (by kernel_rfl) (by kernel_rfl) (fun _ _ _ h => h) (Or.inl ⟨by rfl, ?hud5⟩) hH0 ?rud5
                case hud5 => (intro w hSw; clear hSw; go_simp; (try with_reducible rfl))
                case rud5 =>
                try simp only [Act.put, List.setIfInBounds_toArray, List.set_cons_zero, List.set_cons_succ]
                refine takeH 5 157 (v := ?vud6) rfl rfl (by kernel_rfl) (by kernel_rfl) (by kernel_rfl) (fun _ _ _ h => h) (Or.inl ⟨by rfl, ?hud6⟩) hH0 ?rud6
                case hud6 => (intro w hSw; clear hSw; go_simp; (try with_reducible rfl))
                case rud6 =>
                try simp only [Act.put, List.setIfInBounds_toArray, List.set_cons_zero, List.set_cons_succ]
                refine takeH 6 158 (v := ?vud7) rfl rfl (by kernel_rfl) (by kernel_rfl) (by kernel_rfl) (fun _ _ _ h => h) (Or.inl ⟨by rfl, ?hud7⟩) hH0 ?rud7
                case hud7 => (intro w hSw; obtain ⟨s0, s1, s2⟩ := hSw; go_simp; (try with_reducible rfl))
                case rud7 =>
                try simp only [Act.put, List.setIfInBounds_toArray, List.set_cons_zero, List.set_cons_succ]
                refine takeH 7 159 (v := ?vud8) rfl rfl (by kernel_rfl) (by kernel_rfl) (by kernel_rfl) (fun _ _ _ h => h) (Or.inl ⟨by rfl, ?hud8⟩) hH0 ?rud8
                case hud8 => (intro w hSw; clear hSw; go_simp; (try with_reducible rfl))
                case rud8 =>
                try simp only [Act.put, List.setIfInBounds_toArray, List.set_cons_zero, List.set_cons_succ]
                refine takeH 8 160 (v := ?vud9) rfl rfl (by kernel_rfl) (by kernel_rfl) (by kernel_rfl) (fun _ _ _ h => h) (Or.inl ⟨by rfl, ?hud9⟩) hH0 ?rud9
                case hud9 => (intro w hSw; clear hSw; go_simp; (try with_reducible rfl))
                case rud9 =>
                try simp only [Act.put, List.setIfInBounds_toArray, List.set_cons_zero, List.set_cons_succ]
                refine takeH 9 161 (v := ?vud10) rfl rfl (by kernel_rfl) (by kernel_rfl) (by kernel_rfl) (fun _ _ _ h => h) (Or.inl ⟨by rfl, ?hud10⟩) hH0 ?rud10
                case hud10 => (intro w hSw; clear hSw; go_simp; (try with_reducible rfl))
                case rud10 =>
                try simp only [Act.put, List.setIfInBounds_toArray, List.set_cons_zero, List.set_cons_succ]
                refine takeH 10 162 (v := ?vud11) rfl rfl (by kernel_rfl) (by kernel_rfl) (by kernel_rfl) (fun _ _ _ h => h) (Or.inl ⟨by rfl, ?hud11⟩) hH0 ?rud11
                case hud11 => (intro w hSw; obtain ⟨s0, s1, s2⟩ := hSw; go_simp; (try with_reducible rfl))
                case rud11 =>
                try simp only [Act.put, List.setIfInBounds_toArray, List.set_cons_zero, List.set_cons_succ]
                refine callH 11 (by kernel_rfl) rfl 163 rfl rfl 281 Tryz.func281 (by kernel_rfl) (by kernel_rfl) #[.tmp 155, .tmp 156, .tmp 158, .tmp 162] #[104, 3, 9, 95] rfl #[.pointer (some ⟨q, 0, none⟩), .int .i64 s, .string st.table, .slice (some ⟨zg, 0, none⟩) zn zc] (by simp [Act.eval]) (R := fun v w' => v = .int .i64 tk2 ∧ MX w' q (MiQ (M.setL s.toNat st.table 1) s st u hit (i + 1)) (Ext Hi wr.drew w') ∧ Only Hi wr.drew w') (unhide CD) ?kud
                case kud =>
                rintro _ w6 ⟨rfl, hX, o6⟩
                have S6 : w6.cell? ⟨k, 0, none⟩ = some (.pointer (some ⟨q, 0, none⟩)) ∧ w6.cell? ⟨G, 1, none⟩ = some (.string st.table) ∧ w6.cell? ⟨hg, i, none⟩ = some (.slice (some ⟨zg, 0, none⟩) zn zc) := ⟨cell_keep (hH0.1) o6 (unhide nk), cell_keep (hH0.2.1) o6 (unhide nT), cell_keep (hH0.2.2) o6 (unhide nh)⟩
                refine ⟨S6, ?_⟩
                try simp only [Act.put, List.setIfInBounds_toArray, List.set_cons_zero, List.set_cons_succ]
                refine takeH 12 9 (v := ?vud12) rfl rfl (by kernel_rfl) (by kernel_rfl) (by kernel_rfl) (fun _ _ _ h => h) (Or.inl ⟨by rfl, ?hud12⟩) S6 ?rud12
                case hud12 => (intro w hSw; clear hSw; go_simp; (try with_reducible rfl))
                case rud12 =>
                try simp only [Act.put, List.setIfInBounds_toArray, List.set_cons_zero, List.set_cons_succ]
                refine wpAnyH_done (by kernel_rfl) ?_ _
                have oD : Only (Hi) wr w6 := (Only.refl (Hi) wr).drew.trans o6 (fun _ _ e => e)
                clear hH0 S6
                have hs6 := unhide HSTEP wr.drew w6 (unhide HJ).1 (unhide HJ).2.1 (unhide HJ).2.2.1 (unhide HJ).2.2.2.1 (unhide HJ).2.2.2.2 hX o6
                have sz6 := o6.size
                have HS := hide (show _ ∧ _ ∧ _ ∧ w5.heap.size ≤ w6.heap.size ∧ _ ∧ _ from ⟨hs6.1, hs6.2.1, hs6.2.2.1, Nat.le_trans (unhide HJ).2.2.2.2 sz6, hs6.2.2.2.1, hs6.2.2.2.2⟩)
                clear hs6 sz6 hX o6 oD CD HJ HSTEP e0 kl tl t1 t4 hcx nk nT nS nh nz HZZ HI
                rw [← unhide Hha]
                rcases unhide HTK2 with h0 | h0
                case inl =>
                  subst h0
                  go_wp2_with fail
                  go_roundg (gk - 1)
                  case measure => omega
                  case rel => exact ⟨i + 1, _, by omega, by go_num, by omega, fun _ => (by first | rfl | trivial), (unhide HS).1, (unhide HS).2.1, (unhide HS).2.2.1, (unhide HS).2.2.2.1, (unhide HS).2.2.2.2.1, (unhide HS).2.2.2.2.2⟩
                have hi00 : i = 0 := by
                  by_cases c : 0 < i
                  · have := hi0 c; omega
                  · omega
                subst hi00
                subst h0
                have hne : hit ≠ [] := fun c => by have := (unhide HG).2.2.2.2.2.1; rw [c] at this; simp at this; omega
                have hrq : RR = ((M.setL s.toNat st.table 1), Rs.err 21) := by rw [(unhide HG).2.2.2.2.2.2.1, chgQ_busy hne (by rw [unhide Htk2]; decide), unhide Htk2]
                have HR2 := hide (show RR.2 = Rs.err 21 by rw [hrq])
                have HQx := hide (show ∃ HX, ME w6 k q RR.1 HX ∧ (∀ b, HX b → H b ∨ w.heap.size ≤ b) ∧ ¬ HX (G + 1) ∧ Only H w w6 from ⟨_, by have h := (unhide HS).2.1; rw [MiQ_no (by rw [unhide Htk2]; decide)] at h; rw [hrq]; exact h, fun b hb => ((unhide HS).2.2.1 b hb).elim ((unhide HN1).2.1 b) (fun c => .inr (by have := unhide HGw5; have := unhide HHg; omega)), ((unhide HBl) _ (unhide HS).2.2.1).1 (G + 1) (.inr (.inl rfl)), (unhide HS).1.on⟩)
                have HRBx := hide (unhide HS).1.rb
                clear hrq hne
                have CF := hide (smfailE_any 21 w6)
                go_wp2_with fail
                refine (unhide CF).mono ?_
                rintro e w7 ⟨rfl, o7⟩
                have RB7 := (unhide HRBx).keep o7 (fun e => e)
                have HO7 := hide o7
                have r0 : w7.cell? ⟨G + 1, 0, none⟩ = some (.int .i64 0) := RB7.cell 0
                have r1 : w7.cell? ⟨G + 1, 1, none⟩ = some (.int .i64 0) := RB7.cell 1
                have r2 : w7.cell? ⟨G + 1, 2, none⟩ = some (.slice none 0 0) := RB7.cell 2
                have r3 : w7.cell? ⟨G + 1, 3, none⟩ = some (.slice none 0 0) := RB7.cell 3
                have rf0 := RB7.free 0
                have rf1 := RB7.free 1
                have rf2 := RB7.free 2
                have rf3 := RB7.free 3
                have rl := RB7.lt
                have H5 := has_setAll [.int .i64 21, .int .i64 0, .slice none 0 0, .slice none 0 0] RB7 rfl
                have O5 := only_setW (G + 1) [.int .i64 21, .int .i64 0, .slice none 0 0, .slice none 0 0] 0 w7
                have FF := hide (And.intro H5 (show MnP w k q lo H RR (.returned (.agg #[.int .i64 21, .int .i64 0, .slice none 0 0, .slice none 0 0])) (setW (G + 1) [.int .i64 21, .int .i64 0, .slice none 0 0, .slice none 0 0] 0 w7) from (by
                  obtain ⟨HX, y1, y2, y3, y4⟩ := unhide HQx
                  have f := unhide HFIN w7 _ HX (y1.quiet (unhide HO7)) y2 y3 (y4.trans ((unhide HO7).mono (fun _ _ e => e.elim)) (fun _ _ e => e)) O5
                  have hr2 := unhide HR2
                  exact ⟨none, 0, 0, none, 0, 0, HX, fun _ => False, by rw [hr2]; rfl, RsN.none_ (by rw [hr2]; rfl) (by rw [hr2]; rfl), (fun b hb => hb.elim), f.1, y2, f.2⟩)))
                simp only [setW, Nat.zero_add, Nat.reduceAdd] at FF
                clear H5 O5
                clear CF o7 RB7
                go_wp2_with fail
                refine bodyPost_ret (sres_result rfl _ rfl (unhide FF).1 rfl) rfl ?_
                exact (unhide FF).2
          · have a1 : decide ((i : Int) < (hn : Int)) = false := decide_eq_false (by omega)
            have a1p : ¬ (i : Int) < (hn : Int) := by omega
            have hiE : i = hn := by omega
            subst hiE
            have hok2 : hit = [] ∨ tk2 = 0 := by
              by_cases c : 0 < i
              · exact .inr (hi0 c)
              · left; exact List.eq_nil_of_length_eq_zero (by have := (unhide HG).2.2.2.2.2.1; omega)
            have hR2 : RR.2 = Rs.cnt (i : Int) := by rw [(unhide HG).2.2.2.2.2.2.1, chgQ_ok (hok2.imp id (fun c => by rw [unhide Htk2]; exact c)), (unhide HG).2.2.2.2.2.1]
            have hR1 : RR.1 = MiQ (M.setL s.toNat st.table 1) s st u hit i := by rw [(unhide HG).2.2.2.2.2.2.1]; exact MiQ_end (unhide HG).2.2.2.2.2.1.symm
            have HF := hide (show ME wr k q RR.1 Hi ∧ (∀ b, Hi b → H b ∨ w.heap.size ≤ b) ∧ ¬ Hi (G + 1) ∧ Only H w wr ∧ RR.2 = Rs.cnt (i : Int) from ⟨by rw [hR1]; exact hE, fun b hb => (hHi b hb).elim ((unhide HN1).2.1 b) (fun c => .inr (by have := unhide HGw5; have := unhide HHg; omega)), ((unhide HBl) _ hHi).1 (G + 1) (.inr (.inl rfl)), hI.on, hR2⟩)
            have hrb := hI.rb
            have HRBz := hide hrb
            clear hI hE hHi hoh hZr hR1 hR2 hok2 hi0 t0 tl
            have r0 : wr.cell? ⟨G + 1, 0, none⟩ = some (.int .i64 0) := hrb.cell 0
            have r1 : wr.cell? ⟨G + 1, 1, none⟩ = some (.int .i64 0) := hrb.cell 1
            have r2 : wr.cell? ⟨G + 1, 2, none⟩ = some (.slice none 0 0) := hrb.cell 2
            have r3 : wr.cell? ⟨G + 1, 3, none⟩ = some (.slice none 0 0) := hrb.cell 3
            have rf0 := hrb.free 0
            have rf1 := hrb.free 1
            have rf2 := hrb.free 2
            have rf3 := hrb.free 3
            have rl := hrb.lt
            have H5 := has_setAll [.int .i64 0, .int .i64 (i : Int), .slice none 0 0, .slice none 0 0] hrb rfl
            have O5 := only_setW (G + 1) [.int .i64 0, .int .i64 (i : Int), .slice none 0 0, .slice none 0 0] 0 wr
            have FF := hide (And.intro H5 (show MnP w k q lo H RR (.returned (.agg #[.int .i64 0, .int .i64 (i : Int), .slice none 0 0, .slice none 0 0])) (setW (G + 1) [.int .i64 0, .int .i64 (i : Int), .slice none 0 0, .slice none 0 0] 0 wr) from (by
              obtain ⟨y1, y2, y3, y4, y5⟩ := unhide HF
              have f := unhide HFIN wr _ Hi y1 y2 y3 y4 O5
              exact ⟨none, 0, 0, none, 0, 0, Hi, fun _ => False, by rw [y5]; rfl, RsN.none_ (by rw [y5]; rfl) (by rw [y5]; rfl), (fun b hb => hb.elim), f.1, y2, f.2⟩)))
            simp only [setW, Nat.zero_add, Nat.reduceAdd] at FF
            clear H5 O5
            clear hrb HRBz
            go_wp2_with fail
            refine bodyPost_ret (sres_result rfl _ rfl (unhide FF).1 rfl) rfl ?_
            exact (unhide FF).2
end
end Go.Proofs.Qxb6500412aGreat
