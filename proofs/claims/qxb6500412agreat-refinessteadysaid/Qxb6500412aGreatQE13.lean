/-
  OWN WORK. QUERY's MODEL: createIndex (written by tools/gen_qe13.py).
-/
import Derived.Test.Qxb6500412aGreatQE12
namespace Go.Proofs.Qxb6500412aGreat
open Go.RowKit Go.PlainAid
set_option linter.unusedSimpArgs false
set_option linter.unusedVariables false

theorem msp_sch {w w' : World} {k : Nat} {M : Mu} {H : Nat → Prop} {s : Int} {R : Db × Int} {e : Ending} (h : MsP w k M H s R e w') : e = .returned (.int .i64 (schQ M s R).2.e) ∧ MX w' k (schQ M s R).1 (Ext H w w') ∧ Only H w w' := by
  unfold schQ
  rcases h with ⟨z, rfl, hz, h, hX, ho⟩ | ⟨rfl, h, hr, hX, ho⟩
  · rcases h with h | ⟨h, e⟩
    · rw [Mu.alE_iff] at h
      rw [if_pos (by rw [← h]; exact hz), ← h]
      exact ⟨rfl, hX, ho⟩
    · rw [Mu.alE_iff] at h
      rw [if_neg (fun c => c h.symm), if_pos (by rw [← e]; exact hz), ← e]
      exact ⟨rfl, hX, ho⟩
  · rw [Mu.alE_iff] at h
    rw [if_neg (fun c => c h.symm), if_neg (fun c => c hr)]
    exact ⟨rfl, hX, ho⟩
/-- What a schema call leaves, seen from w. -/
def CiP (w : World) (q : Nat) (H : Nat → Prop) (R : Mu × Rs) (e : Ending) (w' : World) : Prop := e = .returned (.int .i64 R.2.e) ∧ (∃ H', MX w' q R.1 H' ∧ ∀ b, H' b → H b ∨ w.heap.size ≤ b) ∧ Only H w w'
section
variable {w w' : World} {k q lo : Nat} {M : Mu} {H : Nat → Prop} {s : Int} {S : Sq} {st : St} {m : Ms}
set_option maxRecDepth 100000 in
set_option maxHeartbeats 8000000 in
theorem smcidx_any (E : ME w k q M H) (hL : SML lo w S) (hO : SmOf S m) (hm : m = Ms.of st) (hs0 : st.sets = []) (hl0 : st.list ≠ []) (hB : StB st) : Calls Tryz.prog 190 #[.pointer (some ⟨k, 0, none⟩), .int .i64 s, .agg (tabV 12 S.cell)] w (CiP w q H (schQ M s (cixD M.com st.table (qcol (tabE M.com st.table).cols ((st.list)[0]?.getD ⟨#[]⟩))))) := by
  obtain ⟨a2, n2, c2, a4, n4, c4, a5, n5, c5, a7, n7, c7, hcs⟩ := hO.cells_ hL
  have x4 := hL.own 4 (by unfold smj; omega)
  have q4 : S.cell 4 = .slice a4 n4 c4 := by
    have := congrArg (·[4]?) hcs
    simpa [tabV_get] using this
  rw [q4, hO.x4.1, hO.x4.2] at x4
  have x4 : OwnN w (.slice a4 n4 c4) m.names := x4
  have e4 : n4 = m.names.length := by obtain ⟨_, _, e⟩ := ownsRow_shape x4; cases e; rfl
  subst e4
  rw [hcs]
  have hmn : m.names = st.list := by rw [hm]; show st.list ++ st.sets.map _ = _; rw [hs0]; simp
  obtain ⟨n0, hn0⟩ : ∃ x, st.list[0]? = some x := by
    cases h : st.list with
    | nil => exact absurd h hl0
    | cons a l => exact ⟨a, rfl⟩
  rw [hn0, Option.getD_some]
  obtain ⟨no, hno, xn0⟩ := strs_at x4 (i := 0) (x := n0) (by rw [hmn]; exact hn0)
  have hl4 : m.names.length ≤ 1000 := by rw [hmn]; have := hB.list; omega
  have hl41 : 0 < m.names.length := by rw [hmn]; exact List.length_pos_iff.mpr hl0
  have htb : m.table = st.table := by rw [hm]; rfl
  subst hno
  have o1 : Only (fun _ => False) w (w.alloc (.cells #[.int .i64 m.kind, .string m.table, .slice a2 n2 c2, .int .i64 m.pk, .slice (some ⟨no, 0, none⟩) m.names.length c4, .slice a5 n5 c5, .bool m.star, .slice a7 n7 c7, .string m.order, .bool m.desc, .bool m.hasL, .int .i64 m.lim] 253)) := (Only.refl _ w).alloc _
  have N1 := Has.new w #[.int .i64 m.kind, .string m.table, .slice a2 n2 c2, .int .i64 m.pk, .slice (some ⟨no, 0, none⟩) m.names.length c4, .slice a5 n5 c5, .bool m.star, .slice a7 n7 c7, .string m.order, .bool m.desc, .bool m.hasL, .int .i64 m.lim] 253
  have HA := hide (And.intro N1 (And.intro (E.quiet o1) (And.intro o1 (o1.cellS xn0))))
  have HTB := hide htb
  have HHl := hide (show ∀ b, H b → b < w.heap.size from E.mx.lt)
  have HTC := hide (show ∀ t, findD M.com st.table = some t → t.cols.length ≤ 3 from fun t ht => by obtain ⟨v, l, D⟩ := E.mx.mdb0; exact (D.ok.tb t (findD_mem ht).1).n3)
  have HO := hide x4
  obtain ⟨RR, hRR⟩ : ∃ r, cixD M.com st.table (qcol (tabE M.com st.table).cols n0) = r := ⟨_, rfl⟩
  have HRR := hide hRR
  rw [hRR]
  have HLE := hide (And.intro hl4 hl41)
  clear hRR N1 o1 x4 q4 hcs hL hO hm hs0 hl0 hB E hmn hn0 htb xn0 hl4 hl41
  go_enter Tryz.func190, Tryz.ntmps190
  go_upto_region 1 with fail
  generalize w.alloc (.cells #[.int .i64 m.kind, .string m.table, .slice a2 n2 c2, .int .i64 m.pk, .slice (some ⟨no, 0, none⟩) m.names.length c4, .slice a5 n5 c5, .bool m.star, .slice a7 n7 c7, .string m.order, .bool m.desc, .bool m.hasL, .int .i64 m.lim] 253) = w1 at *
  generalize hH : w.heap.size = G at *
  have HHg := hide hH
  have t1 : w1.cell? ⟨G, 1, none⟩ = some (.string m.table) := (unhide HA).1.cell 1
  have tl := (unhide HA).1.lt
  have e0 : w1.cell? ⟨k, 0, none⟩ = some (.pointer (some ⟨q, 0, none⟩)) := (unhide HA).2.1.has.cell 0
  have kl := (unhide HA).2.1.kl
  rw [unhide HTB] at t1
  have CA1 := hide (mschQ_any ((unhide HA).2.1.mx.quiet ((Only.refl (fun _ => False) w1).drew)) st.table)
  have CA2 := hide (mschQ_any ((unhide HA).2.1.mx.quiet (((Only.refl (fun _ => False) w1).drew).alloc (.cells #[.string ⟨#[]⟩, .slice none 0 0, .int .i64 0, .int .i64 0] 79))) st.table)
  have HSB := hide (show ∀ W, Only (fun _ => False) w1 W → (W.cell? ⟨k, 0, none⟩ = some (.pointer (some ⟨q, 0, none⟩)) ∧ W.cell? ⟨G, 1, none⟩ = some (.string st.table)) from fun W o => ⟨o.cellS e0, o.cellS t1⟩)
  obtain ⟨sc, hsc⟩ : ∃ s, scqD M.com st.table = s := ⟨_, rfl⟩
  rw [hsc] at CA1 CA2
  have HSC := hide hsc
  clear hsc
  have hsb0 := unhide HSB w1 (Only.refl _ _)
  go_cut [7, 8] from 10 to 21 (fun kv ev wx => ScmP sc w1 kv ev wx)
  case first =>
    refine wp_region_held_drew (S := (fun w' => w'.cell? ⟨k, 0, none⟩ = some (.pointer (some ⟨q, 0, none⟩)) ∧ w'.cell? ⟨G, 1, none⟩ = some (.string st.table))) (by kernel_rfl) hsb0 (fun hH0 => ?_)
    refine takeH 0 11 (v := ?vr01) rfl rfl (by kernel_rfl) (by kernel_rfl) (by kernel_rfl) (fun _ _ _ h => h) (Or.inl ⟨by rfl, ?hr01⟩) hH0 ?rr01
    case hr01 => (intro w hSw; clear hSw; go_simp; (try with_reducible rfl))
    case rr01 =>
    try simp only [Act.put, List.setIfInBounds_toArray, List.set_cons_zero, List.set_cons_succ]
    refine takeH 1 12 (v := ?vr02) rfl rfl (by kernel_rfl) (by kernel_rfl) (by kernel_rfl) (fun _ _ _ h => h) (Or.inl ⟨by rfl, ?hr02⟩) hH0 ?rr02
    case hr02 => (intro w hSw; clear hSw; go_simp; (try with_reducible rfl))
    case rr02 =>
    try simp only [Act.put, List.setIfInBounds_toArray, List.set_cons_zero, List.set_cons_succ]
    refine takeH 2 13 (v := ?vr03) rfl rfl (by kernel_rfl) (by kernel_rfl) (by kernel_rfl) (fun _ _ _ h => h) (Or.inl ⟨by rfl, ?hr03⟩) hH0 ?rr03
    case hr03 => (intro w hSw; clear hSw; go_simp; (try with_reducible rfl))
    case rr03 =>
    try simp only [Act.put, List.setIfInBounds_toArray, List.set_cons_zero, List.set_cons_succ]
    refine takeH 3 14 (v := ?vr04) rfl rfl (by kernel_rfl) (by kernel_rfl) (by kernel_rfl) (fun _ _ _ h => h) (Or.inl ⟨by rfl, ?hr04⟩) hH0 ?rr04
    case hr04 => (intro w hSw; obtain ⟨s0, s1⟩ := hSw; go_simp; (try with_reducible rfl))
    case rr04 =>
    try simp only [Act.put, List.setIfInBounds_toArray, List.set_cons_zero, List.set_cons_succ]
    refine takeH 4 15 (v := ?vr05) rfl rfl (by kernel_rfl) (by kernel_rfl) (by kernel_rfl) (fun _ _ _ h => h) (Or.inl ⟨by rfl, ?hr05⟩) hH0 ?rr05
    case hr05 => (intro w hSw; clear hSw; go_simp; (try with_reducible rfl))
    case rr05 =>
    try simp only [Act.put, List.setIfInBounds_toArray, List.set_cons_zero, List.set_cons_succ]
    refine takeH 5 16 (v := ?vr06) rfl rfl (by kernel_rfl) (by kernel_rfl) (by kernel_rfl) (fun _ _ _ h => h) (Or.inl ⟨by rfl, ?hr06⟩) hH0 ?rr06
    case hr06 => (intro w hSw; clear hSw; go_simp; (try with_reducible rfl))
    case rr06 =>
    try simp only [Act.put, List.setIfInBounds_toArray, List.set_cons_zero, List.set_cons_succ]
    refine takeH 6 17 (v := ?vr07) rfl rfl (by kernel_rfl) (by kernel_rfl) (by kernel_rfl) (fun _ _ _ h => h) (Or.inl ⟨by rfl, ?hr07⟩) hH0 ?rr07
    case hr07 => (intro w hSw; clear hSw; go_simp; (try with_reducible rfl))
    case rr07 =>
    try simp only [Act.put, List.setIfInBounds_toArray, List.set_cons_zero, List.set_cons_succ]
    refine takeH 7 18 (v := ?vr08) rfl rfl (by kernel_rfl) (by kernel_rfl) (by kernel_rfl) (fun _ _ _ h => h) (Or.inl ⟨by rfl, ?hr08⟩) hH0 ?rr08
    case hr08 => (intro w hSw; obtain ⟨s0, s1⟩ := hSw; go_simp; (try with_reducible rfl))
    case rr08 =>
    try simp only [Act.put, List.setIfInBounds_toArray, List.set_cons_zero, List.set_cons_succ]
    refine pairWC 8 12 (by kernel_rfl) rfl rfl 19 7 rfl rfl rfl rfl 181 Tryz.func181 (by kernel_rfl) (by kernel_rfl) #[.tmp 16, .tmp 18] #[107, 9] rfl #[.pointer (some ⟨q, 0, none⟩), .string st.table] (by simp [Act.eval]) (R := fun v w' => ∃ ca cn cc, v = .tuple #[.agg #[.string sc.nm, .slice ca cn cc, .int .i64 sc.pk, .int .i64 sc.ix], .int .i64 sc.z] ∧ OwnC w' (.slice ca cn cc) sc.cols ∧ Newer w1.drew (.slice ca cn cc) ∧ sc.cols.length ≤ 3 ∧ Only (fun _ => False) w1.drew w') (unhide CA1) ?kA (v := .pointer (some ⟨w1.drew.heap.size, 0, none⟩)) (w1 := (w1.drew.alloc (.cells #[.string ⟨#[]⟩, .slice none 0 0, .int .i64 0, .int .i64 0] 79))) ?eB ?kB
    case eB => (go_simp; (try with_reducible rfl))
    case kA =>
      rintro _ w5 ⟨ca, cn, cc, rfl, hC5, hN5, hl5, o5⟩
      have oW5 : Only (fun _ => False) w1 w5 := ((Only.refl (fun _ => False) w1).drew).trans o5 (fun _ _ e => e)
      have S5 := unhide HSB w5 oW5
      refine ⟨S5, ?_⟩
      try simp only [Act.put, List.setIfInBounds_toArray, List.set_cons_zero, List.set_cons_succ]
      refine takeH 9 10 (v := ?vrA1) rfl rfl (by kernel_rfl) (by kernel_rfl) (by kernel_rfl) (fun _ _ _ h => h) (Or.inl ⟨by rfl, ?hrA1⟩) S5 ?rrA1
      case hrA1 => (intro w hSw; clear hSw; go_simp; (try with_reducible rfl))
      case rrA1 =>
      try simp only [Act.put, List.setIfInBounds_toArray, List.set_cons_zero, List.set_cons_succ]
      refine takeH 10 20 (v := ?vrA2) rfl rfl (by kernel_rfl) (by kernel_rfl) (by kernel_rfl) (fun _ _ _ h => h) (Or.inl ⟨by rfl, ?hrA2⟩) S5 ?rrA2
      case hrA2 => (intro w hSw; clear hSw; go_simp; (try with_reducible rfl))
      case rrA2 =>
      try simp only [Act.put, List.setIfInBounds_toArray, List.set_cons_zero, List.set_cons_succ]
      refine takeH 11 21 (v := ?vrA3) rfl rfl (by kernel_rfl) (by kernel_rfl) (by kernel_rfl) (fun _ _ _ h => h) (Or.inl ⟨by rfl, ?hrA3⟩) S5 ?rrA3
      case hrA3 => (intro w hSw; clear hSw; go_simp; (try with_reducible rfl))
      case rrA3 =>
      try simp only [Act.put, List.setIfInBounds_toArray, List.set_cons_zero, List.set_cons_succ]
      refine soneH 12 (by kernel_rfl) rfl 7 rfl rfl (v := .pointer (some ⟨w5.heap.size, 0, none⟩)) (w1 := (w5.alloc (.cells #[.string ⟨#[]⟩, .slice none 0 0, .int .i64 0, .int .i64 0] 79))) ?eA ?kA2
      case eA => (go_simp; (try with_reducible rfl))
      case kA2 =>
      have oA5 : Only (fun _ => False) w5 (w5.alloc (.cells #[.string ⟨#[]⟩, .slice none 0 0, .int .i64 0, .int .i64 0] 79)) := (Only.refl _ _).alloc _
      have oW6 := oW5.trans oA5 (fun _ _ e => e)
      have S6 := unhide HSB _ oW6
      refine ⟨S6, ?_⟩
      try simp only [Act.put, List.setIfInBounds_toArray, List.set_cons_zero, List.set_cons_succ]
      have z5 := oW5.size
      have hC7 := hC5.keep oA5 (fun _ _ e => e)
      have nC : ∀ b, (Value.slice ca cn cc).ownBlock = some b → b = w5.heap.size → False := fun b hb e => by have := ownsRow_lt hC5 b hb; omega
      have hdz : w1.drew.heap.size = w1.heap.size := rfl
      refine storeH_row 79 13 (by kernel_rfl) rfl rfl rfl _ _ rfl (w5.heap.size) #[.string sc.nm, .slice ca cn cc, .int .i64 sc.pk, .int .i64 sc.ix] #[.string ⟨#[]⟩, .slice none 0 0, .int .i64 0, .int .i64 0] rfl rfl (Has.new w5 #[.string ⟨#[]⟩, .slice none 0 0, .int .i64 0, .int .i64 0] 79) Tryz.sizeESch4 rfl (by kernel_rfl) ?_
      intro w7 hHas oS
      have o7 : Only (fun _ => False) w1 w7 := (oW6).lateS oS (fun b (e : b = w5.heap.size) => by rw [e]; omega)
      have S7 := unhide HSB w7 o7
      have hfin : ScmP sc w1 (.pointer (some ⟨w5.heap.size, 0, none⟩)) (.int .i64 sc.z) w7 := ⟨w5.heap.size, ca, cn, cc, rfl, rfl, by omega, hHas, hC7.keep oS (fun b hb (e : b = w5.heap.size) => nC b hb e), fun b hb => by have := hN5 b hb; omega, o7⟩
      refine ⟨S7, ?_⟩
      try simp only [Act.put, List.setIfInBounds_toArray, List.set_cons_zero, List.set_cons_succ]
      refine takeH 14 8 (v := ?vrA4) rfl rfl (by kernel_rfl) (by kernel_rfl) (by kernel_rfl) (fun _ _ _ h => h) (Or.inl ⟨by rfl, ?hrA4⟩) S7 ?rrA4
      case hrA4 => (intro w hSw; clear hSw; go_simp; (try with_reducible rfl))
      case rrA4 =>
      try simp only [Act.put, List.setIfInBounds_toArray, List.set_cons_zero, List.set_cons_succ]
      refine wpAnyH_done (by kernel_rfl) ?_ _
      have HE := hide hfin
      clear hfin hHas oS o5 hC5 hN5 hl5 hsb0 e0 t1 tl kl CA1 CA2
      go_wp2_with fail
      go_meet
      exact unhide HE
    case kB =>
      have oB : Only (fun _ => False) w1 (w1.drew.alloc (.cells #[.string ⟨#[]⟩, .slice none 0 0, .int .i64 0, .int .i64 0] 79)) := (Only.refl (fun _ => False) w1).drew.alloc (.cells #[.string ⟨#[]⟩, .slice none 0 0, .int .i64 0, .int .i64 0] 79)
      have SB := unhide HSB _ oB
      refine ⟨SB, ?_⟩
      try simp only [Act.put, List.setIfInBounds_toArray, List.set_cons_zero, List.set_cons_succ]
      refine callH 8 (by kernel_rfl) rfl 19 rfl rfl 181 Tryz.func181 (by kernel_rfl) (by kernel_rfl) #[.tmp 16, .tmp 18] #[107, 9] rfl #[.pointer (some ⟨q, 0, none⟩), .string st.table] (by simp [Act.eval]) (R := fun v w' => ∃ ca cn cc, v = .tuple #[.agg #[.string sc.nm, .slice ca cn cc, .int .i64 sc.pk, .int .i64 sc.ix], .int .i64 sc.z] ∧ OwnC w' (.slice ca cn cc) sc.cols ∧ Newer (w1.drew.alloc (.cells #[.string ⟨#[]⟩, .slice none 0 0, .int .i64 0, .int .i64 0] 79)) (.slice ca cn cc) ∧ sc.cols.length ≤ 3 ∧ Only (fun _ => False) (w1.drew.alloc (.cells #[.string ⟨#[]⟩, .slice none 0 0, .int .i64 0, .int .i64 0] 79)) w') (unhide CA2) ?kB2
      case kB2 =>
      rintro _ w5 ⟨ca, cn, cc, rfl, hC5, hN5, hl5, o5⟩
      have oW5 : Only (fun _ => False) w1 w5 := oB.trans o5 (fun _ _ e => e)
      have S5 := unhide HSB w5 oW5
      refine ⟨S5, ?_⟩
      try simp only [Act.put, List.setIfInBounds_toArray, List.set_cons_zero, List.set_cons_succ]
      refine takeH 9 10 (v := ?vrB1) rfl rfl (by kernel_rfl) (by kernel_rfl) (by kernel_rfl) (fun _ _ _ h => h) (Or.inl ⟨by rfl, ?hrB1⟩) S5 ?rrB1
      case hrB1 => (intro w hSw; clear hSw; go_simp; (try with_reducible rfl))
      case rrB1 =>
      try simp only [Act.put, List.setIfInBounds_toArray, List.set_cons_zero, List.set_cons_succ]
      refine takeH 10 20 (v := ?vrB2) rfl rfl (by kernel_rfl) (by kernel_rfl) (by kernel_rfl) (fun _ _ _ h => h) (Or.inl ⟨by rfl, ?hrB2⟩) S5 ?rrB2
      case hrB2 => (intro w hSw; clear hSw; go_simp; (try with_reducible rfl))
      case rrB2 =>
      try simp only [Act.put, List.setIfInBounds_toArray, List.set_cons_zero, List.set_cons_succ]
      refine takeH 11 21 (v := ?vrB3) rfl rfl (by kernel_rfl) (by kernel_rfl) (by kernel_rfl) (fun _ _ _ h => h) (Or.inl ⟨by rfl, ?hrB3⟩) S5 ?rrB3
      case hrB3 => (intro w hSw; clear hSw; go_simp; (try with_reducible rfl))
      case rrB3 =>
      try simp only [Act.put, List.setIfInBounds_toArray, List.set_cons_zero, List.set_cons_succ]
      have hdz : w1.drew.heap.size = w1.heap.size := rfl
      have hBz : (w1.drew.alloc (.cells #[.string ⟨#[]⟩, .slice none 0 0, .int .i64 0, .int .i64 0] 79)).heap.size = w1.heap.size + 1 := by simp
      have hold : Has w5 w1.drew.heap.size #[.string ⟨#[]⟩, .slice none 0 0, .int .i64 0, .int .i64 0] 79 := (Has.new w1.drew #[.string ⟨#[]⟩, .slice none 0 0, .int .i64 0, .int .i64 0] 79).keep o5 (fun e => e)
      have hC7 := hC5
      have nC : ∀ b, (Value.slice ca cn cc).ownBlock = some b → b = w1.drew.heap.size → False := fun b hb e => by have := hN5 b hb; omega
      refine storeH_row 79 13 (by kernel_rfl) rfl rfl rfl _ _ rfl (w1.drew.heap.size) #[.string sc.nm, .slice ca cn cc, .int .i64 sc.pk, .int .i64 sc.ix] #[.string ⟨#[]⟩, .slice none 0 0, .int .i64 0, .int .i64 0] rfl rfl hold Tryz.sizeESch4 rfl (by kernel_rfl) ?_
      intro w7 hHas oS
      have o7 : Only (fun _ => False) w1 w7 := (oW5).lateS oS (fun b (e : b = w1.drew.heap.size) => by rw [e]; omega)
      have S7 := unhide HSB w7 o7
      have hfin : ScmP sc w1 (.pointer (some ⟨w1.drew.heap.size, 0, none⟩)) (.int .i64 sc.z) w7 := ⟨w1.drew.heap.size, ca, cn, cc, rfl, rfl, by omega, hHas, hC7.keep oS (fun b hb (e : b = w1.drew.heap.size) => nC b hb e), fun b hb => by have := hN5 b hb; omega, o7⟩
      refine ⟨S7, ?_⟩
      try simp only [Act.put, List.setIfInBounds_toArray, List.set_cons_zero, List.set_cons_succ]
      refine takeH 14 8 (v := ?vrB4) rfl rfl (by kernel_rfl) (by kernel_rfl) (by kernel_rfl) (fun _ _ _ h => h) (Or.inl ⟨by rfl, ?hrB4⟩) S7 ?rrB4
      case hrB4 => (intro w hSw; clear hSw; go_simp; (try with_reducible rfl))
      case rrB4 =>
      try simp only [Act.put, List.setIfInBounds_toArray, List.set_cons_zero, List.set_cons_succ]
      refine wpAnyH_done (by kernel_rfl) ?_ _
      have HE := hide hfin
      clear hfin hHas oS o5 hC5 hN5 hl5 hsb0 e0 t1 tl kl CA1 CA2
      go_wp2_with fail
      go_meet
      exact unhide HE
  case rest =>
  obtain ⟨kb, ca, cn, cc, rfl, rfl, hkb, hHs, hOC, hCn, oW⟩ := hcut
  have HT := hide ((unhide HA).1.keep oW (fun e => e))
  have HE := hide ((unhide HA).2.1.quiet oW)
  have HN0 := hide (oW.cellS (unhide HA).2.2.2)
  have HW := hide (show Only (fun _ => False) w wc from (unhide HA).2.2.1.trans oW (fun _ _ e => e))
  have HC := hide (And.intro hHs hOC)
  clear hkb hHs hOC hCn oW hsb0 e0 t1 tl kl CA1 CA2 HSB HA HO
  generalize wc = w2 at *
  cases hf : findD M.com st.table with
  | none =>
    have hs10 : sc = ⟨⟨#[]⟩, [], 0, -1, 10⟩ := by rw [← unhide HSC]; unfold scqD; rw [hf]
    have HRC := hide (show cixD M.com st.table (-1) = RR by rw [← unhide HRR]; unfold cixD onT; rw [hf])
    have HT5 := HT
    have HE5 := HE
    have HW5 := HW
    have HHm := HHl
    rw [hs10]
    clear hf hs10 HC HT HE HW HN0 HLE HSC
    have t1 : w2.cell? ⟨G, 1, none⟩ = some (.string m.table) := (unhide HT5).cell 1
    rw [unhide HTB] at t1
    have tl := (unhide HT5).lt
    have e0 : w2.cell? ⟨k, 0, none⟩ = some (.pointer (some ⟨q, 0, none⟩)) := (unhide HE5).has.cell 0
    have kl := (unhide HE5).kl
    have CI := xmindex_any ((unhide HE5).mx.quiet ((Only.refl (fun _ => False) w2).drew)) s st.table (-1)
    rw [unhide HRC] at CI
    have CI : Calls Tryz.prog 274 #[.pointer (some ⟨q, 0, none⟩), .int .i64 s, .string st.table, .int .i64 (-1)] w2.drew fun e w' => ∃ v, e = .returned v ∧ (v = .int .i64 (schQ M s RR).2.e ∧ MX w' q (schQ M s RR).1 (Ext H w2.drew w') ∧ Only H w2.drew w') := CI.mono (fun e w' h => ⟨_, (msp_sch h).1, rfl, (msp_sch h).2.1, (msp_sch h).2.2⟩)
    have CI := hide CI
    have NK := hide (And.intro (unhide HE5).kH (show ¬ H G from fun c => by have := (unhide HHm) G c; have := unhide HHg; omega))
    obtain ⟨ze, hze⟩ : ∃ z, (schQ M s RR).2.e = z := ⟨_, rfl⟩
    rw [hze] at CI
    have Hze := hide hze
    clear hze
    go_upto_region 5 with fail
    refine wp_region_held_drew (S := (fun w' => w'.cell? ⟨k, 0, none⟩ = some (.pointer (some ⟨q, 0, none⟩)) ∧ w'.cell? ⟨G, 1, none⟩ = some (.string st.table))) (by kernel_rfl) ⟨e0, t1⟩ (fun hH0 => ?_)
    refine takeH 0 30 (v := ?vciw21) rfl rfl (by kernel_rfl) (by kernel_rfl) (by kernel_rfl) (fun _ _ _ h => h) (Or.inl ⟨by rfl, ?hciw21⟩) hH0 ?rciw21
    case hciw21 => (intro w hSw; clear hSw; go_simp; (try with_reducible rfl))
    case rciw21 =>
    try simp only [Act.put, List.setIfInBounds_toArray, List.set_cons_zero, List.set_cons_succ]
    refine takeH 1 31 (v := ?vciw22) rfl rfl (by kernel_rfl) (by kernel_rfl) (by kernel_rfl) (fun _ _ _ h => h) (Or.inl ⟨by rfl, ?hciw22⟩) hH0 ?rciw22
    case hciw22 => (intro w hSw; clear hSw; go_simp; (try with_reducible rfl))
    case rciw22 =>
    try simp only [Act.put, List.setIfInBounds_toArray, List.set_cons_zero, List.set_cons_succ]
    refine takeH 2 32 (v := ?vciw23) rfl rfl (by kernel_rfl) (by kernel_rfl) (by kernel_rfl) (fun _ _ _ h => h) (Or.inl ⟨by rfl, ?hciw23⟩) hH0 ?rciw23
    case hciw23 => (intro w hSw; clear hSw; go_simp; (try with_reducible rfl))
    case rciw23 =>
    try simp only [Act.put, List.setIfInBounds_toArray, List.set_cons_zero, List.set_cons_succ]
    refine takeH 3 33 (v := ?vciw24) rfl rfl (by kernel_rfl) (by kernel_rfl) (by kernel_rfl) (fun _ _ _ h => h) (Or.inl ⟨by rfl, ?hciw24⟩) hH0 ?rciw24
    case hciw24 => (intro w hSw; obtain ⟨s0, s1⟩ := hSw; go_simp; (try with_reducible rfl))
    case rciw24 =>
    try simp only [Act.put, List.setIfInBounds_toArray, List.set_cons_zero, List.set_cons_succ]
    refine takeH 4 34 (v := ?vciw25) rfl rfl (by kernel_rfl) (by kernel_rfl) (by kernel_rfl) (fun _ _ _ h => h) (Or.inl ⟨by rfl, ?hciw25⟩) hH0 ?rciw25
    case hciw25 => (intro w hSw; clear hSw; go_simp; (try with_reducible rfl))
    case rciw25 =>
    try simp only [Act.put, List.setIfInBounds_toArray, List.set_cons_zero, List.set_cons_succ]
    refine takeH 5 35 (v := ?vciw26) rfl rfl (by kernel_rfl) (by kernel_rfl) (by kernel_rfl) (fun _ _ _ h => h) (Or.inl ⟨by rfl, ?hciw26⟩) hH0 ?rciw26
    case hciw26 => (intro w hSw; clear hSw; go_simp; (try with_reducible rfl))
    case rciw26 =>
    try simp only [Act.put, List.setIfInBounds_toArray, List.set_cons_zero, List.set_cons_succ]
    refine takeH 6 36 (v := ?vciw27) rfl rfl (by kernel_rfl) (by kernel_rfl) (by kernel_rfl) (fun _ _ _ h => h) (Or.inl ⟨by rfl, ?hciw27⟩) hH0 ?rciw27
    case hciw27 => (intro w hSw; obtain ⟨s0, s1⟩ := hSw; go_simp; (try with_reducible rfl))
    case rciw27 =>
    try simp only [Act.put, List.setIfInBounds_toArray, List.set_cons_zero, List.set_cons_succ]
    refine takeH 7 37 (v := ?vciw28) rfl rfl (by kernel_rfl) (by kernel_rfl) (by kernel_rfl) (fun _ _ _ h => h) (Or.inl ⟨by rfl, ?hciw28⟩) hH0 ?rciw28
    case hciw28 => (intro w hSw; clear hSw; go_simp; (try with_reducible rfl))
    case rciw28 =>
    try simp only [Act.put, List.setIfInBounds_toArray, List.set_cons_zero, List.set_cons_succ]
    refine callH 8 (by kernel_rfl) rfl 38 rfl rfl 274 Tryz.func274 (by kernel_rfl) (by kernel_rfl) #[.tmp 33, .tmp 34, .tmp 36, .tmp 37] #[104, 3, 9, 3] rfl #[.pointer (some ⟨q, 0, none⟩), .int .i64 s, .string st.table, .int .i64 (-1)] (by simp [Act.eval]) (R := fun v w' => v = .int .i64 ze ∧ MX w' q (schQ M s RR).1 (Ext H w2.drew w') ∧ Only H w2.drew w') (unhide CI) ?kciw2
    case kciw2 =>
    rintro _ w6 ⟨rfl, hX, o6⟩
    have S6 : w6.cell? ⟨k, 0, none⟩ = some (.pointer (some ⟨q, 0, none⟩)) ∧ w6.cell? ⟨G, 1, none⟩ = some (.string st.table) := ⟨cell_keep (hH0.1) o6 ((unhide NK).1), cell_keep (hH0.2) o6 ((unhide NK).2)⟩
    refine ⟨S6, ?_⟩
    try simp only [Act.put, List.setIfInBounds_toArray, List.set_cons_zero, List.set_cons_succ]
    refine takeH 9 6 (v := ?vciw29) rfl rfl (by kernel_rfl) (by kernel_rfl) (by kernel_rfl) (fun _ _ _ h => h) (Or.inl ⟨by rfl, ?hciw29⟩) S6 ?rciw29
    case hciw29 => (intro w hSw; clear hSw; go_simp; (try with_reducible rfl))
    case rciw29 =>
    try simp only [Act.put, List.setIfInBounds_toArray, List.set_cons_zero, List.set_cons_succ]
    refine wpAnyH_done (by kernel_rfl) ?_ _
    have oD : Only (H) w2 w6 := (Only.refl (H) w2).drew.trans o6 (fun _ _ e => e)
    clear hH0 S6
    have FF := hide (show CiP w q H (schQ M s RR) (.returned (.int .i64 ze)) w6 from ⟨by rw [unhide Hze], ⟨_, hX, fun b hb => hb.imp id (fun c => Nat.le_trans (unhide HW5).size c.1)⟩, ((unhide HW5).mono (fun _ _ e => e.elim)).trans oD (fun _ _ e => e)⟩)
    clear hX oD CI e0 t1 tl kl
    go_wp2_with fail
    go_ret
    exact unhide FF
  | some tt =>
    have hsS : sc = ⟨tt.nm, tt.cols, (tt.pk : Int), ixI tt.ix, 0⟩ := by rw [← unhide HSC]; unfold scqD; rw [hf]
    have HRC := hide (show cixD M.com st.table (qcol tt.cols n0) = RR by rw [← unhide HRR]; unfold tabE; rw [hf]; rfl)
    have HT5 := HT
    have HHm := HHl
    rw [hsS] at HC ⊢
    simp only at HC ⊢
    have t4 : w2.cell? ⟨G, 4, none⟩ = some (.slice (some ⟨no, 0, none⟩) m.names.length c4) := (unhide HT).cell 4
    have tl := (unhide HT).lt
    have nn0 := unhide HN0
    have hlp := (unhide HLE).2
    have hlq := (unhide HLE).1
    have s0 : w2.cell? ⟨kb, 0, none⟩ = some (.string tt.nm) := (unhide HC).1.cell 0
    have s1 : w2.cell? ⟨kb, 1, none⟩ = some (.slice ca cn cc) := (unhide HC).1.cell 1
    have s2 : w2.cell? ⟨kb, 2, none⟩ = some (.int .i64 (tt.pk : Int)) := (unhide HC).1.cell 2
    have s3 : w2.cell? ⟨kb, 3, none⟩ = some (.int .i64 (ixI tt.ix)) := (unhide HC).1.cell 3
    have sl := (unhide HC).1.lt
    have hcl : tt.cols.length ≤ 3 := unhide HTC tt hf
    have C1 := smcolOf_any (tn := tt.nm) (pk := (tt.pk : Int)) (ix := ixI tt.ix) ((unhide HC).2.keep ((Only.refl (fun _ => False) w2).drew) (fun _ _ e => e)) (by omega) n0
    unfold schU at C1
    obtain ⟨cl, hcl2⟩ : ∃ z, qcol tt.cols n0 = z := ⟨_, rfl⟩
    rw [hcl2] at C1 HRC
    have C1 := hide C1
    clear hf hsS hcl hcl2 HSC
    go_upto_region 4 with fail
    refine wp_region_held_drew (S := (fun w' => w'.cell? ⟨G, 4, none⟩ = some (.slice (some ⟨no, 0, none⟩) m.names.length c4) ∧ w'.cell? ⟨no, 0, none⟩ = some (.string n0) ∧ w'.cell? ⟨kb, 0, none⟩ = some (.string tt.nm) ∧ w'.cell? ⟨kb, 1, none⟩ = some (.slice ca cn cc) ∧ w'.cell? ⟨kb, 2, none⟩ = some (.int .i64 (tt.pk : Int)) ∧ w'.cell? ⟨kb, 3, none⟩ = some (.int .i64 (ixI tt.ix)))) (by kernel_rfl) ⟨t4, nn0, s0, s1, s2, s3⟩ (fun hH0 => ?_)
    refine takeH 0 24 (v := ?vcc1) rfl rfl (by kernel_rfl) (by kernel_rfl) (by kernel_rfl) (fun _ _ _ h => h) (Or.inl ⟨by rfl, ?hcc1⟩) hH0 ?rcc1
    case hcc1 => (intro w hSw; obtain ⟨s0, s1, s2, s3, s4, s5⟩ := hSw; go_simp; (try with_reducible rfl))
    case rcc1 =>
    try simp only [Act.put, List.setIfInBounds_toArray, List.set_cons_zero, List.set_cons_succ]
    refine takeH 1 25 (v := ?vcc2) rfl rfl (by kernel_rfl) (by kernel_rfl) (by kernel_rfl) (fun _ _ _ h => h) (Or.inl ⟨by rfl, ?hcc2⟩) hH0 ?rcc2
    case hcc2 => (intro w hSw; clear hSw; go_simp; (try with_reducible rfl))
    case rcc2 =>
    try simp only [Act.put, List.setIfInBounds_toArray, List.set_cons_zero, List.set_cons_succ]
    refine takeH 2 26 (v := ?vcc3) rfl rfl (by kernel_rfl) (by kernel_rfl) (by kernel_rfl) (fun _ _ _ h => h) (Or.inl ⟨by rfl, ?hcc3⟩) hH0 ?rcc3
    case hcc3 => (intro w hSw; obtain ⟨s0, s1, s2, s3, s4, s5⟩ := hSw; go_simp; (try with_reducible rfl))
    case rcc3 =>
    try simp only [Act.put, List.setIfInBounds_toArray, List.set_cons_zero, List.set_cons_succ]
    refine takeH 3 27 (v := ?vcc4) rfl rfl (by kernel_rfl) (by kernel_rfl) (by kernel_rfl) (fun _ _ _ h => h) (Or.inl ⟨by rfl, ?hcc4⟩) hH0 ?rcc4
    case hcc4 => (intro w hSw; clear hSw; go_simp; (try with_reducible rfl))
    case rcc4 =>
    try simp only [Act.put, List.setIfInBounds_toArray, List.set_cons_zero, List.set_cons_succ]
    refine takeH 4 28 (v := ?vcc5) rfl rfl (by kernel_rfl) (by kernel_rfl) (by kernel_rfl) (fun _ _ _ h => h) (Or.inl ⟨by rfl, ?hcc5⟩) hH0 ?rcc5
    case hcc5 => (intro w hSw; obtain ⟨s0, s1, s2, s3, s4, s5⟩ := hSw; go_simp; (try with_reducible rfl))
    case rcc5 =>
    try simp only [Act.put, List.setIfInBounds_toArray, List.set_cons_zero, List.set_cons_succ]
    refine callH 5 (by kernel_rfl) rfl 29 rfl rfl 273 Tryz.func273 (by kernel_rfl) (by kernel_rfl) #[.tmp 24, .tmp 28] #[79, 9] rfl #[.agg #[.string tt.nm, .slice ca cn cc, .int .i64 (tt.pk : Int), .int .i64 (ixI tt.ix)], .string n0] (by simp [Act.eval]) (R := fun v w' => v = .int .i64 cl ∧ Only (fun _ => False) w2.drew w') ((unhide C1).mono (by rintro en w' ⟨rfl, o⟩; exact ⟨_, rfl, rfl, o⟩)) ?kcc
    case kcc =>
    rintro _ w6 ⟨rfl, o6⟩
    have S6 : w6.cell? ⟨G, 4, none⟩ = some (.slice (some ⟨no, 0, none⟩) m.names.length c4) ∧ w6.cell? ⟨no, 0, none⟩ = some (.string n0) ∧ w6.cell? ⟨kb, 0, none⟩ = some (.string tt.nm) ∧ w6.cell? ⟨kb, 1, none⟩ = some (.slice ca cn cc) ∧ w6.cell? ⟨kb, 2, none⟩ = some (.int .i64 (tt.pk : Int)) ∧ w6.cell? ⟨kb, 3, none⟩ = some (.int .i64 (ixI tt.ix)) := ⟨o6.cellF hH0.1, o6.cellF hH0.2.1, o6.cellF hH0.2.2.1, o6.cellF hH0.2.2.2.1, o6.cellF hH0.2.2.2.2.1, o6.cellF hH0.2.2.2.2.2⟩
    refine ⟨S6, ?_⟩
    try simp only [Act.put, List.setIfInBounds_toArray, List.set_cons_zero, List.set_cons_succ]
    refine takeH 6 9 (v := ?vcc6) rfl rfl (by kernel_rfl) (by kernel_rfl) (by kernel_rfl) (fun _ _ _ h => h) (Or.inl ⟨by rfl, ?hcc6⟩) S6 ?rcc6
    case hcc6 => (intro w hSw; clear hSw; go_simp; (try with_reducible rfl))
    case rcc6 =>
    try simp only [Act.put, List.setIfInBounds_toArray, List.set_cons_zero, List.set_cons_succ]
    refine wpAnyH_done (by kernel_rfl) ?_ _
    have oD : Only (fun _ => False) w2 w6 := (Only.refl _ w2).drew.trans o6 (fun _ _ e => e)
    have HF := hide oD
    clear hH0 S6 o6 oD
    have HE5 := hide ((unhide HE).quiet (unhide HF))
    have HT5 := hide ((unhide HT).keep (unhide HF) (fun e => e))
    have HW5 := hide ((unhide HW).trans (unhide HF) (fun _ _ e => e))
    clear HC HT HE HW HN0 HF t4 tl nn0 s0 s1 s2 s3 sl C1 hlp hlq
    generalize w6 = w3 at *
    have t1 : w3.cell? ⟨G, 1, none⟩ = some (.string m.table) := (unhide HT5).cell 1
    rw [unhide HTB] at t1
    have tl := (unhide HT5).lt
    have e0 : w3.cell? ⟨k, 0, none⟩ = some (.pointer (some ⟨q, 0, none⟩)) := (unhide HE5).has.cell 0
    have kl := (unhide HE5).kl
    have CI := xmindex_any ((unhide HE5).mx.quiet ((Only.refl (fun _ => False) w3).drew)) s st.table (cl)
    rw [unhide HRC] at CI
    have CI : Calls Tryz.prog 274 #[.pointer (some ⟨q, 0, none⟩), .int .i64 s, .string st.table, .int .i64 (cl)] w3.drew fun e w' => ∃ v, e = .returned v ∧ (v = .int .i64 (schQ M s RR).2.e ∧ MX w' q (schQ M s RR).1 (Ext H w3.drew w') ∧ Only H w3.drew w') := CI.mono (fun e w' h => ⟨_, (msp_sch h).1, rfl, (msp_sch h).2.1, (msp_sch h).2.2⟩)
    have CI := hide CI
    have NK := hide (And.intro (unhide HE5).kH (show ¬ H G from fun c => by have := (unhide HHm) G c; have := unhide HHg; omega))
    obtain ⟨ze, hze⟩ : ∃ z, (schQ M s RR).2.e = z := ⟨_, rfl⟩
    rw [hze] at CI
    have Hze := hide hze
    clear hze
    go_upto_region 5 with fail
    refine wp_region_held_drew (S := (fun w' => w'.cell? ⟨k, 0, none⟩ = some (.pointer (some ⟨q, 0, none⟩)) ∧ w'.cell? ⟨G, 1, none⟩ = some (.string st.table))) (by kernel_rfl) ⟨e0, t1⟩ (fun hH0 => ?_)
    refine takeH 0 30 (v := ?vciw31) rfl rfl (by kernel_rfl) (by kernel_rfl) (by kernel_rfl) (fun _ _ _ h => h) (Or.inl ⟨by rfl, ?hciw31⟩) hH0 ?rciw31
    case hciw31 => (intro w hSw; clear hSw; go_simp; (try with_reducible rfl))
    case rciw31 =>
    try simp only [Act.put, List.setIfInBounds_toArray, List.set_cons_zero, List.set_cons_succ]
    refine takeH 1 31 (v := ?vciw32) rfl rfl (by kernel_rfl) (by kernel_rfl) (by kernel_rfl) (fun _ _ _ h => h) (Or.inl ⟨by rfl, ?hciw32⟩) hH0 ?rciw32
    case hciw32 => (intro w hSw; clear hSw; go_simp; (try with_reducible rfl))
    case rciw32 =>
    try simp only [Act.put, List.setIfInBounds_toArray, List.set_cons_zero, List.set_cons_succ]
    refine takeH 2 32 (v := ?vciw33) rfl rfl (by kernel_rfl) (by kernel_rfl) (by kernel_rfl) (fun _ _ _ h => h) (Or.inl ⟨by rfl, ?hciw33⟩) hH0 ?rciw33
    case hciw33 => (intro w hSw; clear hSw; go_simp; (try with_reducible rfl))
    case rciw33 =>
    try simp only [Act.put, List.setIfInBounds_toArray, List.set_cons_zero, List.set_cons_succ]
    refine takeH 3 33 (v := ?vciw34) rfl rfl (by kernel_rfl) (by kernel_rfl) (by kernel_rfl) (fun _ _ _ h => h) (Or.inl ⟨by rfl, ?hciw34⟩) hH0 ?rciw34
    case hciw34 => (intro w hSw; obtain ⟨s0, s1⟩ := hSw; go_simp; (try with_reducible rfl))
    case rciw34 =>
    try simp only [Act.put, List.setIfInBounds_toArray, List.set_cons_zero, List.set_cons_succ]
    refine takeH 4 34 (v := ?vciw35) rfl rfl (by kernel_rfl) (by kernel_rfl) (by kernel_rfl) (fun _ _ _ h => h) (Or.inl ⟨by rfl, ?hciw35⟩) hH0 ?rciw35
    case hciw35 => (intro w hSw; clear hSw; go_simp; (try with_reducible rfl))
    case rciw35 =>
    try simp only [Act.put, List.setIfInBounds_toArray, List.set_cons_zero, List.set_cons_succ]
    refine takeH 5 35 (v := ?vciw36) rfl rfl (by kernel_rfl) (by kernel_rfl) (by kernel_rfl) (fun _ _ _ h => h) (Or.inl ⟨by rfl, ?hciw36⟩) hH0 ?rciw36
    case hciw36 => (intro w hSw; clear hSw; go_simp; (try with_reducible rfl))
    case rciw36 =>
    try simp only [Act.put, List.setIfInBounds_toArray, List.set_cons_zero, List.set_cons_succ]
    refine takeH 6 36 (v := ?vciw37) rfl rfl (by kernel_rfl) (by kernel_rfl) (by kernel_rfl) (fun _ _ _ h => h) (Or.inl ⟨by rfl, ?hciw37⟩) hH0 ?rciw37
    case hciw37 => (intro w hSw; obtain ⟨s0, s1⟩ := hSw; go_simp; (try with_reducible rfl))
    case rciw37 =>
    try simp only [Act.put, List.setIfInBounds_toArray, List.set_cons_zero, List.set_cons_succ]
    refine takeH 7 37 (v := ?vciw38) rfl rfl (by kernel_rfl) (by kernel_rfl) (by kernel_rfl) (fun _ _ _ h => h) (Or.inl ⟨by rfl, ?hciw38⟩) hH0 ?rciw38
    case hciw38 => (intro w hSw; clear hSw; go_simp; (try with_reducible rfl))
    case rciw38 =>
    try simp only [Act.put, List.setIfInBounds_toArray, List.set_cons_zero, List.set_cons_succ]
    refine callH 8 (by kernel_rfl) rfl 38 rfl rfl 274 Tryz.func274 (by kernel_rfl) (by kernel_rfl) #[.tmp 33, .tmp 34, .tmp 36, .tmp 37] #[104, 3, 9, 3] rfl #[.pointer (some ⟨q, 0, none⟩), .int .i64 s, .string st.table, .int .i64 (cl)] (by simp [Act.eval]) (R := fun v w' => v = .int .i64 ze ∧ MX w' q (schQ M s RR).1 (Ext H w3.drew w') ∧ Only H w3.drew w') (unhide CI) ?kciw3
    case kciw3 =>
    rintro _ w6 ⟨rfl, hX, o6⟩
    have S6 : w6.cell? ⟨k, 0, none⟩ = some (.pointer (some ⟨q, 0, none⟩)) ∧ w6.cell? ⟨G, 1, none⟩ = some (.string st.table) := ⟨cell_keep (hH0.1) o6 ((unhide NK).1), cell_keep (hH0.2) o6 ((unhide NK).2)⟩
    refine ⟨S6, ?_⟩
    try simp only [Act.put, List.setIfInBounds_toArray, List.set_cons_zero, List.set_cons_succ]
    refine takeH 9 6 (v := ?vciw39) rfl rfl (by kernel_rfl) (by kernel_rfl) (by kernel_rfl) (fun _ _ _ h => h) (Or.inl ⟨by rfl, ?hciw39⟩) S6 ?rciw39
    case hciw39 => (intro w hSw; clear hSw; go_simp; (try with_reducible rfl))
    case rciw39 =>
    try simp only [Act.put, List.setIfInBounds_toArray, List.set_cons_zero, List.set_cons_succ]
    refine wpAnyH_done (by kernel_rfl) ?_ _
    have oD : Only (H) w3 w6 := (Only.refl (H) w3).drew.trans o6 (fun _ _ e => e)
    clear hH0 S6
    have FF := hide (show CiP w q H (schQ M s RR) (.returned (.int .i64 ze)) w6 from ⟨by rw [unhide Hze], ⟨_, hX, fun b hb => hb.imp id (fun c => Nat.le_trans (unhide HW5).size c.1)⟩, ((unhide HW5).mono (fun _ _ e => e.elim)).trans oD (fun _ _ e => e)⟩)
    clear hX oD CI e0 t1 tl kl
    go_wp2_with fail
    go_ret
    exact unhide FF
end
end Go.Proofs.Qxb6500412aGreat
