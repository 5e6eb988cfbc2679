/-
  OWN WORK. THE TXN LAW: Follow: a schema call that went through (written by tools/gen_xg5.py).
-/
import Derived.Test.Qxb6500414aGreatXG5
namespace Go.Proofs.Qxb6500414aGreat
open Go.RowKit Go.PlainAid
set_option linter.unusedSimpArgs false
set_option linter.unusedVariables false

section
variable {q : Gnd} {w : World} {g x kG n : Nat} {M M' : Mu} {K : Nat → Prop} {m : GhM} {sh : Db} {am : AnM} {an : An} {kd a bb cc : Int} {s t : ByteArray}
set_option maxRecDepth 100000 in
set_option maxHeartbeats 4000000 in
theorem fo_s5 (R : RX q w g x M' K) (G : GhAt w kG m sh) (A : AnAt w am an) (hGs : ∀ k, m.A kG k → ¬ q.A k ∧ k ≠ x ∧ ¬ K k) (hAs : ∀ k, AnB am k → ¬ q.A k ∧ k ≠ x ∧ ¬ K k ∧ ¬ m.T kG k) (Se : SerI M m sh) (ok : MuOk M) (hn : n < 4) (he : an.e = 0) (htz : t.size ≤ maxLen) (hsp0 : (shP sh 5 bb cc s t).2.e = 0) (hcom : M'.com = (shP sh 5 bb cc s t).1) (hsee : M'.see n = (shP sh 5 bb cc s t).1) (hs2 : ∀ v l, SerI M' (m.setS v l) (shP sh 5 bb cc s t).1) : Calls Tryz.prog 15 #[.pointer (some ⟨kG, 0, none⟩), .pointer (some ⟨g, 0, none⟩), opX 5 n bb cc s t, .agg (anC am an)] w (FoP q w g x M' K kG m am) := by
  obtain ⟨p1, p2, hp⟩ := A.row.shape
  obtain ⟨r1, r2, hr⟩ := ownsRow_shape A.own
  obtain ⟨t1, t2, ht⟩ := A.col.shape
  obtain ⟨v1, v2, hv⟩ := ownsRow_shape A.nms
  obtain ⟨ln, hln⟩ : ∃ k, an.row.length = k := ⟨_, rfl⟩
  obtain ⟨ls, hls⟩ : ∃ k, am.Z.length = k := ⟨_, rfl⟩
  obtain ⟨lc, hlc⟩ : ∃ k, an.cols.length = k := ⟨_, rfl⟩
  obtain ⟨lm, hlm⟩ : ∃ k, an.names.length = k := ⟨_, rfl⟩
  rw [hln] at hp
  rw [hls] at hr
  rw [hlc] at ht
  rw [hlm] at hv
  have o1 : Only (fun _ => False) w ((w.alloc (.cells #[.int .i64 5, .int .i64 n, .int .i64 bb, .int .i64 cc, .string s, .string t] 44)).alloc (.cells #[.int .i64 an.e, .int .i64 an.n, .slice p1 ln p2, .slice r1 ls r2, .string an.nm, .slice t1 lc t2, .int .i64 an.pk, .int .i64 an.ix, .slice v1 lm v2] 54)) := ((Only.refl _ w).alloc _).alloc _
  have N1 : Has ((w.alloc (.cells #[.int .i64 5, .int .i64 n, .int .i64 bb, .int .i64 cc, .string s, .string t] 44)).alloc (.cells #[.int .i64 an.e, .int .i64 an.n, .slice p1 ln p2, .slice r1 ls r2, .string an.nm, .slice t1 lc t2, .int .i64 an.pk, .int .i64 an.ix, .slice v1 lm v2] 54)) w.heap.size #[.int .i64 5, .int .i64 n, .int .i64 bb, .int .i64 cc, .string s, .string t] 44 := (Has.new w _ _).alloc _
  have N2 : Has ((w.alloc (.cells #[.int .i64 5, .int .i64 n, .int .i64 bb, .int .i64 cc, .string s, .string t] 44)).alloc (.cells #[.int .i64 an.e, .int .i64 an.n, .slice p1 ln p2, .slice r1 ls r2, .string an.nm, .slice t1 lc t2, .int .i64 an.pk, .int .i64 an.ix, .slice v1 lm v2] 54)) (w.heap.size + 1) #[.int .i64 an.e, .int .i64 an.n, .slice p1 ln p2, .slice r1 ls r2, .string an.nm, .slice t1 lc t2, .int .i64 an.pk, .int .i64 an.ix, .slice v1 lm v2] 54 := Has.new' _ _ _ _ (by simp)
  have HR := hide (R.quiet o1)
  have HG := hide (G.quiet o1)
  have HA := hide (A.quiet o1)
  have HGl := hide (show ∀ k, m.A kG k → k < w.heap.size from G.lt)
  have HAl := hide (show ∀ k, AnB am k → k < w.heap.size from A.lt)
  have HQl := hide (show ∀ k, q.A k ∨ k = x ∨ K k → k < w.heap.size from fun k h => by
    rcases h with h | h | h
    · exact R.Alt.1 k h
    · rw [h]; exact R.Alt.2
    · exact (R.kA k h).2.2)
  have HGs := hide hGs
  have HAs := hide hAs
  have HSe := hide (And.intro Se ok)
  have HO := hide o1
  have HN1 := hide N1
  have HN2 := hide N2
  have Hsh := hide (And.intro (And.intro hp hr) (And.intro ht hv))
  unfold anC opX
  rw [hp, hr, ht, hv]
  have HS2 := hide hs2
  have He := hide he
  have Htz := hide htz
  have Hs0 := hide hsp0
  have Hco := hide (And.intro hcom hsee)
  clear hs2 he htz hsp0 hcom hsee
  clear R G A hGs hAs Se ok o1 N1 N2 hp hr ht hv hln hls hlc hlm
  go_enter Tryz.func15, Tryz.ntmps15
  go_upto_region 1 with fail
  generalize ((w.alloc (.cells #[.int .i64 5, .int .i64 n, .int .i64 bb, .int .i64 cc, .string s, .string t] 44)).alloc (.cells #[.int .i64 an.e, .int .i64 an.n, .slice p1 ln p2, .slice r1 ls r2, .string an.nm, .slice t1 lc t2, .int .i64 an.pk, .int .i64 an.ix, .slice v1 lm v2] 54)) = w1 at *
  have k1 := (unhide HN1).lt
  have k2 := (unhide HN2).lt
  have s1 := (unhide HO).size
  generalize hka : w.heap.size = ka at *
  have Hka := hide hka
  clear hka
  have a0 : w1.cell? ⟨ka, 0, none⟩ = some (.int .i64 5) := (unhide HN1).cell 0
  have a1 : w1.cell? ⟨ka, 1, none⟩ = some (.int .i64 n) := (unhide HN1).cell 1
  have b0 : w1.cell? ⟨ka + 1, 0, none⟩ = some (.int .i64 an.e) := (unhide HN2).cell 0
  have C1 := xgood_any (n : Int) w1
  rw [decide_eq_true (show gdS ((n : Nat) : Int) from ⟨by omega, by omega⟩)] at C1
  have C1 := hide C1
  have n4 : (n : Int) < 4 := by omega
  go_wp2_with fail
  refine (unhide C1).mono ?_
  rintro e w2 ⟨rfl, rfl⟩
  clear C1
  rw [unhide He] at b0
  have kGl := (unhide HG).has.lt
  have a2 : w1.cell? ⟨ka, 2, none⟩ = some (.int .i64 bb) := (unhide HN1).cell 2
  have a3 : w1.cell? ⟨ka, 3, none⟩ = some (.int .i64 cc) := (unhide HN1).cell 3
  have a4 : w1.cell? ⟨ka, 4, none⟩ = some (.string s) := (unhide HN1).cell 4
  have a5 : w1.cell? ⟨ka, 5, none⟩ = some (.string t) := (unhide HN1).cell 5
  have CA1 := hide (playShadow_any ((unhide HG).quiet ((Only.refl (fun _ => False) w1).drew)).md 5 n bb cc s t (unhide Htz))
  have CA2 := hide (playShadow_any ((unhide HG).quiet (((Only.refl (fun _ => False) w1).alloc (.cells #[.int .i64 0, .int .i64 0, .slice none 0 0, .slice none 0 0, .string ⟨#[]⟩, .slice none 0 0, .int .i64 0, .int .i64 0, .slice none 0 0] 54)).drew)).md 5 n bb cc s t (unhide Htz))
  obtain ⟨RE, HRE⟩ : ∃ z, Hid ((shP sh 5 bb cc s t).2.e = z) := ⟨_, hide rfl⟩
  obtain ⟨RN, HRN⟩ : ∃ z, Hid ((shP sh 5 bb cc s t).2.n = z) := ⟨_, hide rfl⟩
  obtain ⟨RM, HRM⟩ : ∃ z, Hid ((shP sh 5 bb cc s t).2.nm = z) := ⟨_, hide rfl⟩
  obtain ⟨RP, HRP⟩ : ∃ z, Hid ((shP sh 5 bb cc s t).2.pk = z) := ⟨_, hide rfl⟩
  obtain ⟨RI, HRI⟩ : ∃ z, Hid ((shP sh 5 bb cc s t).2.ix = z) := ⟨_, hide rfl⟩
  go_upto_region 27 with fail
  go_cut [11] from 127 to 131 (fun kv wx => ∃ kb, kv = .pointer (some ⟨kb, 0, none⟩) ∧ PsF w1 kG m (shP sh 5 bb cc s t).1 (shP sh 5 bb cc s t).2 kb wx)
  case first =>
    go_region_with (go_at_call 72; first | (refine (unhide CA1).mono ?_; intro e5 w5 hps; obtain ⟨m2, y1, yl, y2, z1, zl, z2, c1, cl, c2, n1, nl, n2, he5, ha5, h5⟩ := ps_shape hps; rw [unhide HRE, unhide HRN, unhide HRM, unhide HRP, unhide HRI] at he5 ha5; subst he5; have HF2 := hide (ps_first (e := .returned (.bool true)) (unhide HG) h5 ha5); clear h5 ha5 hps) | (refine (unhide CA2).mono ?_; intro e5 w5 hps; obtain ⟨m2, y1, yl, y2, z1, zl, z2, c1, cl, c2, n1, nl, n2, he5, ha5, h5⟩ := ps_shape hps; rw [unhide HRE, unhide HRN, unhide HRM, unhide HRP, unhide HRI] at he5 ha5; subst he5; obtain ⟨⟨b0, b1, b2, b3, b4, b5, b6, b7, b8, bf0, bf1, bf2, bf3, bf4, bf5, bf6, bf7, bf8⟩, hfin⟩ := ps_last (unhide HG) h5 (.int .i64 RE) (.int .i64 RN) (.slice y1 yl y2) (.slice z1 zl z2) (.string RM) (.slice c1 cl c2) (.int .i64 RP) (.int .i64 RI) (.slice n1 nl n2) ha5; have HF2 := hide hfin; clear h5 ha5 hps hfin))
    all_goals
      go_wp2_with fail
      go_meet
      exact ⟨_, rfl, unhide HF2⟩
  case rest =>
  clear CA1 CA2
  obtain ⟨kb, rfl, hF⟩ := hcut
  generalize wc = w2 at *
  obtain ⟨m2, v', l', hkb, hB, hA2, hAn, hG2, hm2, hi2, o2⟩ := hF
  have hb0 : w2.cell? ⟨kb, 0, none⟩ = some (.int .i64 0) := by
    have := hB.cell 0
    rw [show (anC m2 (shP sh 5 bb cc s t).2)[0]? = some (.int .i64 (shP sh 5 bb cc s t).2.e) from rfl, unhide Hs0] at this
    exact this
  have kbl := hB.lt
  have kGs : ∀ k, k = kG ∨ MLm m.shv m.shl k → m.T kG k := fun k h => h.elim .inl (fun h => .inr (.inl h))
  have sepT : ∀ k, q.A k ∨ k = x ∨ K k → ¬ (k = kG ∨ MLm m.shv m.shl k) := fun k hk c => by
    have h2 := unhide HGs k (.inl (kGs k c))
    rcases hk with hk | hk | hk
    · exact h2.1 hk
    · exact h2.2.1 hk
    · exact h2.2.2 hk
  have R2 := (unhide HR).keep o2 sepT
  have kaN : ¬ (ka = kG ∨ MLm m.shv m.shl ka) := fun c => by have := unhide HGl ka (.inl (kGs ka c)); omega
  have a1 : w2.cell? ⟨ka, 1, none⟩ = some (.int .i64 n) := ((unhide HN1).keep o2 kaN).cell 1
  have ka2 := ((unhide HN1).keep o2 kaN).lt
  have kG2 := hG2.has.lt
  have inA : ∀ k, (m.setS v' l').A kG k → m.A kG k ∨ w.heap.size ≤ k := by
    rintro k ((h | h | h) | h | h)
    · exact .inl (.inl (.inl h))
    · rcases hm2 k h with h | h
      · exact .inl (.inl (.inr (.inl h)))
      · exact .inr (by have := unhide Hka; omega)
    · exact .inl (.inl (.inr (.inr h)))
    · rcases hi2 k h with h | h
      · exact .inl (.inr (.inl h))
      · exact .inr (by have := unhide Hka; omega)
    · exact .inl (.inr (.inr h))
  have inT : ∀ k, (m.setS v' l').T kG k → m.T kG k ∨ w.heap.size ≤ k := by
    rintro k (h | h | h)
    · exact .inl (.inl h)
    · rcases hm2 k h with h | h
      · exact .inl (.inr (.inl h))
      · exact .inr (by have := unhide Hka; omega)
    · exact .inl (.inr (.inr h))
  have sepS : ∀ k, (m.setS v' l').A kG k → ¬ q.S k := fun k h c => by
    rcases inA k h with h | h
    · exact (unhide HGs k h).1 (Gnd.S_A c)
    · have := unhide HQl k (.inl (Gnd.S_A c))
      have := unhide Hka
      omega
  have C1 := hide (xshows_any (R2.quiet ((Only.refl (fun _ => False) w2).drew)) (hG2.quiet ((Only.refl (fun _ => False) w2).drew)).md (fun k h => sepS k (by
    rcases h with h | h | h
    · exact .inl (.inl h)
    · exact .inl (.inr (.inl h))
    · exact .inr (.inl h))) hn (unhide Hco).1 (unhide Hco).2)
  have HG2 := hide hG2
  have HIn := hide (And.intro inA inT)
  have HSq := hide sepS
  have HT2 := hide (o2.mono (T := fun k => m.T kG k) (fun k _ h => kGs k h))
  clear hB hA2 hAn hG2 hm2 hi2 o2 R2 sepT kGs kaN inA inT sepS hkb HN1 HN2
  go_upto_region 30 with fail
  have kaS : ¬ q.S ka := fun c => by have := unhide HQl ka (.inl (Gnd.S_A c)); omega
  refine wp_region_held_drew (S := (fun w' => w'.cell? ⟨ka, 1, none⟩ = some (.int .i64 n))) (by kernel_rfl) a1 (fun hH0 => ?_)
  refine takeH 0 135 (v := ?vsh1) rfl rfl (by kernel_rfl) (by kernel_rfl) (by kernel_rfl) (fun _ _ _ h => h) (Or.inl ⟨by rfl, ?hsh1⟩) hH0 ?rsh1
  case hsh1 => (intro w hSw; clear hSw; go_simp; (try with_reducible rfl))
  case rsh1 =>
  try simp only [Act.put, List.setIfInBounds_toArray, List.set_cons_zero, List.set_cons_succ]
  refine takeH 1 136 (v := ?vsh2) rfl rfl (by kernel_rfl) (by kernel_rfl) (by kernel_rfl) (fun _ _ _ h => h) (Or.inl ⟨by rfl, ?hsh2⟩) hH0 ?rsh2
  case hsh2 => (intro w hSw; clear hSw; go_simp; (try with_reducible rfl))
  case rsh2 =>
  try simp only [Act.put, List.setIfInBounds_toArray, List.set_cons_zero, List.set_cons_succ]
  refine takeH 2 137 (v := ?vsh3) rfl rfl (by kernel_rfl) (by kernel_rfl) (by kernel_rfl) (fun _ _ _ h => h) (Or.inl ⟨by rfl, ?hsh3⟩) hH0 ?rsh3
  case hsh3 => (intro w hSw; have s0 := hSw; clear hSw; go_simp; (try with_reducible rfl))
  case rsh3 =>
  try simp only [Act.put, List.setIfInBounds_toArray, List.set_cons_zero, List.set_cons_succ]
  refine takeH 3 138 (v := ?vsh4) rfl rfl (by kernel_rfl) (by kernel_rfl) (by kernel_rfl) (fun _ _ _ h => h) (Or.inl ⟨by rfl, ?hsh4⟩) hH0 ?rsh4
  case hsh4 => (intro w hSw; clear hSw; go_simp; (try with_reducible rfl))
  case rsh4 =>
  try simp only [Act.put, List.setIfInBounds_toArray, List.set_cons_zero, List.set_cons_succ]
  refine takeH 4 139 (v := ?vsh5) rfl rfl (by kernel_rfl) (by kernel_rfl) (by kernel_rfl) (fun _ _ _ h => h) (Or.inl ⟨by rfl, ?hsh5⟩) hH0 ?rsh5
  case hsh5 => (intro w hSw; clear hSw; go_simp; (try with_reducible rfl))
  case rsh5 =>
  try simp only [Act.put, List.setIfInBounds_toArray, List.set_cons_zero, List.set_cons_succ]
  refine takeH 5 140 (v := ?vsh6) rfl rfl (by kernel_rfl) (by kernel_rfl) (by kernel_rfl) (fun _ _ _ h => h) (Or.inl ⟨by rfl, ?hsh6⟩) hH0 ?rsh6
  case hsh6 => (intro w hSw; clear hSw; go_simp; (try with_reducible rfl))
  case rsh6 =>
  try simp only [Act.put, List.setIfInBounds_toArray, List.set_cons_zero, List.set_cons_succ]
  refine callH 6 (by kernel_rfl) rfl 141 rfl rfl 73 Tryz.func73 (by kernel_rfl) (by kernel_rfl) #[.tmp 135, .tmp 137, .tmp 140] #[32, 3, 130] rfl #[.pointer (some ⟨g, 0, none⟩), .int .i64 (n : Int), .pointer (some ⟨kG, 0, none⟩)] (by simp [Act.eval]) (R := fun v w' => v = .bool true ∧ RX q w' g x M' K ∧ Only q.S w2.drew w') ((unhide C1).mono (by rintro en w' ⟨rfl, h1, h2⟩; exact ⟨_, rfl, rfl, h1, h2⟩)) ?ksh
  case ksh =>
  rintro _ w6 ⟨rfl, R6, o6⟩
  have S6 : w6.cell? ⟨ka, 1, none⟩ = some (.int .i64 n) := cell_keepX hH0 o6 kaS
  refine ⟨S6, ?_⟩
  try simp only [Act.put, List.setIfInBounds_toArray, List.set_cons_zero, List.set_cons_succ]
  refine takeH 7 8 (v := ?vsh7) rfl rfl (by kernel_rfl) (by kernel_rfl) (by kernel_rfl) (fun _ _ _ h => h) (Or.inl ⟨by rfl, ?hsh7⟩) S6 ?rsh7
  case hsh7 => (intro w hSw; clear hSw; go_simp; (try with_reducible rfl))
  case rsh7 =>
  try simp only [Act.put, List.setIfInBounds_toArray, List.set_cons_zero, List.set_cons_succ]
  refine wpAnyH_done (by kernel_rfl) ?_ _
  have oD : Only q.S w2 w6 := (((Only.refl (fun _ => False) w2).drew).mono (fun _ _ e => e.elim)).trans o6 (fun _ _ e => e)
  have FF := hide (show FoP q w g x M' K kG m am (.returned (.bool true)) w6 from ⟨rfl, _, _, (unhide HG2).keep oD (unhide HSq), unhide HS2 _ _, R6, fun k h => ((unhide HIn).1 k h).imp id .inr, (unhide HIn).2, ((unhide HO).mono (T := fun k => q.S k ∨ m.T kG k) (fun _ _ h => h.elim)).trans (((unhide HT2).mono (T := fun k => q.S k ∨ m.T kG k) (fun _ _ h => .inr h)).trans (oD.mono (T := fun k => q.S k ∨ m.T kG k) (fun _ _ h => .inl h)) (fun _ _ h => h)) (fun _ _ h => h)⟩)
  clear hH0 S6 o6 oD R6
  go_wp2_with fail
  go_ret
  exact unhide FF
end
end Go.Proofs.Qxb6500414aGreat
