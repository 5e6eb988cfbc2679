/-
  OWN WORK. THE TXN LAW: Follow: a Commit that failed, or whose list was given up (written by tools/gen_xg6.py).
-/
import Derived.Test.Qxb6500414aGreatXG2
namespace Go.Proofs.Qxb6500414aGreat
open Go.RowKit Go.PlainAid
set_option linter.unusedSimpArgs false
set_option linter.unusedVariables false

section
variable {q : Gnd} {w : World} {g x kG n : Nat} {M M' : Mu} {K : Nat → Prop} {m : GhM} {sh : Db} {am : AnM} {an : An} {kd a bb cc : Int} {s t : ByteArray}
set_option maxRecDepth 100000 in
set_option maxHeartbeats 4000000 in
theorem fo_e2 (R : RX q w g x M' K) (G : GhAt w kG m sh) (A : AnAt w am an) (hGs : ∀ k, m.A kG k → ¬ q.A k ∧ k ≠ x ∧ ¬ K k) (hAs : ∀ k, AnB am k → ¬ q.A k ∧ k ≠ x ∧ ¬ K k ∧ ¬ m.T kG k) (Se : SerI M m sh) (ok : MuOk M) (hn : n < 4) (he : an.e ≠ 0) (hsame : SerI M' m sh) : Calls Tryz.prog 15 #[.pointer (some ⟨kG, 0, none⟩), .pointer (some ⟨g, 0, none⟩), opX 2 n bb cc s t, .agg (anC am an)] w (FoP q w g x M' K kG m am) := by
  obtain ⟨p1, p2, hp⟩ := A.row.shape
  obtain ⟨r1, r2, hr⟩ := ownsRow_shape A.own
  obtain ⟨t1, t2, ht⟩ := A.col.shape
  obtain ⟨v1, v2, hv⟩ := ownsRow_shape A.nms
  obtain ⟨ln, hln⟩ : ∃ k, an.row.length = k := ⟨_, rfl⟩
  obtain ⟨ls, hls⟩ : ∃ k, am.Z.length = k := ⟨_, rfl⟩
  obtain ⟨lc, hlc⟩ : ∃ k, an.cols.length = k := ⟨_, rfl⟩
  obtain ⟨lm, hlm⟩ : ∃ k, an.names.length = k := ⟨_, rfl⟩
  rw [hln] at hp
  rw [hls] at hr
  rw [hlc] at ht
  rw [hlm] at hv
  have o1 : Only (fun _ => False) w ((w.alloc (.cells #[.int .i64 2, .int .i64 n, .int .i64 bb, .int .i64 cc, .string s, .string t] 44)).alloc (.cells #[.int .i64 an.e, .int .i64 an.n, .slice p1 ln p2, .slice r1 ls r2, .string an.nm, .slice t1 lc t2, .int .i64 an.pk, .int .i64 an.ix, .slice v1 lm v2] 54)) := ((Only.refl _ w).alloc _).alloc _
  have N1 : Has ((w.alloc (.cells #[.int .i64 2, .int .i64 n, .int .i64 bb, .int .i64 cc, .string s, .string t] 44)).alloc (.cells #[.int .i64 an.e, .int .i64 an.n, .slice p1 ln p2, .slice r1 ls r2, .string an.nm, .slice t1 lc t2, .int .i64 an.pk, .int .i64 an.ix, .slice v1 lm v2] 54)) w.heap.size #[.int .i64 2, .int .i64 n, .int .i64 bb, .int .i64 cc, .string s, .string t] 44 := (Has.new w _ _).alloc _
  have N2 : Has ((w.alloc (.cells #[.int .i64 2, .int .i64 n, .int .i64 bb, .int .i64 cc, .string s, .string t] 44)).alloc (.cells #[.int .i64 an.e, .int .i64 an.n, .slice p1 ln p2, .slice r1 ls r2, .string an.nm, .slice t1 lc t2, .int .i64 an.pk, .int .i64 an.ix, .slice v1 lm v2] 54)) (w.heap.size + 1) #[.int .i64 an.e, .int .i64 an.n, .slice p1 ln p2, .slice r1 ls r2, .string an.nm, .slice t1 lc t2, .int .i64 an.pk, .int .i64 an.ix, .slice v1 lm v2] 54 := Has.new' _ _ _ _ (by simp)
  have HR := hide (R.quiet o1)
  have HG := hide (G.quiet o1)
  have HA := hide (A.quiet o1)
  have HGl := hide (show ∀ k, m.A kG k → k < w.heap.size from G.lt)
  have HAl := hide (show ∀ k, AnB am k → k < w.heap.size from A.lt)
  have HQl := hide (show ∀ k, q.A k ∨ k = x ∨ K k → k < w.heap.size from fun k h => by
    rcases h with h | h | h
    · exact R.Alt.1 k h
    · rw [h]; exact R.Alt.2
    · exact (R.kA k h).2.2)
  have HGs := hide hGs
  have HAs := hide hAs
  have HSe := hide (And.intro Se ok)
  have HO := hide o1
  have HN1 := hide N1
  have HN2 := hide N2
  have Hsh := hide (And.intro (And.intro hp hr) (And.intro ht hv))
  unfold anC opX
  rw [hp, hr, ht, hv]
  have HS2 := hide hsame
  have He := hide he
  clear hsame he
  clear R G A hGs hAs Se ok o1 N1 N2 hp hr ht hv hln hls hlc hlm
  go_enter Tryz.func15, Tryz.ntmps15
  go_upto_region 1 with fail
  generalize ((w.alloc (.cells #[.int .i64 2, .int .i64 n, .int .i64 bb, .int .i64 cc, .string s, .string t] 44)).alloc (.cells #[.int .i64 an.e, .int .i64 an.n, .slice p1 ln p2, .slice r1 ls r2, .string an.nm, .slice t1 lc t2, .int .i64 an.pk, .int .i64 an.ix, .slice v1 lm v2] 54)) = w1 at *
  have k1 := (unhide HN1).lt
  have k2 := (unhide HN2).lt
  have s1 := (unhide HO).size
  generalize hka : w.heap.size = ka at *
  have Hka := hide hka
  clear hka
  have a0 : w1.cell? ⟨ka, 0, none⟩ = some (.int .i64 2) := (unhide HN1).cell 0
  have a1 : w1.cell? ⟨ka, 1, none⟩ = some (.int .i64 n) := (unhide HN1).cell 1
  have b0 : w1.cell? ⟨ka + 1, 0, none⟩ = some (.int .i64 an.e) := (unhide HN2).cell 0
  have C1 := xgood_any (n : Int) w1
  rw [decide_eq_true (show gdS ((n : Nat) : Int) from ⟨by omega, by omega⟩)] at C1
  have C1 := hide C1
  have n4 : (n : Int) < 4 := by omega
  go_wp2_with fail
  refine (unhide C1).mono ?_
  rintro e w2 ⟨rfl, rfl⟩
  clear C1
  have z0 : (an.e == 0) = false := ne_intO (unhide He)
  have kGl := (unhide HG).has.lt
  go_upto_region 10 with fail
  go_cut [49] (fun zv wx => zv = .bool false ∧ Only (fun _ => False) w1 wx)
  case first =>
    go_quiet (fail)
    go_wp2_with fail
    go_meet
    exact ⟨rfl, onlyQ _ _⟩
  case rest =>
  obtain ⟨rfl, oC⟩ := hcut
  generalize wc = w2 at *
  clear kGl
  have HG := hide ((unhide HG).quiet oC)
  have HR := hide ((unhide HR).quiet oC)
  have HA := hide ((unhide HA).quiet oC)
  have HO := hide ((unhide HO).trans oC (fun _ _ h => h))
  have HN1 := hide ((unhide HN1).keep oC (fun h => h))
  have HN2 := hide ((unhide HN2).keep oC (fun h => h))
  clear oC a0 a1 b0
  have k1 := (unhide HN1).lt
  have k2 := (unhide HN2).lt
  have s1 := (unhide HO).size
  have a0 : w2.cell? ⟨ka, 0, none⟩ = some (.int .i64 2) := (unhide HN1).cell 0
  have a1 : w2.cell? ⟨ka, 1, none⟩ = some (.int .i64 n) := (unhide HN1).cell 1
  have b0 : w2.cell? ⟨ka + 1, 0, none⟩ = some (.int .i64 an.e) := (unhide HN2).cell 0
  have FF := hide (show FoP q w g x M' K kG m am (.returned (.bool true)) w2 from ⟨rfl, m, sh, unhide HG, unhide HS2, unhide HR, fun k h => .inl h, fun k h => .inl h, ((unhide HO).mono (fun _ _ h => h.elim))⟩)
  go_wp2_with fail
  go_ret
  exact unhide FF
set_option maxRecDepth 100000 in
set_option maxHeartbeats 4000000 in
theorem fo_cov (R : RX q w g x M' K) (G : GhAt w kG m sh) (A : AnAt w am an) (hGs : ∀ k, m.A kG k → ¬ q.A k ∧ k ≠ x ∧ ¬ K k) (hAs : ∀ k, AnB am k → ¬ q.A k ∧ k ≠ x ∧ ¬ K k ∧ ¬ m.T kG k) (Se : SerI M m sh) (ok : MuOk M) (hn : n < 4) (he : an.e = 0) (hov : m.ov n = true) (hsee : M'.see n = M'.com) (hs2 : ∀ v l, SerI M' ((m.setO n false).setS v l) M'.com) : Calls Tryz.prog 15 #[.pointer (some ⟨kG, 0, none⟩), .pointer (some ⟨g, 0, none⟩), opX 2 n bb cc s t, .agg (anC am an)] w (FoP q w g x M' K kG m am) := by
  obtain ⟨p1, p2, hp⟩ := A.row.shape
  obtain ⟨r1, r2, hr⟩ := ownsRow_shape A.own
  obtain ⟨t1, t2, ht⟩ := A.col.shape
  obtain ⟨v1, v2, hv⟩ := ownsRow_shape A.nms
  obtain ⟨ln, hln⟩ : ∃ k, an.row.length = k := ⟨_, rfl⟩
  obtain ⟨ls, hls⟩ : ∃ k, am.Z.length = k := ⟨_, rfl⟩
  obtain ⟨lc, hlc⟩ : ∃ k, an.cols.length = k := ⟨_, rfl⟩
  obtain ⟨lm, hlm⟩ : ∃ k, an.names.length = k := ⟨_, rfl⟩
  rw [hln] at hp
  rw [hls] at hr
  rw [hlc] at ht
  rw [hlm] at hv
  have o1 : Only (fun _ => False) w ((w.alloc (.cells #[.int .i64 2, .int .i64 n, .int .i64 bb, .int .i64 cc, .string s, .string t] 44)).alloc (.cells #[.int .i64 an.e, .int .i64 an.n, .slice p1 ln p2, .slice r1 ls r2, .string an.nm, .slice t1 lc t2, .int .i64 an.pk, .int .i64 an.ix, .slice v1 lm v2] 54)) := ((Only.refl _ w).alloc _).alloc _
  have N1 : Has ((w.alloc (.cells #[.int .i64 2, .int .i64 n, .int .i64 bb, .int .i64 cc, .string s, .string t] 44)).alloc (.cells #[.int .i64 an.e, .int .i64 an.n, .slice p1 ln p2, .slice r1 ls r2, .string an.nm, .slice t1 lc t2, .int .i64 an.pk, .int .i64 an.ix, .slice v1 lm v2] 54)) w.heap.size #[.int .i64 2, .int .i64 n, .int .i64 bb, .int .i64 cc, .string s, .string t] 44 := (Has.new w _ _).alloc _
  have N2 : Has ((w.alloc (.cells #[.int .i64 2, .int .i64 n, .int .i64 bb, .int .i64 cc, .string s, .string t] 44)).alloc (.cells #[.int .i64 an.e, .int .i64 an.n, .slice p1 ln p2, .slice r1 ls r2, .string an.nm, .slice t1 lc t2, .int .i64 an.pk, .int .i64 an.ix, .slice v1 lm v2] 54)) (w.heap.size + 1) #[.int .i64 an.e, .int .i64 an.n, .slice p1 ln p2, .slice r1 ls r2, .string an.nm, .slice t1 lc t2, .int .i64 an.pk, .int .i64 an.ix, .slice v1 lm v2] 54 := Has.new' _ _ _ _ (by simp)
  have HR := hide (R.quiet o1)
  have HG := hide (G.quiet o1)
  have HA := hide (A.quiet o1)
  have HGl := hide (show ∀ k, m.A kG k → k < w.heap.size from G.lt)
  have HAl := hide (show ∀ k, AnB am k → k < w.heap.size from A.lt)
  have HQl := hide (show ∀ k, q.A k ∨ k = x ∨ K k → k < w.heap.size from fun k h => by
    rcases h with h | h | h
    · exact R.Alt.1 k h
    · rw [h]; exact R.Alt.2
    · exact (R.kA k h).2.2)
  have HGs := hide hGs
  have HAs := hide hAs
  have HSe := hide (And.intro Se ok)
  have HO := hide o1
  have HN1 := hide N1
  have HN2 := hide N2
  have Hsh := hide (And.intro (And.intro hp hr) (And.intro ht hv))
  unfold anC opX
  rw [hp, hr, ht, hv]
  have HS2 := hide hs2
  have He := hide he
  have Hov := hide hov
  have Hsee := hide hsee
  clear hs2 he hov hsee
  clear R G A hGs hAs Se ok o1 N1 N2 hp hr ht hv hln hls hlc hlm
  go_enter Tryz.func15, Tryz.ntmps15
  go_upto_region 1 with fail
  generalize ((w.alloc (.cells #[.int .i64 2, .int .i64 n, .int .i64 bb, .int .i64 cc, .string s, .string t] 44)).alloc (.cells #[.int .i64 an.e, .int .i64 an.n, .slice p1 ln p2, .slice r1 ls r2, .string an.nm, .slice t1 lc t2, .int .i64 an.pk, .int .i64 an.ix, .slice v1 lm v2] 54)) = w1 at *
  have k1 := (unhide HN1).lt
  have k2 := (unhide HN2).lt
  have s1 := (unhide HO).size
  generalize hka : w.heap.size = ka at *
  have Hka := hide hka
  clear hka
  have a0 : w1.cell? ⟨ka, 0, none⟩ = some (.int .i64 2) := (unhide HN1).cell 0
  have a1 : w1.cell? ⟨ka, 1, none⟩ = some (.int .i64 n) := (unhide HN1).cell 1
  have b0 : w1.cell? ⟨ka + 1, 0, none⟩ = some (.int .i64 an.e) := (unhide HN2).cell 0
  have C1 := xgood_any (n : Int) w1
  rw [decide_eq_true (show gdS ((n : Nat) : Int) from ⟨by omega, by omega⟩)] at C1
  have C1 := hide C1
  have n4 : (n : Int) < 4 := by omega
  go_wp2_with fail
  refine (unhide C1).mono ?_
  rintro e w2 ⟨rfl, rfl⟩
  clear C1
  rw [unhide He] at b0
  have c1 := (unhide HG).cO hn
  rw [unhide Hov] at c1
  have kGl := (unhide HG).has.lt
  go_upto_region 10 with fail
  go_cut [49] (fun zv wx => zv = .bool true ∧ Only (fun _ => False) w1 wx)
  case first =>
    go_quiet (fail)
    go_wp2_with fail
    go_meet
    exact ⟨rfl, onlyQ _ _⟩
  case rest =>
  obtain ⟨rfl, oC⟩ := hcut
  generalize wc = w2 at *
  clear kGl c1
  have HG := hide ((unhide HG).quiet oC)
  have HR := hide ((unhide HR).quiet oC)
  have HA := hide ((unhide HA).quiet oC)
  have HO := hide ((unhide HO).trans oC (fun _ _ h => h))
  have HN1 := hide ((unhide HN1).keep oC (fun h => h))
  have HN2 := hide ((unhide HN2).keep oC (fun h => h))
  clear oC a0 a1 b0
  have k1 := (unhide HN1).lt
  have k2 := (unhide HN2).lt
  have s1 := (unhide HO).size
  have a0 : w2.cell? ⟨ka, 0, none⟩ = some (.int .i64 2) := (unhide HN1).cell 0
  have a1 : w2.cell? ⟨ka, 1, none⟩ = some (.int .i64 n) := (unhide HN1).cell 1
  have b0 : w2.cell? ⟨ka + 1, 0, none⟩ = some (.int .i64 an.e) := (unhide HN2).cell 0
  rw [unhide He] at b0
  have c1 := (unhide HG).cO hn
  have f1 := (unhide HG).has.free (5 + n)
  have kGl := (unhide HG).has.lt
  have oS : Only (fun k => k = kG) w2 (w2.setCell ⟨kG, 5 + n, none⟩ (.bool false)).drew := (only1 (w := w2) (p := kG) _ _).trans ((Only.refl (fun _ => False) _).drew.mono (T := fun k => k = kG) (fun _ _ h => h.elim)) (fun _ _ h => h)
  have G3 := ((unhide HG).setO hn false).quiet ((Only.refl (fun _ => False) _).drew)
  have kne : ka ≠ kG := fun e => by have := unhide HGl kG (.inl (.inl rfl)); omega
  have sepK : ∀ k, q.A k ∨ k = x ∨ K k → ¬ (k = kG) := fun k hk c => by
    have h2 := unhide HGs kG (.inl (.inl rfl))
    rw [c] at hk
    rcases hk with hk | hk | hk
    · exact h2.1 hk
    · exact h2.2.1 hk
    · exact h2.2.2 hk
  have R3 := (unhide HR).keep oS sepK
  have N3 := (unhide HN1).keep oS kne
  have HG3 := hide G3
  have HR3 := hide R3
  have HN3 := hide N3
  have HOS := hide oS
  have HsK := hide sepK
  clear G3 R3 N3 oS sepK
  go_upto_region 11 with fail
  go_region
  all_goals
    generalize (w2.setCell ⟨kG, 5 + n, none⟩ (.bool false)).drew = w3 at *
    have a1 : w3.cell? ⟨ka, 1, none⟩ = some (.int .i64 n) := (unhide HN3).cell 1
    have k3 := (unhide HN3).lt
    have C2 := hide (shadowOf_any (unhide HR3) hn rfl (unhide Hsee))
    go_upto_region 12 with fail
    go_wp2_with fail
    refine (unhide C2).mono ?_
    rintro e w4 ⟨tv, l4, rfl, hM4, ht4, hn4, R4, o4⟩
    clear C2
    obtain ⟨t1', t2', htv⟩ := hM4.shape
    obtain ⟨tl', htl⟩ : ∃ k, l4.length = k := ⟨_, rfl⟩
    rw [htl] at htv
    have G4 := (unhide HG3).keep o4 (fun k hk c => (unhide HGs k (show m.A kG k from hk)).1 (Gnd.S_A c))
    have c0 : w4.cell? ⟨kG, 0, none⟩ = some m.shv := G4.cell 0 (by omega)
    have f0 := G4.has.free 0
    have kG4 := G4.has.lt
    have hlt3 := (unhide HG3).lt
    have GD : DOk M'.com := ⟨(unhide HR3).dg.1.tb, (unhide HR3).dg.1.srt, (unhide HR3).dg.1.len⟩
    have G5 := G4.newS hM4 ht4 GD (fun k hk c => by
      have h1 := hn4 k hk
      have h2 := hlt3 k c
      omega)
    have s2 := (unhide HOS).size
    have oK : Only (fun k => k = kG) w4 (w4.setCell ⟨kG, 0, none⟩ tv) := only1 _ _
    have FF := hide (show FoP q w g x M' K kG m am (.returned (.bool true)) (w4.setCell ⟨kG, 0, none⟩ tv) from ⟨rfl, _, _, G5, unhide HS2 _ _, R4.keep oK (unhide HsK), fun k h => by
      rcases h with (h | h | h) | h | h
      · exact .inl (.inl (.inl h))
      · exact .inr (.inr (by have := hn4 k (.inl h); have := unhide Hka; omega))
      · exact .inl (.inl (.inr (.inr h)))
      · exact .inr (.inr (by have := hn4 k (.inr h); have := unhide Hka; omega))
      · exact .inl (.inr (.inr h)), fun k h => by
      rcases h with h | h | h
      · exact .inl (.inl h)
      · exact .inr (by have := hn4 k (.inl h); have := unhide Hka; omega)
      · exact .inl (.inr (.inr h)), (((unhide HO).mono (T := fun k => q.S k ∨ m.T kG k) (fun _ _ h => h.elim)).trans ((unhide HOS).mono (T := fun k => q.S k ∨ m.T kG k) (fun _ _ h => .inr (.inl h))) (fun _ _ h => h)).trans ((o4.mono (T := fun k => q.S k ∨ m.T kG k) (fun _ _ h => .inl h)).trans (oK.mono (T := fun k => q.S k ∨ m.T kG k) (fun _ _ h => .inr (.inl h))) (fun _ _ h => h)) (fun _ _ h => h)⟩)
    rw [htv] at FF ⊢
    obtain ⟨sa, sb, sc, hshv⟩ : ∃ sa sb sc, m.shv = .slice sa sb sc := by obtain ⟨a, c, h⟩ := (unhide HG).md.ml.shape; exact ⟨a, _, c, h⟩
    rw [hshv] at c0
    clear hM4 ht4 hn4 R4 o4 G4 G5 oK htv htl hshv hlt3
    go_wp2_with fail
    go_ret
    exact unhide FF
end
end Go.Proofs.Qxb6500414aGreat
