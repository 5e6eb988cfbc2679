/-
  OWN WORK. THE TXN LAW: Follow: the recorded ops that leave the list (written by tools/gen_xg3.py).
-/
import Derived.Test.Qxb6500414aGreatXG2
namespace Go.Proofs.Qxb6500414aGreat
open Go.RowKit Go.PlainAid
set_option linter.unusedSimpArgs false
set_option linter.unusedVariables false

section
variable {q : Gnd} {w : World} {g x kG n : Nat} {M M' : Mu} {K : Nat → Prop} {m : GhM} {sh : Db} {am : AnM} {an : An} {kd a bb cc : Int} {s t : ByteArray}
set_option maxRecDepth 100000 in
set_option maxHeartbeats 4000000 in
theorem fo_p8e2 (R : RX q w g x M' K) (G : GhAt w kG m sh) (A : AnAt w am an) (hGs : ∀ k, m.A kG k → ¬ q.A k ∧ k ≠ x ∧ ¬ K k) (hAs : ∀ k, AnB am k → ¬ q.A k ∧ k ≠ x ∧ ¬ K k ∧ ¬ m.T kG k) (Se : SerI M m sh) (ok : MuOk M) (hn : n < 4) (he : an.e = 2) (hsame : SerI M' m sh) : Calls Tryz.prog 15 #[.pointer (some ⟨kG, 0, none⟩), .pointer (some ⟨g, 0, none⟩), opX 8 n bb cc s t, .agg (anC am an)] w (FoP q w g x M' K kG m am) := by
  obtain ⟨p1, p2, hp⟩ := A.row.shape
  obtain ⟨r1, r2, hr⟩ := ownsRow_shape A.own
  obtain ⟨t1, t2, ht⟩ := A.col.shape
  obtain ⟨v1, v2, hv⟩ := ownsRow_shape A.nms
  obtain ⟨ln, hln⟩ : ∃ k, an.row.length = k := ⟨_, rfl⟩
  obtain ⟨ls, hls⟩ : ∃ k, am.Z.length = k := ⟨_, rfl⟩
  obtain ⟨lc, hlc⟩ : ∃ k, an.cols.length = k := ⟨_, rfl⟩
  obtain ⟨lm, hlm⟩ : ∃ k, an.names.length = k := ⟨_, rfl⟩
  rw [hln] at hp
  rw [hls] at hr
  rw [hlc] at ht
  rw [hlm] at hv
  have o1 : Only (fun _ => False) w ((w.alloc (.cells #[.int .i64 8, .int .i64 n, .int .i64 bb, .int .i64 cc, .string s, .string t] 44)).alloc (.cells #[.int .i64 an.e, .int .i64 an.n, .slice p1 ln p2, .slice r1 ls r2, .string an.nm, .slice t1 lc t2, .int .i64 an.pk, .int .i64 an.ix, .slice v1 lm v2] 54)) := ((Only.refl _ w).alloc _).alloc _
  have N1 : Has ((w.alloc (.cells #[.int .i64 8, .int .i64 n, .int .i64 bb, .int .i64 cc, .string s, .string t] 44)).alloc (.cells #[.int .i64 an.e, .int .i64 an.n, .slice p1 ln p2, .slice r1 ls r2, .string an.nm, .slice t1 lc t2, .int .i64 an.pk, .int .i64 an.ix, .slice v1 lm v2] 54)) w.heap.size #[.int .i64 8, .int .i64 n, .int .i64 bb, .int .i64 cc, .string s, .string t] 44 := (Has.new w _ _).alloc _
  have N2 : Has ((w.alloc (.cells #[.int .i64 8, .int .i64 n, .int .i64 bb, .int .i64 cc, .string s, .string t] 44)).alloc (.cells #[.int .i64 an.e, .int .i64 an.n, .slice p1 ln p2, .slice r1 ls r2, .string an.nm, .slice t1 lc t2, .int .i64 an.pk, .int .i64 an.ix, .slice v1 lm v2] 54)) (w.heap.size + 1) #[.int .i64 an.e, .int .i64 an.n, .slice p1 ln p2, .slice r1 ls r2, .string an.nm, .slice t1 lc t2, .int .i64 an.pk, .int .i64 an.ix, .slice v1 lm v2] 54 := Has.new' _ _ _ _ (by simp)
  have HR := hide (R.quiet o1)
  have HG := hide (G.quiet o1)
  have HA := hide (A.quiet o1)
  have HGl := hide (show ∀ k, m.A kG k → k < w.heap.size from G.lt)
  have HAl := hide (show ∀ k, AnB am k → k < w.heap.size from A.lt)
  have HQl := hide (show ∀ k, q.A k ∨ k = x ∨ K k → k < w.heap.size from fun k h => by
    rcases h with h | h | h
    · exact R.Alt.1 k h
    · rw [h]; exact R.Alt.2
    · exact (R.kA k h).2.2)
  have HGs := hide hGs
  have HAs := hide hAs
  have HSe := hide (And.intro Se ok)
  have HO := hide o1
  have HN1 := hide N1
  have HN2 := hide N2
  have Hsh := hide (And.intro (And.intro hp hr) (And.intro ht hv))
  unfold anC opX
  rw [hp, hr, ht, hv]
  have HS2 := hide hsame
  have He := hide he
  clear hsame he
  clear R G A hGs hAs Se ok o1 N1 N2 hp hr ht hv hln hls hlc hlm
  go_enter Tryz.func15, Tryz.ntmps15
  go_upto_region 1 with fail
  generalize ((w.alloc (.cells #[.int .i64 8, .int .i64 n, .int .i64 bb, .int .i64 cc, .string s, .string t] 44)).alloc (.cells #[.int .i64 an.e, .int .i64 an.n, .slice p1 ln p2, .slice r1 ls r2, .string an.nm, .slice t1 lc t2, .int .i64 an.pk, .int .i64 an.ix, .slice v1 lm v2] 54)) = w1 at *
  have k1 := (unhide HN1).lt
  have k2 := (unhide HN2).lt
  have s1 := (unhide HO).size
  generalize hka : w.heap.size = ka at *
  have Hka := hide hka
  clear hka
  have a0 : w1.cell? ⟨ka, 0, none⟩ = some (.int .i64 8) := (unhide HN1).cell 0
  have a1 : w1.cell? ⟨ka, 1, none⟩ = some (.int .i64 n) := (unhide HN1).cell 1
  have b0 : w1.cell? ⟨ka + 1, 0, none⟩ = some (.int .i64 an.e) := (unhide HN2).cell 0
  have C1 := xgood_any (n : Int) w1
  rw [decide_eq_true (show gdS ((n : Nat) : Int) from ⟨by omega, by omega⟩)] at C1
  have C1 := hide C1
  have n4 : (n : Int) < 4 := by omega
  go_wp2_with fail
  refine (unhide C1).mono ?_
  rintro e w2 ⟨rfl, rfl⟩
  clear C1
  rw [unhide He] at b0
  have c1 := (unhide HG).cO hn
  have kGl := (unhide HG).has.lt
  go_upto_region 36 with fail
  go_cut [165] (fun zv wx => zv = .bool false ∧ Only (fun _ => False) w1 wx)
  case first =>
    go_quiet (fail)
    go_wp2_with fail
    go_meet
    exact ⟨rfl, onlyQ _ _⟩
  case rest =>
  obtain ⟨rfl, oC⟩ := hcut
  generalize wc = w2 at *
  have FF := hide (show FoP q w g x M' K kG m am (.returned (.bool true)) w2 from ⟨rfl, m, sh, (unhide HG).quiet oC, unhide HS2, (unhide HR).quiet oC, fun k h => .inl h, fun k h => .inl h, (((unhide HO).trans oC (fun _ _ h => h)).mono (fun _ _ h => h.elim))⟩)
  go_wp2_with fail
  go_ret
  exact unhide FF
set_option maxRecDepth 100000 in
set_option maxHeartbeats 4000000 in
theorem fo_p8e21 (R : RX q w g x M' K) (G : GhAt w kG m sh) (A : AnAt w am an) (hGs : ∀ k, m.A kG k → ¬ q.A k ∧ k ≠ x ∧ ¬ K k) (hAs : ∀ k, AnB am k → ¬ q.A k ∧ k ≠ x ∧ ¬ K k ∧ ¬ m.T kG k) (Se : SerI M m sh) (ok : MuOk M) (hn : n < 4) (he : an.e = 21) (hsame : SerI M' m sh) : Calls Tryz.prog 15 #[.pointer (some ⟨kG, 0, none⟩), .pointer (some ⟨g, 0, none⟩), opX 8 n bb cc s t, .agg (anC am an)] w (FoP q w g x M' K kG m am) := by
  obtain ⟨p1, p2, hp⟩ := A.row.shape
  obtain ⟨r1, r2, hr⟩ := ownsRow_shape A.own
  obtain ⟨t1, t2, ht⟩ := A.col.shape
  obtain ⟨v1, v2, hv⟩ := ownsRow_shape A.nms
  obtain ⟨ln, hln⟩ : ∃ k, an.row.length = k := ⟨_, rfl⟩
  obtain ⟨ls, hls⟩ : ∃ k, am.Z.length = k := ⟨_, rfl⟩
  obtain ⟨lc, hlc⟩ : ∃ k, an.cols.length = k := ⟨_, rfl⟩
  obtain ⟨lm, hlm⟩ : ∃ k, an.names.length = k := ⟨_, rfl⟩
  rw [hln] at hp
  rw [hls] at hr
  rw [hlc] at ht
  rw [hlm] at hv
  have o1 : Only (fun _ => False) w ((w.alloc (.cells #[.int .i64 8, .int .i64 n, .int .i64 bb, .int .i64 cc, .string s, .string t] 44)).alloc (.cells #[.int .i64 an.e, .int .i64 an.n, .slice p1 ln p2, .slice r1 ls r2, .string an.nm, .slice t1 lc t2, .int .i64 an.pk, .int .i64 an.ix, .slice v1 lm v2] 54)) := ((Only.refl _ w).alloc _).alloc _
  have N1 : Has ((w.alloc (.cells #[.int .i64 8, .int .i64 n, .int .i64 bb, .int .i64 cc, .string s, .string t] 44)).alloc (.cells #[.int .i64 an.e, .int .i64 an.n, .slice p1 ln p2, .slice r1 ls r2, .string an.nm, .slice t1 lc t2, .int .i64 an.pk, .int .i64 an.ix, .slice v1 lm v2] 54)) w.heap.size #[.int .i64 8, .int .i64 n, .int .i64 bb, .int .i64 cc, .string s, .string t] 44 := (Has.new w _ _).alloc _
  have N2 : Has ((w.alloc (.cells #[.int .i64 8, .int .i64 n, .int .i64 bb, .int .i64 cc, .string s, .string t] 44)).alloc (.cells #[.int .i64 an.e, .int .i64 an.n, .slice p1 ln p2, .slice r1 ls r2, .string an.nm, .slice t1 lc t2, .int .i64 an.pk, .int .i64 an.ix, .slice v1 lm v2] 54)) (w.heap.size + 1) #[.int .i64 an.e, .int .i64 an.n, .slice p1 ln p2, .slice r1 ls r2, .string an.nm, .slice t1 lc t2, .int .i64 an.pk, .int .i64 an.ix, .slice v1 lm v2] 54 := Has.new' _ _ _ _ (by simp)
  have HR := hide (R.quiet o1)
  have HG := hide (G.quiet o1)
  have HA := hide (A.quiet o1)
  have HGl := hide (show ∀ k, m.A kG k → k < w.heap.size from G.lt)
  have HAl := hide (show ∀ k, AnB am k → k < w.heap.size from A.lt)
  have HQl := hide (show ∀ k, q.A k ∨ k = x ∨ K k → k < w.heap.size from fun k h => by
    rcases h with h | h | h
    · exact R.Alt.1 k h
    · rw [h]; exact R.Alt.2
    · exact (R.kA k h).2.2)
  have HGs := hide hGs
  have HAs := hide hAs
  have HSe := hide (And.intro Se ok)
  have HO := hide o1
  have HN1 := hide N1
  have HN2 := hide N2
  have Hsh := hide (And.intro (And.intro hp hr) (And.intro ht hv))
  unfold anC opX
  rw [hp, hr, ht, hv]
  have HS2 := hide hsame
  have He := hide he
  clear hsame he
  clear R G A hGs hAs Se ok o1 N1 N2 hp hr ht hv hln hls hlc hlm
  go_enter Tryz.func15, Tryz.ntmps15
  go_upto_region 1 with fail
  generalize ((w.alloc (.cells #[.int .i64 8, .int .i64 n, .int .i64 bb, .int .i64 cc, .string s, .string t] 44)).alloc (.cells #[.int .i64 an.e, .int .i64 an.n, .slice p1 ln p2, .slice r1 ls r2, .string an.nm, .slice t1 lc t2, .int .i64 an.pk, .int .i64 an.ix, .slice v1 lm v2] 54)) = w1 at *
  have k1 := (unhide HN1).lt
  have k2 := (unhide HN2).lt
  have s1 := (unhide HO).size
  generalize hka : w.heap.size = ka at *
  have Hka := hide hka
  clear hka
  have a0 : w1.cell? ⟨ka, 0, none⟩ = some (.int .i64 8) := (unhide HN1).cell 0
  have a1 : w1.cell? ⟨ka, 1, none⟩ = some (.int .i64 n) := (unhide HN1).cell 1
  have b0 : w1.cell? ⟨ka + 1, 0, none⟩ = some (.int .i64 an.e) := (unhide HN2).cell 0
  have C1 := xgood_any (n : Int) w1
  rw [decide_eq_true (show gdS ((n : Nat) : Int) from ⟨by omega, by omega⟩)] at C1
  have C1 := hide C1
  have n4 : (n : Int) < 4 := by omega
  go_wp2_with fail
  refine (unhide C1).mono ?_
  rintro e w2 ⟨rfl, rfl⟩
  clear C1
  rw [unhide He] at b0
  have c1 := (unhide HG).cO hn
  have kGl := (unhide HG).has.lt
  go_upto_region 36 with fail
  go_cut [165] (fun zv wx => zv = .bool false ∧ Only (fun _ => False) w1 wx)
  case first =>
    go_quiet (fail)
    go_wp2_with fail
    go_meet
    exact ⟨rfl, onlyQ _ _⟩
  case rest =>
  obtain ⟨rfl, oC⟩ := hcut
  generalize wc = w2 at *
  have FF := hide (show FoP q w g x M' K kG m am (.returned (.bool true)) w2 from ⟨rfl, m, sh, (unhide HG).quiet oC, unhide HS2, (unhide HR).quiet oC, fun k h => .inl h, fun k h => .inl h, (((unhide HO).trans oC (fun _ _ h => h)).mono (fun _ _ h => h.elim))⟩)
  go_wp2_with fail
  go_ret
  exact unhide FF
set_option maxRecDepth 100000 in
set_option maxHeartbeats 4000000 in
theorem fo_p8ov (R : RX q w g x M' K) (G : GhAt w kG m sh) (A : AnAt w am an) (hGs : ∀ k, m.A kG k → ¬ q.A k ∧ k ≠ x ∧ ¬ K k) (hAs : ∀ k, AnB am k → ¬ q.A k ∧ k ≠ x ∧ ¬ K k ∧ ¬ m.T kG k) (Se : SerI M m sh) (ok : MuOk M) (hn : n < 4) (he2 : an.e ≠ 2) (he21 : an.e ≠ 21) (hov : m.ov n = true) (hsame : SerI M' m sh) : Calls Tryz.prog 15 #[.pointer (some ⟨kG, 0, none⟩), .pointer (some ⟨g, 0, none⟩), opX 8 n bb cc s t, .agg (anC am an)] w (FoP q w g x M' K kG m am) := by
  obtain ⟨p1, p2, hp⟩ := A.row.shape
  obtain ⟨r1, r2, hr⟩ := ownsRow_shape A.own
  obtain ⟨t1, t2, ht⟩ := A.col.shape
  obtain ⟨v1, v2, hv⟩ := ownsRow_shape A.nms
  obtain ⟨ln, hln⟩ : ∃ k, an.row.length = k := ⟨_, rfl⟩
  obtain ⟨ls, hls⟩ : ∃ k, am.Z.length = k := ⟨_, rfl⟩
  obtain ⟨lc, hlc⟩ : ∃ k, an.cols.length = k := ⟨_, rfl⟩
  obtain ⟨lm, hlm⟩ : ∃ k, an.names.length = k := ⟨_, rfl⟩
  rw [hln] at hp
  rw [hls] at hr
  rw [hlc] at ht
  rw [hlm] at hv
  have o1 : Only (fun _ => False) w ((w.alloc (.cells #[.int .i64 8, .int .i64 n, .int .i64 bb, .int .i64 cc, .string s, .string t] 44)).alloc (.cells #[.int .i64 an.e, .int .i64 an.n, .slice p1 ln p2, .slice r1 ls r2, .string an.nm, .slice t1 lc t2, .int .i64 an.pk, .int .i64 an.ix, .slice v1 lm v2] 54)) := ((Only.refl _ w).alloc _).alloc _
  have N1 : Has ((w.alloc (.cells #[.int .i64 8, .int .i64 n, .int .i64 bb, .int .i64 cc, .string s, .string t] 44)).alloc (.cells #[.int .i64 an.e, .int .i64 an.n, .slice p1 ln p2, .slice r1 ls r2, .string an.nm, .slice t1 lc t2, .int .i64 an.pk, .int .i64 an.ix, .slice v1 lm v2] 54)) w.heap.size #[.int .i64 8, .int .i64 n, .int .i64 bb, .int .i64 cc, .string s, .string t] 44 := (Has.new w _ _).alloc _
  have N2 : Has ((w.alloc (.cells #[.int .i64 8, .int .i64 n, .int .i64 bb, .int .i64 cc, .string s, .string t] 44)).alloc (.cells #[.int .i64 an.e, .int .i64 an.n, .slice p1 ln p2, .slice r1 ls r2, .string an.nm, .slice t1 lc t2, .int .i64 an.pk, .int .i64 an.ix, .slice v1 lm v2] 54)) (w.heap.size + 1) #[.int .i64 an.e, .int .i64 an.n, .slice p1 ln p2, .slice r1 ls r2, .string an.nm, .slice t1 lc t2, .int .i64 an.pk, .int .i64 an.ix, .slice v1 lm v2] 54 := Has.new' _ _ _ _ (by simp)
  have HR := hide (R.quiet o1)
  have HG := hide (G.quiet o1)
  have HA := hide (A.quiet o1)
  have HGl := hide (show ∀ k, m.A kG k → k < w.heap.size from G.lt)
  have HAl := hide (show ∀ k, AnB am k → k < w.heap.size from A.lt)
  have HQl := hide (show ∀ k, q.A k ∨ k = x ∨ K k → k < w.heap.size from fun k h => by
    rcases h with h | h | h
    · exact R.Alt.1 k h
    · rw [h]; exact R.Alt.2
    · exact (R.kA k h).2.2)
  have HGs := hide hGs
  have HAs := hide hAs
  have HSe := hide (And.intro Se ok)
  have HO := hide o1
  have HN1 := hide N1
  have HN2 := hide N2
  have Hsh := hide (And.intro (And.intro hp hr) (And.intro ht hv))
  unfold anC opX
  rw [hp, hr, ht, hv]
  have HS2 := hide hsame
  have He2 := hide he2
  have He21 := hide he21
  have Hov := hide hov
  clear hsame he2 he21 hov
  clear R G A hGs hAs Se ok o1 N1 N2 hp hr ht hv hln hls hlc hlm
  go_enter Tryz.func15, Tryz.ntmps15
  go_upto_region 1 with fail
  generalize ((w.alloc (.cells #[.int .i64 8, .int .i64 n, .int .i64 bb, .int .i64 cc, .string s, .string t] 44)).alloc (.cells #[.int .i64 an.e, .int .i64 an.n, .slice p1 ln p2, .slice r1 ls r2, .string an.nm, .slice t1 lc t2, .int .i64 an.pk, .int .i64 an.ix, .slice v1 lm v2] 54)) = w1 at *
  have k1 := (unhide HN1).lt
  have k2 := (unhide HN2).lt
  have s1 := (unhide HO).size
  generalize hka : w.heap.size = ka at *
  have Hka := hide hka
  clear hka
  have a0 : w1.cell? ⟨ka, 0, none⟩ = some (.int .i64 8) := (unhide HN1).cell 0
  have a1 : w1.cell? ⟨ka, 1, none⟩ = some (.int .i64 n) := (unhide HN1).cell 1
  have b0 : w1.cell? ⟨ka + 1, 0, none⟩ = some (.int .i64 an.e) := (unhide HN2).cell 0
  have C1 := xgood_any (n : Int) w1
  rw [decide_eq_true (show gdS ((n : Nat) : Int) from ⟨by omega, by omega⟩)] at C1
  have C1 := hide C1
  have n4 : (n : Int) < 4 := by omega
  go_wp2_with fail
  refine (unhide C1).mono ?_
  rintro e w2 ⟨rfl, rfl⟩
  clear C1
  have y2 : (an.e != 2) = true := by simpa using unhide He2
  have y2' : (!(an.e == 2)) = true := by simpa using unhide He2
  have y21 : (an.e != 21) = true := by simpa using unhide He21
  have y21' : (!(an.e == 21)) = true := by simpa using unhide He21
  have c1 := (unhide HG).cO hn
  rw [unhide Hov] at c1
  have kGl := (unhide HG).has.lt
  go_upto_region 36 with fail
  go_cut [165] (fun zv wx => zv = .bool false ∧ Only (fun _ => False) w1 wx)
  case first =>
    go_quiet (fail)
    go_wp2_with fail
    go_meet
    exact ⟨rfl, onlyQ _ _⟩
  case rest =>
  obtain ⟨rfl, oC⟩ := hcut
  generalize wc = w2 at *
  have FF := hide (show FoP q w g x M' K kG m am (.returned (.bool true)) w2 from ⟨rfl, m, sh, (unhide HG).quiet oC, unhide HS2, (unhide HR).quiet oC, fun k h => .inl h, fun k h => .inl h, (((unhide HO).trans oC (fun _ _ h => h)).mono (fun _ _ h => h.elim))⟩)
  go_wp2_with fail
  go_ret
  exact unhide FF
set_option maxRecDepth 100000 in
set_option maxHeartbeats 4000000 in
theorem fo_p8full (R : RX q w g x M' K) (G : GhAt w kG m sh) (A : AnAt w am an) (hGs : ∀ k, m.A kG k → ¬ q.A k ∧ k ≠ x ∧ ¬ K k) (hAs : ∀ k, AnB am k → ¬ q.A k ∧ k ≠ x ∧ ¬ K k ∧ ¬ m.T kG k) (Se : SerI M m sh) (ok : MuOk M) (hn : n < 4) (he2 : an.e ≠ 2) (he21 : an.e ≠ 21) (hov : m.ov n = false) (hlen : 64 ≤ (m.ls n).length) (hs2 : SerI M' ((m.setL n (.slice none 0 0) []).setO n true) sh) : Calls Tryz.prog 15 #[.pointer (some ⟨kG, 0, none⟩), .pointer (some ⟨g, 0, none⟩), opX 8 n bb cc s t, .agg (anC am an)] w (FoP q w g x M' K kG m am) := by
  obtain ⟨p1, p2, hp⟩ := A.row.shape
  obtain ⟨r1, r2, hr⟩ := ownsRow_shape A.own
  obtain ⟨t1, t2, ht⟩ := A.col.shape
  obtain ⟨v1, v2, hv⟩ := ownsRow_shape A.nms
  obtain ⟨ln, hln⟩ : ∃ k, an.row.length = k := ⟨_, rfl⟩
  obtain ⟨ls, hls⟩ : ∃ k, am.Z.length = k := ⟨_, rfl⟩
  obtain ⟨lc, hlc⟩ : ∃ k, an.cols.length = k := ⟨_, rfl⟩
  obtain ⟨lm, hlm⟩ : ∃ k, an.names.length = k := ⟨_, rfl⟩
  rw [hln] at hp
  rw [hls] at hr
  rw [hlc] at ht
  rw [hlm] at hv
  have o1 : Only (fun _ => False) w ((w.alloc (.cells #[.int .i64 8, .int .i64 n, .int .i64 bb, .int .i64 cc, .string s, .string t] 44)).alloc (.cells #[.int .i64 an.e, .int .i64 an.n, .slice p1 ln p2, .slice r1 ls r2, .string an.nm, .slice t1 lc t2, .int .i64 an.pk, .int .i64 an.ix, .slice v1 lm v2] 54)) := ((Only.refl _ w).alloc _).alloc _
  have N1 : Has ((w.alloc (.cells #[.int .i64 8, .int .i64 n, .int .i64 bb, .int .i64 cc, .string s, .string t] 44)).alloc (.cells #[.int .i64 an.e, .int .i64 an.n, .slice p1 ln p2, .slice r1 ls r2, .string an.nm, .slice t1 lc t2, .int .i64 an.pk, .int .i64 an.ix, .slice v1 lm v2] 54)) w.heap.size #[.int .i64 8, .int .i64 n, .int .i64 bb, .int .i64 cc, .string s, .string t] 44 := (Has.new w _ _).alloc _
  have N2 : Has ((w.alloc (.cells #[.int .i64 8, .int .i64 n, .int .i64 bb, .int .i64 cc, .string s, .string t] 44)).alloc (.cells #[.int .i64 an.e, .int .i64 an.n, .slice p1 ln p2, .slice r1 ls r2, .string an.nm, .slice t1 lc t2, .int .i64 an.pk, .int .i64 an.ix, .slice v1 lm v2] 54)) (w.heap.size + 1) #[.int .i64 an.e, .int .i64 an.n, .slice p1 ln p2, .slice r1 ls r2, .string an.nm, .slice t1 lc t2, .int .i64 an.pk, .int .i64 an.ix, .slice v1 lm v2] 54 := Has.new' _ _ _ _ (by simp)
  have HR := hide (R.quiet o1)
  have HG := hide (G.quiet o1)
  have HA := hide (A.quiet o1)
  have HGl := hide (show ∀ k, m.A kG k → k < w.heap.size from G.lt)
  have HAl := hide (show ∀ k, AnB am k → k < w.heap.size from A.lt)
  have HQl := hide (show ∀ k, q.A k ∨ k = x ∨ K k → k < w.heap.size from fun k h => by
    rcases h with h | h | h
    · exact R.Alt.1 k h
    · rw [h]; exact R.Alt.2
    · exact (R.kA k h).2.2)
  have HGs := hide hGs
  have HAs := hide hAs
  have HSe := hide (And.intro Se ok)
  have HO := hide o1
  have HN1 := hide N1
  have HN2 := hide N2
  have Hsh := hide (And.intro (And.intro hp hr) (And.intro ht hv))
  unfold anC opX
  rw [hp, hr, ht, hv]
  have He2 := hide he2
  have He21 := hide he21
  have Hov := hide hov
  clear he2 he21 hov
  have Hlen := hide hlen
  have HS2 := hide hs2
  clear hlen hs2
  clear R G A hGs hAs Se ok o1 N1 N2 hp hr ht hv hln hls hlc hlm
  go_enter Tryz.func15, Tryz.ntmps15
  go_upto_region 1 with fail
  generalize ((w.alloc (.cells #[.int .i64 8, .int .i64 n, .int .i64 bb, .int .i64 cc, .string s, .string t] 44)).alloc (.cells #[.int .i64 an.e, .int .i64 an.n, .slice p1 ln p2, .slice r1 ls r2, .string an.nm, .slice t1 lc t2, .int .i64 an.pk, .int .i64 an.ix, .slice v1 lm v2] 54)) = w1 at *
  have k1 := (unhide HN1).lt
  have k2 := (unhide HN2).lt
  have s1 := (unhide HO).size
  generalize hka : w.heap.size = ka at *
  have Hka := hide hka
  clear hka
  have a0 : w1.cell? ⟨ka, 0, none⟩ = some (.int .i64 8) := (unhide HN1).cell 0
  have a1 : w1.cell? ⟨ka, 1, none⟩ = some (.int .i64 n) := (unhide HN1).cell 1
  have b0 : w1.cell? ⟨ka + 1, 0, none⟩ = some (.int .i64 an.e) := (unhide HN2).cell 0
  have C1 := xgood_any (n : Int) w1
  rw [decide_eq_true (show gdS ((n : Nat) : Int) from ⟨by omega, by omega⟩)] at C1
  have C1 := hide C1
  have n4 : (n : Int) < 4 := by omega
  go_wp2_with fail
  refine (unhide C1).mono ?_
  rintro e w2 ⟨rfl, rfl⟩
  clear C1
  have y2 : (an.e != 2) = true := by simpa using unhide He2
  have y2' : (!(an.e == 2)) = true := by simpa using unhide He2
  have y21 : (an.e != 21) = true := by simpa using unhide He21
  have y21' : (!(an.e == 21)) = true := by simpa using unhide He21
  have c1 := (unhide HG).cO hn
  rw [unhide Hov] at c1
  have kGl := (unhide HG).has.lt
  go_upto_region 36 with fail
  go_cut [165] (fun zv wx => zv = .bool true ∧ Only (fun _ => False) w1 wx)
  case first =>
    go_quiet (fail)
    go_wp2_with fail
    go_meet
    exact ⟨rfl, onlyQ _ _⟩
  case rest =>
  obtain ⟨rfl, oC⟩ := hcut
  generalize wc = w2 at *
  clear c1 y2 y2' y21 y21' kGl
  have HG := hide ((unhide HG).quiet oC)
  have HR := hide ((unhide HR).quiet oC)
  have HA := hide ((unhide HA).quiet oC)
  have HO := hide ((unhide HO).trans oC (fun _ _ h => h))
  have HN1 := hide ((unhide HN1).keep oC (fun h => h))
  have HN2 := hide ((unhide HN2).keep oC (fun h => h))
  clear oC a0 a1 b0
  have k1 := (unhide HN1).lt
  have k2 := (unhide HN2).lt
  have s1 := (unhide HO).size
  have a0 : w2.cell? ⟨ka, 0, none⟩ = some (.int .i64 8) := (unhide HN1).cell 0
  have a1 : w2.cell? ⟨ka, 1, none⟩ = some (.int .i64 n) := (unhide HN1).cell 1
  have b0 : w2.cell? ⟨ka + 1, 0, none⟩ = some (.int .i64 an.e) := (unhide HN2).cell 0
  obtain ⟨jn, hjn⟩ : ∃ k, (m.ls n).length = k := ⟨_, rfl⟩
  obtain ⟨ja, jc, hlv⟩ : ∃ ja jc, m.lv n = .slice ja jn jc := by
    obtain ⟨a, c, h⟩ := ownsRow_shape ((unhide HG).rl n hn).own
    exact ⟨a, c, by rw [← hjn]; exact h⟩
  have c1 := (unhide HG).cL hn
  rw [hlv] at c1
  have kGl := (unhide HG).has.lt
  have Hjn := hide hjn
  have Hlv := hide hlv
  have dj : decide ((jn : Int) ≥ 64) = true := decide_eq_true (by have := unhide Hlen; rw [unhide Hjn] at this; omega)
  have dj' : decide ((64 : Int) ≤ (jn : Int)) = true := decide_eq_true (by have := unhide Hlen; rw [unhide Hjn] at this; omega)
  clear hjn hlv
  go_upto_region 37 with fail
  go_cut [174] (fun zv wx => zv = .bool true ∧ Only (fun _ => False) w2 wx)
  case first =>
    go_quiet (fail)
    go_wp2_with fail
    go_meet
    exact ⟨rfl, onlyQ _ _⟩
  case rest =>
  obtain ⟨rfl, oC⟩ := hcut
  generalize wc = w3 at *
  clear c1 dj dj' kGl
  have HG := hide ((unhide HG).quiet oC)
  have HR := hide ((unhide HR).quiet oC)
  have HA := hide ((unhide HA).quiet oC)
  have HO := hide ((unhide HO).trans oC (fun _ _ h => h))
  have HN1 := hide ((unhide HN1).keep oC (fun h => h))
  have HN2 := hide ((unhide HN2).keep oC (fun h => h))
  clear oC a0 a1 b0
  have k1 := (unhide HN1).lt
  have k2 := (unhide HN2).lt
  have s1 := (unhide HO).size
  have a0 : w3.cell? ⟨ka, 0, none⟩ = some (.int .i64 8) := (unhide HN1).cell 0
  have a1 : w3.cell? ⟨ka, 1, none⟩ = some (.int .i64 n) := (unhide HN1).cell 1
  have b0 : w3.cell? ⟨ka + 1, 0, none⟩ = some (.int .i64 an.e) := (unhide HN2).cell 0
  have c1 := (unhide HG).cL hn
  rw [unhide Hlv] at c1
  have f1 := (unhide HG).has.free (1 + n)
  have kGl := (unhide HG).has.lt
  have G2 := ((unhide HG).clear hn).quiet ((Only.refl (fun _ => False) _).drew)
  have o2 : Only (fun k => k = kG) w3 (w3.setCell ⟨kG, 1 + n, none⟩ (.slice none 0 0)) := only1 _ _
  have HG2 := hide G2
  have HO2 := hide (o2.trans ((Only.refl (fun _ => False) _).drew.mono (T := fun k => k = kG) (fun _ _ h => h.elim)) (fun _ _ h => h))
  have kne : ka ≠ kG ∧ ka + 1 ≠ kG := ⟨fun e => by have := unhide HGl kG (.inl (.inl rfl)); omega, fun e => by have := unhide HGl kG (.inl (.inl rfl)); omega⟩
  have HN3 := hide ((unhide HN1).keep (unhide HO2) kne.1)
  clear G2 o2
  go_upto_region 38 with fail
  go_region
  all_goals
    generalize (w3.setCell ⟨kG, 1 + n, none⟩ (.slice none 0 0)).drew = w4 at *
    have c2 := (unhide HG2).cO hn
    have f2 := (unhide HG2).has.free (5 + n)
    have kG3 := (unhide HG2).has.lt
    have a1 : w4.cell? ⟨ka, 1, none⟩ = some (.int .i64 n) := (unhide HN3).cell 1
    have k3 := (unhide HN3).lt
    have G4 := ((unhide HG2).setO hn true).quiet ((Only.refl (fun _ => False) _).drew)
    have o4 : Only (fun k => k = kG) w4 (w4.setCell ⟨kG, 5 + n, none⟩ (.bool true)) := only1 _ _
    have oT : Only (fun k => k = kG) w3 (w4.setCell ⟨kG, 5 + n, none⟩ (.bool true)).drew := (unhide HO2).trans (o4.trans ((Only.refl (fun _ => False) _).drew.mono (T := fun k => k = kG) (fun _ _ h => h.elim)) (fun _ _ h => h)) (fun _ _ h => h)
    have FF := hide (show FoP q w g x M' K kG m am (.returned (.bool true)) (w4.setCell ⟨kG, 5 + n, none⟩ (.bool true)).drew from ⟨rfl, _, sh, G4, unhide HS2, (unhide HR).keep oT (fun k hk c => by
      have c' : k = kG := c
      have h2 := unhide HGs kG (.inl (.inl rfl))
      subst c'
      rcases hk with hk | hk | hk
      · exact h2.1 hk
      · exact h2.2.1 hk
      · exact h2.2.2 hk), fun k h => .inl (GhM.A_reset h), fun k h => .inl (GhM.T_reset h), ((unhide HO).mono (T := fun k => q.S k ∨ m.T kG k) (fun _ _ h => h.elim)).trans (oT.mono (T := fun k => q.S k ∨ m.T kG k) (fun k _ h => .inr (.inl h))) (fun _ _ h => h)⟩)
    clear G4 o4 oT
    go_upto_region 39 with fail
    go_region
    all_goals
      go_wp2_with fail
      go_ret
      exact unhide FF
end
end Go.Proofs.Qxb6500414aGreat
