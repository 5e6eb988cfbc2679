/-
  OWN WORK. THE TXN LAW: Follow: the small branches (written by tools/gen_xg2.py).
-/
import Derived.Test.Qxb6500414aGreatXG1
namespace Go.Proofs.Qxb6500414aGreat
open Go.RowKit Go.PlainAid
set_option linter.unusedSimpArgs false
set_option linter.unusedVariables false

/-- What Follow leaves. -/
def FoP (q : Gnd) (w : World) (g x : Nat) (M' : Mu) (K : Nat → Prop) (kG : Nat) (m : GhM) (am : AnM) (e : Ending) (w' : World) : Prop := e = .returned (.bool true) ∧ ∃ m2 sh2, GhAt w' kG m2 sh2 ∧ SerI M' m2 sh2 ∧ RX q w' g x M' K ∧ (∀ k, m2.A kG k → m.A kG k ∨ AnB am k ∨ w.heap.size ≤ k) ∧ (∀ k, m2.T kG k → m.T kG k ∨ w.heap.size ≤ k) ∧ Only (fun k => q.S k ∨ m.T kG k) w w'
theorem GhM.T_clear {m : GhM} {kG n k : Nat} (h : (m.setL n (.slice none 0 0) []).T kG k) : m.T kG k := by
  rcases h with h | h | ⟨s, hs, h⟩
  · exact .inl h
  · exact .inr (.inl h)
  · have h2 : (if s = n then Value.slice none 0 0 else m.lv s).ownBlock = some k := h
    by_cases c : s = n
    · rw [if_pos c] at h2; cases h2
    · rw [if_neg c] at h2; exact .inr (.inr ⟨s, hs, h2⟩)
theorem GhM.A_clear {m : GhM} {kG n k : Nat} (h : (m.setL n (.slice none 0 0) []).A kG k) : m.A kG k := by
  rcases h with h | h | ⟨s, hs, h⟩
  · exact .inl (GhM.T_clear h)
  · exact .inr (.inl h)
  · have h2 : RcB (if s = n then [] else m.ls s) k := h
    by_cases c : s = n
    · rw [if_pos c] at h2; obtain ⟨_, e, _⟩ := h2; cases e
    · rw [if_neg c] at h2; exact .inr (.inr ⟨s, hs, h2⟩)
theorem GhM.T_reset {m : GhM} {kG n k : Nat} {b : Bool} (h : ((m.setL n (.slice none 0 0) []).setO n b).T kG k) : m.T kG k := GhM.T_clear h
theorem GhM.A_reset {m : GhM} {kG n k : Nat} {b : Bool} (h : ((m.setL n (.slice none 0 0) []).setO n b).A kG k) : m.A kG k := GhM.A_clear h
section
variable {q : Gnd} {w : World} {g x kG n : Nat} {M M' : Mu} {K : Nat → Prop} {m : GhM} {sh : Db} {am : AnM} {an : An} {kd a bb cc : Int} {s t : ByteArray}
set_option maxRecDepth 100000 in
set_option maxHeartbeats 4000000 in
theorem fo_bad (R : RX q w g x M' K) (G : GhAt w kG m sh) (A : AnAt w am an) (hGs : ∀ k, m.A kG k → ¬ q.A k ∧ k ≠ x ∧ ¬ K k) (hAs : ∀ k, AnB am k → ¬ q.A k ∧ k ≠ x ∧ ¬ K k ∧ ¬ m.T kG k) (Se : SerI M m sh) (ok : MuOk M) (hbad : ¬ gdS a) (hsame : SerI M' m sh) : Calls Tryz.prog 15 #[.pointer (some ⟨kG, 0, none⟩), .pointer (some ⟨g, 0, none⟩), opX kd a bb cc s t, .agg (anC am an)] w (FoP q w g x M' K kG m am) := by
  obtain ⟨p1, p2, hp⟩ := A.row.shape
  obtain ⟨r1, r2, hr⟩ := ownsRow_shape A.own
  obtain ⟨t1, t2, ht⟩ := A.col.shape
  obtain ⟨v1, v2, hv⟩ := ownsRow_shape A.nms
  obtain ⟨ln, hln⟩ : ∃ k, an.row.length = k := ⟨_, rfl⟩
  obtain ⟨ls, hls⟩ : ∃ k, am.Z.length = k := ⟨_, rfl⟩
  obtain ⟨lc, hlc⟩ : ∃ k, an.cols.length = k := ⟨_, rfl⟩
  obtain ⟨lm, hlm⟩ : ∃ k, an.names.length = k := ⟨_, rfl⟩
  rw [hln] at hp
  rw [hls] at hr
  rw [hlc] at ht
  rw [hlm] at hv
  have o1 : Only (fun _ => False) w ((w.alloc (.cells #[.int .i64 kd, .int .i64 a, .int .i64 bb, .int .i64 cc, .string s, .string t] 44)).alloc (.cells #[.int .i64 an.e, .int .i64 an.n, .slice p1 ln p2, .slice r1 ls r2, .string an.nm, .slice t1 lc t2, .int .i64 an.pk, .int .i64 an.ix, .slice v1 lm v2] 54)) := ((Only.refl _ w).alloc _).alloc _
  have N1 : Has ((w.alloc (.cells #[.int .i64 kd, .int .i64 a, .int .i64 bb, .int .i64 cc, .string s, .string t] 44)).alloc (.cells #[.int .i64 an.e, .int .i64 an.n, .slice p1 ln p2, .slice r1 ls r2, .string an.nm, .slice t1 lc t2, .int .i64 an.pk, .int .i64 an.ix, .slice v1 lm v2] 54)) w.heap.size #[.int .i64 kd, .int .i64 a, .int .i64 bb, .int .i64 cc, .string s, .string t] 44 := (Has.new w _ _).alloc _
  have N2 : Has ((w.alloc (.cells #[.int .i64 kd, .int .i64 a, .int .i64 bb, .int .i64 cc, .string s, .string t] 44)).alloc (.cells #[.int .i64 an.e, .int .i64 an.n, .slice p1 ln p2, .slice r1 ls r2, .string an.nm, .slice t1 lc t2, .int .i64 an.pk, .int .i64 an.ix, .slice v1 lm v2] 54)) (w.heap.size + 1) #[.int .i64 an.e, .int .i64 an.n, .slice p1 ln p2, .slice r1 ls r2, .string an.nm, .slice t1 lc t2, .int .i64 an.pk, .int .i64 an.ix, .slice v1 lm v2] 54 := Has.new' _ _ _ _ (by simp)
  have HR := hide (R.quiet o1)
  have HG := hide (G.quiet o1)
  have HA := hide (A.quiet o1)
  have HGl := hide (show ∀ k, m.A kG k → k < w.heap.size from G.lt)
  have HAl := hide (show ∀ k, AnB am k → k < w.heap.size from A.lt)
  have HQl := hide (show ∀ k, q.A k ∨ k = x ∨ K k → k < w.heap.size from fun k h => by
    rcases h with h | h | h
    · exact R.Alt.1 k h
    · rw [h]; exact R.Alt.2
    · exact (R.kA k h).2.2)
  have HGs := hide hGs
  have HAs := hide hAs
  have HSe := hide (And.intro Se ok)
  have HO := hide o1
  have HN1 := hide N1
  have HN2 := hide N2
  have Hsh := hide (And.intro (And.intro hp hr) (And.intro ht hv))
  unfold anC opX
  rw [hp, hr, ht, hv]
  have HS2 := hide hsame
  clear hsame
  clear R G A hGs hAs Se ok o1 N1 N2 hp hr ht hv hln hls hlc hlm
  go_enter Tryz.func15, Tryz.ntmps15
  go_upto_region 1 with fail
  generalize ((w.alloc (.cells #[.int .i64 kd, .int .i64 a, .int .i64 bb, .int .i64 cc, .string s, .string t] 44)).alloc (.cells #[.int .i64 an.e, .int .i64 an.n, .slice p1 ln p2, .slice r1 ls r2, .string an.nm, .slice t1 lc t2, .int .i64 an.pk, .int .i64 an.ix, .slice v1 lm v2] 54)) = w1 at *
  have k1 := (unhide HN1).lt
  have k2 := (unhide HN2).lt
  have s1 := (unhide HO).size
  generalize hka : w.heap.size = ka at *
  have Hka := hide hka
  clear hka
  have a0 : w1.cell? ⟨ka, 0, none⟩ = some (.int .i64 kd) := (unhide HN1).cell 0
  have a1 : w1.cell? ⟨ka, 1, none⟩ = some (.int .i64 a) := (unhide HN1).cell 1
  have b0 : w1.cell? ⟨ka + 1, 0, none⟩ = some (.int .i64 an.e) := (unhide HN2).cell 0
  have C1 := xgood_any a w1
  rw [decide_eq_false hbad] at C1
  have C1 := hide C1
  have FF := hide (show FoP q w g x M' K kG m am (.returned (.bool true)) w1 from ⟨rfl, m, sh, unhide HG, unhide HS2, unhide HR, fun k h => .inl h, fun k h => .inl h, ((unhide HO).mono (fun _ _ h => h.elim))⟩)
  clear hbad
  go_wp2_with fail
  refine (unhide C1).mono ?_
  rintro e w2 ⟨rfl, rfl⟩
  clear C1
  go_wp2_with fail
  go_ret
  exact unhide FF
set_option maxRecDepth 100000 in
set_option maxHeartbeats 4000000 in
theorem fo_oth (R : RX q w g x M' K) (G : GhAt w kG m sh) (A : AnAt w am an) (hGs : ∀ k, m.A kG k → ¬ q.A k ∧ k ≠ x ∧ ¬ K k) (hAs : ∀ k, AnB am k → ¬ q.A k ∧ k ≠ x ∧ ¬ K k ∧ ¬ m.T kG k) (Se : SerI M m sh) (ok : MuOk M) (hn : n < 4) (hkd : kd < 1 ∨ 12 ≤ kd) (hsame : SerI M' m sh) : Calls Tryz.prog 15 #[.pointer (some ⟨kG, 0, none⟩), .pointer (some ⟨g, 0, none⟩), opX kd n bb cc s t, .agg (anC am an)] w (FoP q w g x M' K kG m am) := by
  obtain ⟨p1, p2, hp⟩ := A.row.shape
  obtain ⟨r1, r2, hr⟩ := ownsRow_shape A.own
  obtain ⟨t1, t2, ht⟩ := A.col.shape
  obtain ⟨v1, v2, hv⟩ := ownsRow_shape A.nms
  obtain ⟨ln, hln⟩ : ∃ k, an.row.length = k := ⟨_, rfl⟩
  obtain ⟨ls, hls⟩ : ∃ k, am.Z.length = k := ⟨_, rfl⟩
  obtain ⟨lc, hlc⟩ : ∃ k, an.cols.length = k := ⟨_, rfl⟩
  obtain ⟨lm, hlm⟩ : ∃ k, an.names.length = k := ⟨_, rfl⟩
  rw [hln] at hp
  rw [hls] at hr
  rw [hlc] at ht
  rw [hlm] at hv
  have o1 : Only (fun _ => False) w ((w.alloc (.cells #[.int .i64 kd, .int .i64 n, .int .i64 bb, .int .i64 cc, .string s, .string t] 44)).alloc (.cells #[.int .i64 an.e, .int .i64 an.n, .slice p1 ln p2, .slice r1 ls r2, .string an.nm, .slice t1 lc t2, .int .i64 an.pk, .int .i64 an.ix, .slice v1 lm v2] 54)) := ((Only.refl _ w).alloc _).alloc _
  have N1 : Has ((w.alloc (.cells #[.int .i64 kd, .int .i64 n, .int .i64 bb, .int .i64 cc, .string s, .string t] 44)).alloc (.cells #[.int .i64 an.e, .int .i64 an.n, .slice p1 ln p2, .slice r1 ls r2, .string an.nm, .slice t1 lc t2, .int .i64 an.pk, .int .i64 an.ix, .slice v1 lm v2] 54)) w.heap.size #[.int .i64 kd, .int .i64 n, .int .i64 bb, .int .i64 cc, .string s, .string t] 44 := (Has.new w _ _).alloc _
  have N2 : Has ((w.alloc (.cells #[.int .i64 kd, .int .i64 n, .int .i64 bb, .int .i64 cc, .string s, .string t] 44)).alloc (.cells #[.int .i64 an.e, .int .i64 an.n, .slice p1 ln p2, .slice r1 ls r2, .string an.nm, .slice t1 lc t2, .int .i64 an.pk, .int .i64 an.ix, .slice v1 lm v2] 54)) (w.heap.size + 1) #[.int .i64 an.e, .int .i64 an.n, .slice p1 ln p2, .slice r1 ls r2, .string an.nm, .slice t1 lc t2, .int .i64 an.pk, .int .i64 an.ix, .slice v1 lm v2] 54 := Has.new' _ _ _ _ (by simp)
  have HR := hide (R.quiet o1)
  have HG := hide (G.quiet o1)
  have HA := hide (A.quiet o1)
  have HGl := hide (show ∀ k, m.A kG k → k < w.heap.size from G.lt)
  have HAl := hide (show ∀ k, AnB am k → k < w.heap.size from A.lt)
  have HQl := hide (show ∀ k, q.A k ∨ k = x ∨ K k → k < w.heap.size from fun k h => by
    rcases h with h | h | h
    · exact R.Alt.1 k h
    · rw [h]; exact R.Alt.2
    · exact (R.kA k h).2.2)
  have HGs := hide hGs
  have HAs := hide hAs
  have HSe := hide (And.intro Se ok)
  have HO := hide o1
  have HN1 := hide N1
  have HN2 := hide N2
  have Hsh := hide (And.intro (And.intro hp hr) (And.intro ht hv))
  unfold anC opX
  rw [hp, hr, ht, hv]
  have HS2 := hide hsame
  clear hsame
  clear R G A hGs hAs Se ok o1 N1 N2 hp hr ht hv hln hls hlc hlm
  go_enter Tryz.func15, Tryz.ntmps15
  go_upto_region 1 with fail
  generalize ((w.alloc (.cells #[.int .i64 kd, .int .i64 n, .int .i64 bb, .int .i64 cc, .string s, .string t] 44)).alloc (.cells #[.int .i64 an.e, .int .i64 an.n, .slice p1 ln p2, .slice r1 ls r2, .string an.nm, .slice t1 lc t2, .int .i64 an.pk, .int .i64 an.ix, .slice v1 lm v2] 54)) = w1 at *
  have k1 := (unhide HN1).lt
  have k2 := (unhide HN2).lt
  have s1 := (unhide HO).size
  generalize hka : w.heap.size = ka at *
  have Hka := hide hka
  clear hka
  have a0 : w1.cell? ⟨ka, 0, none⟩ = some (.int .i64 kd) := (unhide HN1).cell 0
  have a1 : w1.cell? ⟨ka, 1, none⟩ = some (.int .i64 n) := (unhide HN1).cell 1
  have b0 : w1.cell? ⟨ka + 1, 0, none⟩ = some (.int .i64 an.e) := (unhide HN2).cell 0
  have C1 := xgood_any (n : Int) w1
  rw [decide_eq_true (show gdS ((n : Nat) : Int) from ⟨by omega, by omega⟩)] at C1
  have C1 := hide C1
  have n4 : (n : Int) < 4 := by omega
  go_wp2_with fail
  refine (unhide C1).mono ?_
  rintro e w2 ⟨rfl, rfl⟩
  clear C1
  have FF := hide (show FoP q w g x M' K kG m am (.returned (.bool true)) w1 from ⟨rfl, m, sh, unhide HG, unhide HS2, unhide HR, fun k h => .inl h, fun k h => .inl h, ((unhide HO).mono (fun _ _ h => h.elim))⟩)
  have e1 : (kd == 1) = false := ne_intO (by omega)
  have e2 : (kd == 2) = false := ne_intO (by omega)
  have e3 : (kd == 3) = false := ne_intO (by omega)
  have e4 : (kd == 4) = false := ne_intO (by omega)
  have e5 : (kd == 5) = false := ne_intO (by omega)
  have e6 : (kd == 6) = false := ne_intO (by omega)
  have e7 : (kd == 7) = false := ne_intO (by omega)
  have e8 : (kd == 8) = false := ne_intO (by omega)
  have e9 : (kd == 9) = false := ne_intO (by omega)
  have e10 : (kd == 10) = false := ne_intO (by omega)
  have e11 : (kd == 11) = false := ne_intO (by omega)
  go_wp2_with fail
  go_ret
  exact unhide FF
set_option maxRecDepth 100000 in
set_option maxHeartbeats 4000000 in
theorem fo_e1 (R : RX q w g x M' K) (G : GhAt w kG m sh) (A : AnAt w am an) (hGs : ∀ k, m.A kG k → ¬ q.A k ∧ k ≠ x ∧ ¬ K k) (hAs : ∀ k, AnB am k → ¬ q.A k ∧ k ≠ x ∧ ¬ K k ∧ ¬ m.T kG k) (Se : SerI M m sh) (ok : MuOk M) (hn : n < 4) (he : an.e ≠ 0) (hsame : SerI M' m sh) : Calls Tryz.prog 15 #[.pointer (some ⟨kG, 0, none⟩), .pointer (some ⟨g, 0, none⟩), opX 1 n bb cc s t, .agg (anC am an)] w (FoP q w g x M' K kG m am) := by
  obtain ⟨p1, p2, hp⟩ := A.row.shape
  obtain ⟨r1, r2, hr⟩ := ownsRow_shape A.own
  obtain ⟨t1, t2, ht⟩ := A.col.shape
  obtain ⟨v1, v2, hv⟩ := ownsRow_shape A.nms
  obtain ⟨ln, hln⟩ : ∃ k, an.row.length = k := ⟨_, rfl⟩
  obtain ⟨ls, hls⟩ : ∃ k, am.Z.length = k := ⟨_, rfl⟩
  obtain ⟨lc, hlc⟩ : ∃ k, an.cols.length = k := ⟨_, rfl⟩
  obtain ⟨lm, hlm⟩ : ∃ k, an.names.length = k := ⟨_, rfl⟩
  rw [hln] at hp
  rw [hls] at hr
  rw [hlc] at ht
  rw [hlm] at hv
  have o1 : Only (fun _ => False) w ((w.alloc (.cells #[.int .i64 1, .int .i64 n, .int .i64 bb, .int .i64 cc, .string s, .string t] 44)).alloc (.cells #[.int .i64 an.e, .int .i64 an.n, .slice p1 ln p2, .slice r1 ls r2, .string an.nm, .slice t1 lc t2, .int .i64 an.pk, .int .i64 an.ix, .slice v1 lm v2] 54)) := ((Only.refl _ w).alloc _).alloc _
  have N1 : Has ((w.alloc (.cells #[.int .i64 1, .int .i64 n, .int .i64 bb, .int .i64 cc, .string s, .string t] 44)).alloc (.cells #[.int .i64 an.e, .int .i64 an.n, .slice p1 ln p2, .slice r1 ls r2, .string an.nm, .slice t1 lc t2, .int .i64 an.pk, .int .i64 an.ix, .slice v1 lm v2] 54)) w.heap.size #[.int .i64 1, .int .i64 n, .int .i64 bb, .int .i64 cc, .string s, .string t] 44 := (Has.new w _ _).alloc _
  have N2 : Has ((w.alloc (.cells #[.int .i64 1, .int .i64 n, .int .i64 bb, .int .i64 cc, .string s, .string t] 44)).alloc (.cells #[.int .i64 an.e, .int .i64 an.n, .slice p1 ln p2, .slice r1 ls r2, .string an.nm, .slice t1 lc t2, .int .i64 an.pk, .int .i64 an.ix, .slice v1 lm v2] 54)) (w.heap.size + 1) #[.int .i64 an.e, .int .i64 an.n, .slice p1 ln p2, .slice r1 ls r2, .string an.nm, .slice t1 lc t2, .int .i64 an.pk, .int .i64 an.ix, .slice v1 lm v2] 54 := Has.new' _ _ _ _ (by simp)
  have HR := hide (R.quiet o1)
  have HG := hide (G.quiet o1)
  have HA := hide (A.quiet o1)
  have HGl := hide (show ∀ k, m.A kG k → k < w.heap.size from G.lt)
  have HAl := hide (show ∀ k, AnB am k → k < w.heap.size from A.lt)
  have HQl := hide (show ∀ k, q.A k ∨ k = x ∨ K k → k < w.heap.size from fun k h => by
    rcases h with h | h | h
    · exact R.Alt.1 k h
    · rw [h]; exact R.Alt.2
    · exact (R.kA k h).2.2)
  have HGs := hide hGs
  have HAs := hide hAs
  have HSe := hide (And.intro Se ok)
  have HO := hide o1
  have HN1 := hide N1
  have HN2 := hide N2
  have Hsh := hide (And.intro (And.intro hp hr) (And.intro ht hv))
  unfold anC opX
  rw [hp, hr, ht, hv]
  have HS2 := hide hsame
  clear hsame
  clear R G A hGs hAs Se ok o1 N1 N2 hp hr ht hv hln hls hlc hlm
  go_enter Tryz.func15, Tryz.ntmps15
  go_upto_region 1 with fail
  generalize ((w.alloc (.cells #[.int .i64 1, .int .i64 n, .int .i64 bb, .int .i64 cc, .string s, .string t] 44)).alloc (.cells #[.int .i64 an.e, .int .i64 an.n, .slice p1 ln p2, .slice r1 ls r2, .string an.nm, .slice t1 lc t2, .int .i64 an.pk, .int .i64 an.ix, .slice v1 lm v2] 54)) = w1 at *
  have k1 := (unhide HN1).lt
  have k2 := (unhide HN2).lt
  have s1 := (unhide HO).size
  generalize hka : w.heap.size = ka at *
  have Hka := hide hka
  clear hka
  have a0 : w1.cell? ⟨ka, 0, none⟩ = some (.int .i64 1) := (unhide HN1).cell 0
  have a1 : w1.cell? ⟨ka, 1, none⟩ = some (.int .i64 n) := (unhide HN1).cell 1
  have b0 : w1.cell? ⟨ka + 1, 0, none⟩ = some (.int .i64 an.e) := (unhide HN2).cell 0
  have C1 := xgood_any (n : Int) w1
  rw [decide_eq_true (show gdS ((n : Nat) : Int) from ⟨by omega, by omega⟩)] at C1
  have C1 := hide C1
  have n4 : (n : Int) < 4 := by omega
  go_wp2_with fail
  refine (unhide C1).mono ?_
  rintro e w2 ⟨rfl, rfl⟩
  clear C1
  have FF := hide (show FoP q w g x M' K kG m am (.returned (.bool true)) w1 from ⟨rfl, m, sh, unhide HG, unhide HS2, unhide HR, fun k h => .inl h, fun k h => .inl h, ((unhide HO).mono (fun _ _ h => h.elim))⟩)
  have z0 : (an.e == 0) = false := ne_intO he
  clear he
  go_wp2_with fail
  go_ret
  exact unhide FF
set_option maxRecDepth 100000 in
set_option maxHeartbeats 4000000 in
theorem fo_e3 (R : RX q w g x M' K) (G : GhAt w kG m sh) (A : AnAt w am an) (hGs : ∀ k, m.A kG k → ¬ q.A k ∧ k ≠ x ∧ ¬ K k) (hAs : ∀ k, AnB am k → ¬ q.A k ∧ k ≠ x ∧ ¬ K k ∧ ¬ m.T kG k) (Se : SerI M m sh) (ok : MuOk M) (hn : n < 4) (he : an.e ≠ 0) (hsame : SerI M' m sh) : Calls Tryz.prog 15 #[.pointer (some ⟨kG, 0, none⟩), .pointer (some ⟨g, 0, none⟩), opX 3 n bb cc s t, .agg (anC am an)] w (FoP q w g x M' K kG m am) := by
  obtain ⟨p1, p2, hp⟩ := A.row.shape
  obtain ⟨r1, r2, hr⟩ := ownsRow_shape A.own
  obtain ⟨t1, t2, ht⟩ := A.col.shape
  obtain ⟨v1, v2, hv⟩ := ownsRow_shape A.nms
  obtain ⟨ln, hln⟩ : ∃ k, an.row.length = k := ⟨_, rfl⟩
  obtain ⟨ls, hls⟩ : ∃ k, am.Z.length = k := ⟨_, rfl⟩
  obtain ⟨lc, hlc⟩ : ∃ k, an.cols.length = k := ⟨_, rfl⟩
  obtain ⟨lm, hlm⟩ : ∃ k, an.names.length = k := ⟨_, rfl⟩
  rw [hln] at hp
  rw [hls] at hr
  rw [hlc] at ht
  rw [hlm] at hv
  have o1 : Only (fun _ => False) w ((w.alloc (.cells #[.int .i64 3, .int .i64 n, .int .i64 bb, .int .i64 cc, .string s, .string t] 44)).alloc (.cells #[.int .i64 an.e, .int .i64 an.n, .slice p1 ln p2, .slice r1 ls r2, .string an.nm, .slice t1 lc t2, .int .i64 an.pk, .int .i64 an.ix, .slice v1 lm v2] 54)) := ((Only.refl _ w).alloc _).alloc _
  have N1 : Has ((w.alloc (.cells #[.int .i64 3, .int .i64 n, .int .i64 bb, .int .i64 cc, .string s, .string t] 44)).alloc (.cells #[.int .i64 an.e, .int .i64 an.n, .slice p1 ln p2, .slice r1 ls r2, .string an.nm, .slice t1 lc t2, .int .i64 an.pk, .int .i64 an.ix, .slice v1 lm v2] 54)) w.heap.size #[.int .i64 3, .int .i64 n, .int .i64 bb, .int .i64 cc, .string s, .string t] 44 := (Has.new w _ _).alloc _
  have N2 : Has ((w.alloc (.cells #[.int .i64 3, .int .i64 n, .int .i64 bb, .int .i64 cc, .string s, .string t] 44)).alloc (.cells #[.int .i64 an.e, .int .i64 an.n, .slice p1 ln p2, .slice r1 ls r2, .string an.nm, .slice t1 lc t2, .int .i64 an.pk, .int .i64 an.ix, .slice v1 lm v2] 54)) (w.heap.size + 1) #[.int .i64 an.e, .int .i64 an.n, .slice p1 ln p2, .slice r1 ls r2, .string an.nm, .slice t1 lc t2, .int .i64 an.pk, .int .i64 an.ix, .slice v1 lm v2] 54 := Has.new' _ _ _ _ (by simp)
  have HR := hide (R.quiet o1)
  have HG := hide (G.quiet o1)
  have HA := hide (A.quiet o1)
  have HGl := hide (show ∀ k, m.A kG k → k < w.heap.size from G.lt)
  have HAl := hide (show ∀ k, AnB am k → k < w.heap.size from A.lt)
  have HQl := hide (show ∀ k, q.A k ∨ k = x ∨ K k → k < w.heap.size from fun k h => by
    rcases h with h | h | h
    · exact R.Alt.1 k h
    · rw [h]; exact R.Alt.2
    · exact (R.kA k h).2.2)
  have HGs := hide hGs
  have HAs := hide hAs
  have HSe := hide (And.intro Se ok)
  have HO := hide o1
  have HN1 := hide N1
  have HN2 := hide N2
  have Hsh := hide (And.intro (And.intro hp hr) (And.intro ht hv))
  unfold anC opX
  rw [hp, hr, ht, hv]
  have HS2 := hide hsame
  clear hsame
  clear R G A hGs hAs Se ok o1 N1 N2 hp hr ht hv hln hls hlc hlm
  go_enter Tryz.func15, Tryz.ntmps15
  go_upto_region 1 with fail
  generalize ((w.alloc (.cells #[.int .i64 3, .int .i64 n, .int .i64 bb, .int .i64 cc, .string s, .string t] 44)).alloc (.cells #[.int .i64 an.e, .int .i64 an.n, .slice p1 ln p2, .slice r1 ls r2, .string an.nm, .slice t1 lc t2, .int .i64 an.pk, .int .i64 an.ix, .slice v1 lm v2] 54)) = w1 at *
  have k1 := (unhide HN1).lt
  have k2 := (unhide HN2).lt
  have s1 := (unhide HO).size
  generalize hka : w.heap.size = ka at *
  have Hka := hide hka
  clear hka
  have a0 : w1.cell? ⟨ka, 0, none⟩ = some (.int .i64 3) := (unhide HN1).cell 0
  have a1 : w1.cell? ⟨ka, 1, none⟩ = some (.int .i64 n) := (unhide HN1).cell 1
  have b0 : w1.cell? ⟨ka + 1, 0, none⟩ = some (.int .i64 an.e) := (unhide HN2).cell 0
  have C1 := xgood_any (n : Int) w1
  rw [decide_eq_true (show gdS ((n : Nat) : Int) from ⟨by omega, by omega⟩)] at C1
  have C1 := hide C1
  have n4 : (n : Int) < 4 := by omega
  go_wp2_with fail
  refine (unhide C1).mono ?_
  rintro e w2 ⟨rfl, rfl⟩
  clear C1
  have FF := hide (show FoP q w g x M' K kG m am (.returned (.bool true)) w1 from ⟨rfl, m, sh, unhide HG, unhide HS2, unhide HR, fun k h => .inl h, fun k h => .inl h, ((unhide HO).mono (fun _ _ h => h.elim))⟩)
  have z0 : (an.e == 0) = false := ne_intO he
  clear he
  go_wp2_with fail
  go_ret
  exact unhide FF
set_option maxRecDepth 100000 in
set_option maxHeartbeats 4000000 in
theorem fo_e4 (R : RX q w g x M' K) (G : GhAt w kG m sh) (A : AnAt w am an) (hGs : ∀ k, m.A kG k → ¬ q.A k ∧ k ≠ x ∧ ¬ K k) (hAs : ∀ k, AnB am k → ¬ q.A k ∧ k ≠ x ∧ ¬ K k ∧ ¬ m.T kG k) (Se : SerI M m sh) (ok : MuOk M) (hn : n < 4) (he : an.e ≠ 0) (hsame : SerI M' m sh) : Calls Tryz.prog 15 #[.pointer (some ⟨kG, 0, none⟩), .pointer (some ⟨g, 0, none⟩), opX 4 n bb cc s t, .agg (anC am an)] w (FoP q w g x M' K kG m am) := by
  obtain ⟨p1, p2, hp⟩ := A.row.shape
  obtain ⟨r1, r2, hr⟩ := ownsRow_shape A.own
  obtain ⟨t1, t2, ht⟩ := A.col.shape
  obtain ⟨v1, v2, hv⟩ := ownsRow_shape A.nms
  obtain ⟨ln, hln⟩ : ∃ k, an.row.length = k := ⟨_, rfl⟩
  obtain ⟨ls, hls⟩ : ∃ k, am.Z.length = k := ⟨_, rfl⟩
  obtain ⟨lc, hlc⟩ : ∃ k, an.cols.length = k := ⟨_, rfl⟩
  obtain ⟨lm, hlm⟩ : ∃ k, an.names.length = k := ⟨_, rfl⟩
  rw [hln] at hp
  rw [hls] at hr
  rw [hlc] at ht
  rw [hlm] at hv
  have o1 : Only (fun _ => False) w ((w.alloc (.cells #[.int .i64 4, .int .i64 n, .int .i64 bb, .int .i64 cc, .string s, .string t] 44)).alloc (.cells #[.int .i64 an.e, .int .i64 an.n, .slice p1 ln p2, .slice r1 ls r2, .string an.nm, .slice t1 lc t2, .int .i64 an.pk, .int .i64 an.ix, .slice v1 lm v2] 54)) := ((Only.refl _ w).alloc _).alloc _
  have N1 : Has ((w.alloc (.cells #[.int .i64 4, .int .i64 n, .int .i64 bb, .int .i64 cc, .string s, .string t] 44)).alloc (.cells #[.int .i64 an.e, .int .i64 an.n, .slice p1 ln p2, .slice r1 ls r2, .string an.nm, .slice t1 lc t2, .int .i64 an.pk, .int .i64 an.ix, .slice v1 lm v2] 54)) w.heap.size #[.int .i64 4, .int .i64 n, .int .i64 bb, .int .i64 cc, .string s, .string t] 44 := (Has.new w _ _).alloc _
  have N2 : Has ((w.alloc (.cells #[.int .i64 4, .int .i64 n, .int .i64 bb, .int .i64 cc, .string s, .string t] 44)).alloc (.cells #[.int .i64 an.e, .int .i64 an.n, .slice p1 ln p2, .slice r1 ls r2, .string an.nm, .slice t1 lc t2, .int .i64 an.pk, .int .i64 an.ix, .slice v1 lm v2] 54)) (w.heap.size + 1) #[.int .i64 an.e, .int .i64 an.n, .slice p1 ln p2, .slice r1 ls r2, .string an.nm, .slice t1 lc t2, .int .i64 an.pk, .int .i64 an.ix, .slice v1 lm v2] 54 := Has.new' _ _ _ _ (by simp)
  have HR := hide (R.quiet o1)
  have HG := hide (G.quiet o1)
  have HA := hide (A.quiet o1)
  have HGl := hide (show ∀ k, m.A kG k → k < w.heap.size from G.lt)
  have HAl := hide (show ∀ k, AnB am k → k < w.heap.size from A.lt)
  have HQl := hide (show ∀ k, q.A k ∨ k = x ∨ K k → k < w.heap.size from fun k h => by
    rcases h with h | h | h
    · exact R.Alt.1 k h
    · rw [h]; exact R.Alt.2
    · exact (R.kA k h).2.2)
  have HGs := hide hGs
  have HAs := hide hAs
  have HSe := hide (And.intro Se ok)
  have HO := hide o1
  have HN1 := hide N1
  have HN2 := hide N2
  have Hsh := hide (And.intro (And.intro hp hr) (And.intro ht hv))
  unfold anC opX
  rw [hp, hr, ht, hv]
  have HS2 := hide hsame
  clear hsame
  clear R G A hGs hAs Se ok o1 N1 N2 hp hr ht hv hln hls hlc hlm
  go_enter Tryz.func15, Tryz.ntmps15
  go_upto_region 1 with fail
  generalize ((w.alloc (.cells #[.int .i64 4, .int .i64 n, .int .i64 bb, .int .i64 cc, .string s, .string t] 44)).alloc (.cells #[.int .i64 an.e, .int .i64 an.n, .slice p1 ln p2, .slice r1 ls r2, .string an.nm, .slice t1 lc t2, .int .i64 an.pk, .int .i64 an.ix, .slice v1 lm v2] 54)) = w1 at *
  have k1 := (unhide HN1).lt
  have k2 := (unhide HN2).lt
  have s1 := (unhide HO).size
  generalize hka : w.heap.size = ka at *
  have Hka := hide hka
  clear hka
  have a0 : w1.cell? ⟨ka, 0, none⟩ = some (.int .i64 4) := (unhide HN1).cell 0
  have a1 : w1.cell? ⟨ka, 1, none⟩ = some (.int .i64 n) := (unhide HN1).cell 1
  have b0 : w1.cell? ⟨ka + 1, 0, none⟩ = some (.int .i64 an.e) := (unhide HN2).cell 0
  have C1 := xgood_any (n : Int) w1
  rw [decide_eq_true (show gdS ((n : Nat) : Int) from ⟨by omega, by omega⟩)] at C1
  have C1 := hide C1
  have n4 : (n : Int) < 4 := by omega
  go_wp2_with fail
  refine (unhide C1).mono ?_
  rintro e w2 ⟨rfl, rfl⟩
  clear C1
  have FF := hide (show FoP q w g x M' K kG m am (.returned (.bool true)) w1 from ⟨rfl, m, sh, unhide HG, unhide HS2, unhide HR, fun k h => .inl h, fun k h => .inl h, ((unhide HO).mono (fun _ _ h => h.elim))⟩)
  have z0 : (an.e == 0) = false := ne_intO he
  clear he
  go_wp2_with fail
  go_ret
  exact unhide FF
set_option maxRecDepth 100000 in
set_option maxHeartbeats 4000000 in
theorem fo_e5 (R : RX q w g x M' K) (G : GhAt w kG m sh) (A : AnAt w am an) (hGs : ∀ k, m.A kG k → ¬ q.A k ∧ k ≠ x ∧ ¬ K k) (hAs : ∀ k, AnB am k → ¬ q.A k ∧ k ≠ x ∧ ¬ K k ∧ ¬ m.T kG k) (Se : SerI M m sh) (ok : MuOk M) (hn : n < 4) (he : an.e ≠ 0) (hsame : SerI M' m sh) : Calls Tryz.prog 15 #[.pointer (some ⟨kG, 0, none⟩), .pointer (some ⟨g, 0, none⟩), opX 5 n bb cc s t, .agg (anC am an)] w (FoP q w g x M' K kG m am) := by
  obtain ⟨p1, p2, hp⟩ := A.row.shape
  obtain ⟨r1, r2, hr⟩ := ownsRow_shape A.own
  obtain ⟨t1, t2, ht⟩ := A.col.shape
  obtain ⟨v1, v2, hv⟩ := ownsRow_shape A.nms
  obtain ⟨ln, hln⟩ : ∃ k, an.row.length = k := ⟨_, rfl⟩
  obtain ⟨ls, hls⟩ : ∃ k, am.Z.length = k := ⟨_, rfl⟩
  obtain ⟨lc, hlc⟩ : ∃ k, an.cols.length = k := ⟨_, rfl⟩
  obtain ⟨lm, hlm⟩ : ∃ k, an.names.length = k := ⟨_, rfl⟩
  rw [hln] at hp
  rw [hls] at hr
  rw [hlc] at ht
  rw [hlm] at hv
  have o1 : Only (fun _ => False) w ((w.alloc (.cells #[.int .i64 5, .int .i64 n, .int .i64 bb, .int .i64 cc, .string s, .string t] 44)).alloc (.cells #[.int .i64 an.e, .int .i64 an.n, .slice p1 ln p2, .slice r1 ls r2, .string an.nm, .slice t1 lc t2, .int .i64 an.pk, .int .i64 an.ix, .slice v1 lm v2] 54)) := ((Only.refl _ w).alloc _).alloc _
  have N1 : Has ((w.alloc (.cells #[.int .i64 5, .int .i64 n, .int .i64 bb, .int .i64 cc, .string s, .string t] 44)).alloc (.cells #[.int .i64 an.e, .int .i64 an.n, .slice p1 ln p2, .slice r1 ls r2, .string an.nm, .slice t1 lc t2, .int .i64 an.pk, .int .i64 an.ix, .slice v1 lm v2] 54)) w.heap.size #[.int .i64 5, .int .i64 n, .int .i64 bb, .int .i64 cc, .string s, .string t] 44 := (Has.new w _ _).alloc _
  have N2 : Has ((w.alloc (.cells #[.int .i64 5, .int .i64 n, .int .i64 bb, .int .i64 cc, .string s, .string t] 44)).alloc (.cells #[.int .i64 an.e, .int .i64 an.n, .slice p1 ln p2, .slice r1 ls r2, .string an.nm, .slice t1 lc t2, .int .i64 an.pk, .int .i64 an.ix, .slice v1 lm v2] 54)) (w.heap.size + 1) #[.int .i64 an.e, .int .i64 an.n, .slice p1 ln p2, .slice r1 ls r2, .string an.nm, .slice t1 lc t2, .int .i64 an.pk, .int .i64 an.ix, .slice v1 lm v2] 54 := Has.new' _ _ _ _ (by simp)
  have HR := hide (R.quiet o1)
  have HG := hide (G.quiet o1)
  have HA := hide (A.quiet o1)
  have HGl := hide (show ∀ k, m.A kG k → k < w.heap.size from G.lt)
  have HAl := hide (show ∀ k, AnB am k → k < w.heap.size from A.lt)
  have HQl := hide (show ∀ k, q.A k ∨ k = x ∨ K k → k < w.heap.size from fun k h => by
    rcases h with h | h | h
    · exact R.Alt.1 k h
    · rw [h]; exact R.Alt.2
    · exact (R.kA k h).2.2)
  have HGs := hide hGs
  have HAs := hide hAs
  have HSe := hide (And.intro Se ok)
  have HO := hide o1
  have HN1 := hide N1
  have HN2 := hide N2
  have Hsh := hide (And.intro (And.intro hp hr) (And.intro ht hv))
  unfold anC opX
  rw [hp, hr, ht, hv]
  have HS2 := hide hsame
  clear hsame
  clear R G A hGs hAs Se ok o1 N1 N2 hp hr ht hv hln hls hlc hlm
  go_enter Tryz.func15, Tryz.ntmps15
  go_upto_region 1 with fail
  generalize ((w.alloc (.cells #[.int .i64 5, .int .i64 n, .int .i64 bb, .int .i64 cc, .string s, .string t] 44)).alloc (.cells #[.int .i64 an.e, .int .i64 an.n, .slice p1 ln p2, .slice r1 ls r2, .string an.nm, .slice t1 lc t2, .int .i64 an.pk, .int .i64 an.ix, .slice v1 lm v2] 54)) = w1 at *
  have k1 := (unhide HN1).lt
  have k2 := (unhide HN2).lt
  have s1 := (unhide HO).size
  generalize hka : w.heap.size = ka at *
  have Hka := hide hka
  clear hka
  have a0 : w1.cell? ⟨ka, 0, none⟩ = some (.int .i64 5) := (unhide HN1).cell 0
  have a1 : w1.cell? ⟨ka, 1, none⟩ = some (.int .i64 n) := (unhide HN1).cell 1
  have b0 : w1.cell? ⟨ka + 1, 0, none⟩ = some (.int .i64 an.e) := (unhide HN2).cell 0
  have C1 := xgood_any (n : Int) w1
  rw [decide_eq_true (show gdS ((n : Nat) : Int) from ⟨by omega, by omega⟩)] at C1
  have C1 := hide C1
  have n4 : (n : Int) < 4 := by omega
  go_wp2_with fail
  refine (unhide C1).mono ?_
  rintro e w2 ⟨rfl, rfl⟩
  clear C1
  have FF := hide (show FoP q w g x M' K kG m am (.returned (.bool true)) w1 from ⟨rfl, m, sh, unhide HG, unhide HS2, unhide HR, fun k h => .inl h, fun k h => .inl h, ((unhide HO).mono (fun _ _ h => h.elim))⟩)
  have z0 : (an.e == 0) = false := ne_intO he
  clear he
  go_wp2_with fail
  go_ret
  exact unhide FF
set_option maxRecDepth 100000 in
set_option maxHeartbeats 4000000 in
theorem fo_e6 (R : RX q w g x M' K) (G : GhAt w kG m sh) (A : AnAt w am an) (hGs : ∀ k, m.A kG k → ¬ q.A k ∧ k ≠ x ∧ ¬ K k) (hAs : ∀ k, AnB am k → ¬ q.A k ∧ k ≠ x ∧ ¬ K k ∧ ¬ m.T kG k) (Se : SerI M m sh) (ok : MuOk M) (hn : n < 4) (he : an.e ≠ 0) (hsame : SerI M' m sh) : Calls Tryz.prog 15 #[.pointer (some ⟨kG, 0, none⟩), .pointer (some ⟨g, 0, none⟩), opX 6 n bb cc s t, .agg (anC am an)] w (FoP q w g x M' K kG m am) := by
  obtain ⟨p1, p2, hp⟩ := A.row.shape
  obtain ⟨r1, r2, hr⟩ := ownsRow_shape A.own
  obtain ⟨t1, t2, ht⟩ := A.col.shape
  obtain ⟨v1, v2, hv⟩ := ownsRow_shape A.nms
  obtain ⟨ln, hln⟩ : ∃ k, an.row.length = k := ⟨_, rfl⟩
  obtain ⟨ls, hls⟩ : ∃ k, am.Z.length = k := ⟨_, rfl⟩
  obtain ⟨lc, hlc⟩ : ∃ k, an.cols.length = k := ⟨_, rfl⟩
  obtain ⟨lm, hlm⟩ : ∃ k, an.names.length = k := ⟨_, rfl⟩
  rw [hln] at hp
  rw [hls] at hr
  rw [hlc] at ht
  rw [hlm] at hv
  have o1 : Only (fun _ => False) w ((w.alloc (.cells #[.int .i64 6, .int .i64 n, .int .i64 bb, .int .i64 cc, .string s, .string t] 44)).alloc (.cells #[.int .i64 an.e, .int .i64 an.n, .slice p1 ln p2, .slice r1 ls r2, .string an.nm, .slice t1 lc t2, .int .i64 an.pk, .int .i64 an.ix, .slice v1 lm v2] 54)) := ((Only.refl _ w).alloc _).alloc _
  have N1 : Has ((w.alloc (.cells #[.int .i64 6, .int .i64 n, .int .i64 bb, .int .i64 cc, .string s, .string t] 44)).alloc (.cells #[.int .i64 an.e, .int .i64 an.n, .slice p1 ln p2, .slice r1 ls r2, .string an.nm, .slice t1 lc t2, .int .i64 an.pk, .int .i64 an.ix, .slice v1 lm v2] 54)) w.heap.size #[.int .i64 6, .int .i64 n, .int .i64 bb, .int .i64 cc, .string s, .string t] 44 := (Has.new w _ _).alloc _
  have N2 : Has ((w.alloc (.cells #[.int .i64 6, .int .i64 n, .int .i64 bb, .int .i64 cc, .string s, .string t] 44)).alloc (.cells #[.int .i64 an.e, .int .i64 an.n, .slice p1 ln p2, .slice r1 ls r2, .string an.nm, .slice t1 lc t2, .int .i64 an.pk, .int .i64 an.ix, .slice v1 lm v2] 54)) (w.heap.size + 1) #[.int .i64 an.e, .int .i64 an.n, .slice p1 ln p2, .slice r1 ls r2, .string an.nm, .slice t1 lc t2, .int .i64 an.pk, .int .i64 an.ix, .slice v1 lm v2] 54 := Has.new' _ _ _ _ (by simp)
  have HR := hide (R.quiet o1)
  have HG := hide (G.quiet o1)
  have HA := hide (A.quiet o1)
  have HGl := hide (show ∀ k, m.A kG k → k < w.heap.size from G.lt)
  have HAl := hide (show ∀ k, AnB am k → k < w.heap.size from A.lt)
  have HQl := hide (show ∀ k, q.A k ∨ k = x ∨ K k → k < w.heap.size from fun k h => by
    rcases h with h | h | h
    · exact R.Alt.1 k h
    · rw [h]; exact R.Alt.2
    · exact (R.kA k h).2.2)
  have HGs := hide hGs
  have HAs := hide hAs
  have HSe := hide (And.intro Se ok)
  have HO := hide o1
  have HN1 := hide N1
  have HN2 := hide N2
  have Hsh := hide (And.intro (And.intro hp hr) (And.intro ht hv))
  unfold anC opX
  rw [hp, hr, ht, hv]
  have HS2 := hide hsame
  clear hsame
  clear R G A hGs hAs Se ok o1 N1 N2 hp hr ht hv hln hls hlc hlm
  go_enter Tryz.func15, Tryz.ntmps15
  go_upto_region 1 with fail
  generalize ((w.alloc (.cells #[.int .i64 6, .int .i64 n, .int .i64 bb, .int .i64 cc, .string s, .string t] 44)).alloc (.cells #[.int .i64 an.e, .int .i64 an.n, .slice p1 ln p2, .slice r1 ls r2, .string an.nm, .slice t1 lc t2, .int .i64 an.pk, .int .i64 an.ix, .slice v1 lm v2] 54)) = w1 at *
  have k1 := (unhide HN1).lt
  have k2 := (unhide HN2).lt
  have s1 := (unhide HO).size
  generalize hka : w.heap.size = ka at *
  have Hka := hide hka
  clear hka
  have a0 : w1.cell? ⟨ka, 0, none⟩ = some (.int .i64 6) := (unhide HN1).cell 0
  have a1 : w1.cell? ⟨ka, 1, none⟩ = some (.int .i64 n) := (unhide HN1).cell 1
  have b0 : w1.cell? ⟨ka + 1, 0, none⟩ = some (.int .i64 an.e) := (unhide HN2).cell 0
  have C1 := xgood_any (n : Int) w1
  rw [decide_eq_true (show gdS ((n : Nat) : Int) from ⟨by omega, by omega⟩)] at C1
  have C1 := hide C1
  have n4 : (n : Int) < 4 := by omega
  go_wp2_with fail
  refine (unhide C1).mono ?_
  rintro e w2 ⟨rfl, rfl⟩
  clear C1
  have FF := hide (show FoP q w g x M' K kG m am (.returned (.bool true)) w1 from ⟨rfl, m, sh, unhide HG, unhide HS2, unhide HR, fun k h => .inl h, fun k h => .inl h, ((unhide HO).mono (fun _ _ h => h.elim))⟩)
  have z0 : (an.e == 0) = false := ne_intO he
  clear he
  go_wp2_with fail
  go_ret
  exact unhide FF
set_option maxRecDepth 100000 in
set_option maxHeartbeats 4000000 in
theorem fo_b1 (R : RX q w g x M' K) (G : GhAt w kG m sh) (A : AnAt w am an) (hGs : ∀ k, m.A kG k → ¬ q.A k ∧ k ≠ x ∧ ¬ K k) (hAs : ∀ k, AnB am k → ¬ q.A k ∧ k ≠ x ∧ ¬ K k ∧ ¬ m.T kG k) (Se : SerI M m sh) (ok : MuOk M) (hn : n < 4) (he : an.e = 0) (hs2 : SerI M' ((m.setL n (.slice none 0 0) []).setO n false) sh) : Calls Tryz.prog 15 #[.pointer (some ⟨kG, 0, none⟩), .pointer (some ⟨g, 0, none⟩), opX 1 n bb cc s t, .agg (anC am an)] w (FoP q w g x M' K kG m am) := by
  obtain ⟨p1, p2, hp⟩ := A.row.shape
  obtain ⟨r1, r2, hr⟩ := ownsRow_shape A.own
  obtain ⟨t1, t2, ht⟩ := A.col.shape
  obtain ⟨v1, v2, hv⟩ := ownsRow_shape A.nms
  obtain ⟨ln, hln⟩ : ∃ k, an.row.length = k := ⟨_, rfl⟩
  obtain ⟨ls, hls⟩ : ∃ k, am.Z.length = k := ⟨_, rfl⟩
  obtain ⟨lc, hlc⟩ : ∃ k, an.cols.length = k := ⟨_, rfl⟩
  obtain ⟨lm, hlm⟩ : ∃ k, an.names.length = k := ⟨_, rfl⟩
  rw [hln] at hp
  rw [hls] at hr
  rw [hlc] at ht
  rw [hlm] at hv
  have o1 : Only (fun _ => False) w ((w.alloc (.cells #[.int .i64 1, .int .i64 n, .int .i64 bb, .int .i64 cc, .string s, .string t] 44)).alloc (.cells #[.int .i64 an.e, .int .i64 an.n, .slice p1 ln p2, .slice r1 ls r2, .string an.nm, .slice t1 lc t2, .int .i64 an.pk, .int .i64 an.ix, .slice v1 lm v2] 54)) := ((Only.refl _ w).alloc _).alloc _
  have N1 : Has ((w.alloc (.cells #[.int .i64 1, .int .i64 n, .int .i64 bb, .int .i64 cc, .string s, .string t] 44)).alloc (.cells #[.int .i64 an.e, .int .i64 an.n, .slice p1 ln p2, .slice r1 ls r2, .string an.nm, .slice t1 lc t2, .int .i64 an.pk, .int .i64 an.ix, .slice v1 lm v2] 54)) w.heap.size #[.int .i64 1, .int .i64 n, .int .i64 bb, .int .i64 cc, .string s, .string t] 44 := (Has.new w _ _).alloc _
  have N2 : Has ((w.alloc (.cells #[.int .i64 1, .int .i64 n, .int .i64 bb, .int .i64 cc, .string s, .string t] 44)).alloc (.cells #[.int .i64 an.e, .int .i64 an.n, .slice p1 ln p2, .slice r1 ls r2, .string an.nm, .slice t1 lc t2, .int .i64 an.pk, .int .i64 an.ix, .slice v1 lm v2] 54)) (w.heap.size + 1) #[.int .i64 an.e, .int .i64 an.n, .slice p1 ln p2, .slice r1 ls r2, .string an.nm, .slice t1 lc t2, .int .i64 an.pk, .int .i64 an.ix, .slice v1 lm v2] 54 := Has.new' _ _ _ _ (by simp)
  have HR := hide (R.quiet o1)
  have HG := hide (G.quiet o1)
  have HA := hide (A.quiet o1)
  have HGl := hide (show ∀ k, m.A kG k → k < w.heap.size from G.lt)
  have HAl := hide (show ∀ k, AnB am k → k < w.heap.size from A.lt)
  have HQl := hide (show ∀ k, q.A k ∨ k = x ∨ K k → k < w.heap.size from fun k h => by
    rcases h with h | h | h
    · exact R.Alt.1 k h
    · rw [h]; exact R.Alt.2
    · exact (R.kA k h).2.2)
  have HGs := hide hGs
  have HAs := hide hAs
  have HSe := hide (And.intro Se ok)
  have HO := hide o1
  have HN1 := hide N1
  have HN2 := hide N2
  have Hsh := hide (And.intro (And.intro hp hr) (And.intro ht hv))
  unfold anC opX
  rw [hp, hr, ht, hv]
  have HS2 := hide hs2
  have He := hide he
  clear hs2 he
  clear R G A hGs hAs Se ok o1 N1 N2 hp hr ht hv hln hls hlc hlm
  go_enter Tryz.func15, Tryz.ntmps15
  go_upto_region 1 with fail
  generalize ((w.alloc (.cells #[.int .i64 1, .int .i64 n, .int .i64 bb, .int .i64 cc, .string s, .string t] 44)).alloc (.cells #[.int .i64 an.e, .int .i64 an.n, .slice p1 ln p2, .slice r1 ls r2, .string an.nm, .slice t1 lc t2, .int .i64 an.pk, .int .i64 an.ix, .slice v1 lm v2] 54)) = w1 at *
  have k1 := (unhide HN1).lt
  have k2 := (unhide HN2).lt
  have s1 := (unhide HO).size
  generalize hka : w.heap.size = ka at *
  have Hka := hide hka
  clear hka
  have a0 : w1.cell? ⟨ka, 0, none⟩ = some (.int .i64 1) := (unhide HN1).cell 0
  have a1 : w1.cell? ⟨ka, 1, none⟩ = some (.int .i64 n) := (unhide HN1).cell 1
  have b0 : w1.cell? ⟨ka + 1, 0, none⟩ = some (.int .i64 an.e) := (unhide HN2).cell 0
  have C1 := xgood_any (n : Int) w1
  rw [decide_eq_true (show gdS ((n : Nat) : Int) from ⟨by omega, by omega⟩)] at C1
  have C1 := hide C1
  have n4 : (n : Int) < 4 := by omega
  go_wp2_with fail
  refine (unhide C1).mono ?_
  rintro e w2 ⟨rfl, rfl⟩
  clear C1
  rw [unhide He] at b0
  have c1 := (unhide HG).cL hn
  obtain ⟨ja, jn, jc, hlv⟩ : ∃ ja jn jc, m.lv n = .slice ja jn jc := by
    obtain ⟨a, c, h⟩ := ownsRow_shape ((unhide HG).rl n hn).own
    exact ⟨a, _, c, h⟩
  rw [hlv] at c1
  have f1 := (unhide HG).has.free (1 + n)
  have kGl := (unhide HG).has.lt
  have G2 := ((unhide HG).clear hn).quiet ((Only.refl (fun _ => False) _).drew)
  have o2 : Only (fun k => k = kG) w1 (w1.setCell ⟨kG, 1 + n, none⟩ (.slice none 0 0)) := only1 _ _
  have HG2 := hide G2
  have HO2 := hide (o2.trans ((Only.refl (fun _ => False) _).drew.mono (T := fun k => k = kG) (fun _ _ h => h.elim)) (fun _ _ h => h))
  have kne : ka ≠ kG ∧ ka + 1 ≠ kG := ⟨fun e => by have := unhide HGl kG (.inl (.inl rfl)); omega, fun e => by have := unhide HGl kG (.inl (.inl rfl)); omega⟩
  have HN3 := hide ((unhide HN1).keep (unhide HO2) kne.1)
  clear hlv G2 o2
  go_upto_region 7 with fail
  go_region
  all_goals
    generalize (w1.setCell ⟨kG, 1 + n, none⟩ (.slice none 0 0)).drew = w3 at *
    have c2 := (unhide HG2).cO hn
    have f2 := (unhide HG2).has.free (5 + n)
    have kG3 := (unhide HG2).has.lt
    have a1 : w3.cell? ⟨ka, 1, none⟩ = some (.int .i64 n) := (unhide HN3).cell 1
    have k3 := (unhide HN3).lt
    have G4 := ((unhide HG2).setO hn false).quiet ((Only.refl (fun _ => False) _).drew)
    have o4 : Only (fun k => k = kG) w3 (w3.setCell ⟨kG, 5 + n, none⟩ (.bool false)) := only1 _ _
    have oT : Only (fun k => k = kG) w1 (w3.setCell ⟨kG, 5 + n, none⟩ (.bool false)).drew := (unhide HO2).trans (o4.trans ((Only.refl (fun _ => False) _).drew.mono (T := fun k => k = kG) (fun _ _ h => h.elim)) (fun _ _ h => h)) (fun _ _ h => h)
    have FF := hide (show FoP q w g x M' K kG m am (.returned (.bool true)) (w3.setCell ⟨kG, 5 + n, none⟩ (.bool false)).drew from ⟨rfl, _, sh, G4, unhide HS2, (unhide HR).keep oT (fun k hk c => by
      have c' : k = kG := c
      have h2 := unhide HGs kG (.inl (.inl rfl))
      subst c'
      rcases hk with hk | hk | hk
      · exact h2.1 hk
      · exact h2.2.1 hk
      · exact h2.2.2 hk), fun k h => .inl (GhM.A_reset h), fun k h => .inl (GhM.T_reset h), ((unhide HO).mono (T := fun k => q.S k ∨ m.T kG k) (fun _ _ h => h.elim)).trans (oT.mono (T := fun k => q.S k ∨ m.T kG k) (fun k _ h => .inr (.inl h))) (fun _ _ h => h)⟩)
    clear G4 o4 oT
    go_upto_region 8 with fail
    go_region
    all_goals
      go_wp2_with fail
      go_ret
      exact unhide FF
set_option maxRecDepth 100000 in
set_option maxHeartbeats 4000000 in
theorem fo_b3 (R : RX q w g x M' K) (G : GhAt w kG m sh) (A : AnAt w am an) (hGs : ∀ k, m.A kG k → ¬ q.A k ∧ k ≠ x ∧ ¬ K k) (hAs : ∀ k, AnB am k → ¬ q.A k ∧ k ≠ x ∧ ¬ K k ∧ ¬ m.T kG k) (Se : SerI M m sh) (ok : MuOk M) (hn : n < 4) (he : an.e = 0) (hs2 : SerI M' ((m.setL n (.slice none 0 0) []).setO n false) sh) : Calls Tryz.prog 15 #[.pointer (some ⟨kG, 0, none⟩), .pointer (some ⟨g, 0, none⟩), opX 3 n bb cc s t, .agg (anC am an)] w (FoP q w g x M' K kG m am) := by
  obtain ⟨p1, p2, hp⟩ := A.row.shape
  obtain ⟨r1, r2, hr⟩ := ownsRow_shape A.own
  obtain ⟨t1, t2, ht⟩ := A.col.shape
  obtain ⟨v1, v2, hv⟩ := ownsRow_shape A.nms
  obtain ⟨ln, hln⟩ : ∃ k, an.row.length = k := ⟨_, rfl⟩
  obtain ⟨ls, hls⟩ : ∃ k, am.Z.length = k := ⟨_, rfl⟩
  obtain ⟨lc, hlc⟩ : ∃ k, an.cols.length = k := ⟨_, rfl⟩
  obtain ⟨lm, hlm⟩ : ∃ k, an.names.length = k := ⟨_, rfl⟩
  rw [hln] at hp
  rw [hls] at hr
  rw [hlc] at ht
  rw [hlm] at hv
  have o1 : Only (fun _ => False) w ((w.alloc (.cells #[.int .i64 3, .int .i64 n, .int .i64 bb, .int .i64 cc, .string s, .string t] 44)).alloc (.cells #[.int .i64 an.e, .int .i64 an.n, .slice p1 ln p2, .slice r1 ls r2, .string an.nm, .slice t1 lc t2, .int .i64 an.pk, .int .i64 an.ix, .slice v1 lm v2] 54)) := ((Only.refl _ w).alloc _).alloc _
  have N1 : Has ((w.alloc (.cells #[.int .i64 3, .int .i64 n, .int .i64 bb, .int .i64 cc, .string s, .string t] 44)).alloc (.cells #[.int .i64 an.e, .int .i64 an.n, .slice p1 ln p2, .slice r1 ls r2, .string an.nm, .slice t1 lc t2, .int .i64 an.pk, .int .i64 an.ix, .slice v1 lm v2] 54)) w.heap.size #[.int .i64 3, .int .i64 n, .int .i64 bb, .int .i64 cc, .string s, .string t] 44 := (Has.new w _ _).alloc _
  have N2 : Has ((w.alloc (.cells #[.int .i64 3, .int .i64 n, .int .i64 bb, .int .i64 cc, .string s, .string t] 44)).alloc (.cells #[.int .i64 an.e, .int .i64 an.n, .slice p1 ln p2, .slice r1 ls r2, .string an.nm, .slice t1 lc t2, .int .i64 an.pk, .int .i64 an.ix, .slice v1 lm v2] 54)) (w.heap.size + 1) #[.int .i64 an.e, .int .i64 an.n, .slice p1 ln p2, .slice r1 ls r2, .string an.nm, .slice t1 lc t2, .int .i64 an.pk, .int .i64 an.ix, .slice v1 lm v2] 54 := Has.new' _ _ _ _ (by simp)
  have HR := hide (R.quiet o1)
  have HG := hide (G.quiet o1)
  have HA := hide (A.quiet o1)
  have HGl := hide (show ∀ k, m.A kG k → k < w.heap.size from G.lt)
  have HAl := hide (show ∀ k, AnB am k → k < w.heap.size from A.lt)
  have HQl := hide (show ∀ k, q.A k ∨ k = x ∨ K k → k < w.heap.size from fun k h => by
    rcases h with h | h | h
    · exact R.Alt.1 k h
    · rw [h]; exact R.Alt.2
    · exact (R.kA k h).2.2)
  have HGs := hide hGs
  have HAs := hide hAs
  have HSe := hide (And.intro Se ok)
  have HO := hide o1
  have HN1 := hide N1
  have HN2 := hide N2
  have Hsh := hide (And.intro (And.intro hp hr) (And.intro ht hv))
  unfold anC opX
  rw [hp, hr, ht, hv]
  have HS2 := hide hs2
  have He := hide he
  clear hs2 he
  clear R G A hGs hAs Se ok o1 N1 N2 hp hr ht hv hln hls hlc hlm
  go_enter Tryz.func15, Tryz.ntmps15
  go_upto_region 1 with fail
  generalize ((w.alloc (.cells #[.int .i64 3, .int .i64 n, .int .i64 bb, .int .i64 cc, .string s, .string t] 44)).alloc (.cells #[.int .i64 an.e, .int .i64 an.n, .slice p1 ln p2, .slice r1 ls r2, .string an.nm, .slice t1 lc t2, .int .i64 an.pk, .int .i64 an.ix, .slice v1 lm v2] 54)) = w1 at *
  have k1 := (unhide HN1).lt
  have k2 := (unhide HN2).lt
  have s1 := (unhide HO).size
  generalize hka : w.heap.size = ka at *
  have Hka := hide hka
  clear hka
  have a0 : w1.cell? ⟨ka, 0, none⟩ = some (.int .i64 3) := (unhide HN1).cell 0
  have a1 : w1.cell? ⟨ka, 1, none⟩ = some (.int .i64 n) := (unhide HN1).cell 1
  have b0 : w1.cell? ⟨ka + 1, 0, none⟩ = some (.int .i64 an.e) := (unhide HN2).cell 0
  have C1 := xgood_any (n : Int) w1
  rw [decide_eq_true (show gdS ((n : Nat) : Int) from ⟨by omega, by omega⟩)] at C1
  have C1 := hide C1
  have n4 : (n : Int) < 4 := by omega
  go_wp2_with fail
  refine (unhide C1).mono ?_
  rintro e w2 ⟨rfl, rfl⟩
  clear C1
  rw [unhide He] at b0
  have c1 := (unhide HG).cL hn
  obtain ⟨ja, jn, jc, hlv⟩ : ∃ ja jn jc, m.lv n = .slice ja jn jc := by
    obtain ⟨a, c, h⟩ := ownsRow_shape ((unhide HG).rl n hn).own
    exact ⟨a, _, c, h⟩
  rw [hlv] at c1
  have f1 := (unhide HG).has.free (1 + n)
  have kGl := (unhide HG).has.lt
  have G2 := ((unhide HG).clear hn).quiet ((Only.refl (fun _ => False) _).drew)
  have o2 : Only (fun k => k = kG) w1 (w1.setCell ⟨kG, 1 + n, none⟩ (.slice none 0 0)) := only1 _ _
  have HG2 := hide G2
  have HO2 := hide (o2.trans ((Only.refl (fun _ => False) _).drew.mono (T := fun k => k = kG) (fun _ _ h => h.elim)) (fun _ _ h => h))
  have kne : ka ≠ kG ∧ ka + 1 ≠ kG := ⟨fun e => by have := unhide HGl kG (.inl (.inl rfl)); omega, fun e => by have := unhide HGl kG (.inl (.inl rfl)); omega⟩
  have HN3 := hide ((unhide HN1).keep (unhide HO2) kne.1)
  clear hlv G2 o2
  go_upto_region 7 with fail
  go_region
  all_goals
    generalize (w1.setCell ⟨kG, 1 + n, none⟩ (.slice none 0 0)).drew = w3 at *
    have c2 := (unhide HG2).cO hn
    have f2 := (unhide HG2).has.free (5 + n)
    have kG3 := (unhide HG2).has.lt
    have a1 : w3.cell? ⟨ka, 1, none⟩ = some (.int .i64 n) := (unhide HN3).cell 1
    have k3 := (unhide HN3).lt
    have G4 := ((unhide HG2).setO hn false).quiet ((Only.refl (fun _ => False) _).drew)
    have o4 : Only (fun k => k = kG) w3 (w3.setCell ⟨kG, 5 + n, none⟩ (.bool false)) := only1 _ _
    have oT : Only (fun k => k = kG) w1 (w3.setCell ⟨kG, 5 + n, none⟩ (.bool false)).drew := (unhide HO2).trans (o4.trans ((Only.refl (fun _ => False) _).drew.mono (T := fun k => k = kG) (fun _ _ h => h.elim)) (fun _ _ h => h)) (fun _ _ h => h)
    have FF := hide (show FoP q w g x M' K kG m am (.returned (.bool true)) (w3.setCell ⟨kG, 5 + n, none⟩ (.bool false)).drew from ⟨rfl, _, sh, G4, unhide HS2, (unhide HR).keep oT (fun k hk c => by
      have c' : k = kG := c
      have h2 := unhide HGs kG (.inl (.inl rfl))
      subst c'
      rcases hk with hk | hk | hk
      · exact h2.1 hk
      · exact h2.2.1 hk
      · exact h2.2.2 hk), fun k h => .inl (GhM.A_reset h), fun k h => .inl (GhM.T_reset h), ((unhide HO).mono (T := fun k => q.S k ∨ m.T kG k) (fun _ _ h => h.elim)).trans (oT.mono (T := fun k => q.S k ∨ m.T kG k) (fun k _ h => .inr (.inl h))) (fun _ _ h => h)⟩)
    clear G4 o4 oT
    go_upto_region 8 with fail
    go_region
    all_goals
      go_wp2_with fail
      go_ret
      exact unhide FF
end
end Go.Proofs.Qxb6500414aGreat
