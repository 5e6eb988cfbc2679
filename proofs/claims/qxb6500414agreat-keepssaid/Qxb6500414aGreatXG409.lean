/-
  OWN WORK. THE TXN LAW: Follow: an op put to the list (written by tools/gen_xg3.py).
-/
import Derived.Test.Qxb6500414aGreatXG30
namespace Go.Proofs.Qxb6500414aGreat
open Go.RowKit Go.PlainAid
set_option linter.unusedSimpArgs false
set_option linter.unusedVariables false

section
variable {q : Gnd} {w : World} {g x kG n : Nat} {M M' : Mu} {K : Nat → Prop} {m : GhM} {sh : Db} {am : AnM} {an : An} {kd a bb cc : Int} {s t : ByteArray}
set_option maxRecDepth 100000 in
set_option maxHeartbeats 4000000 in
theorem fo_p9app (R : RX q w g x M' K) (G : GhAt w kG m sh) (A : AnAt w am an) (hGs : ∀ k, m.A kG k → ¬ q.A k ∧ k ≠ x ∧ ¬ K k) (hAs : ∀ k, AnB am k → ¬ q.A k ∧ k ≠ x ∧ ¬ K k ∧ ¬ m.T kG k) (Se : SerI M m sh) (ok : MuOk M) (hn : n < 4) (he2 : an.e ≠ 2) (he21 : an.e ≠ 21) (hov : m.ov n = false) (htz : t.size ≤ maxLen) (hlen : (m.ls n).length < 64) (hs2 : ∀ v, SerI M' (m.setL n v (m.ls n ++ [⟨⟨9, n, bb, cc, s, t, an⟩, am⟩])) sh) : Calls Tryz.prog 15 #[.pointer (some ⟨kG, 0, none⟩), .pointer (some ⟨g, 0, none⟩), opX 9 n bb cc s t, .agg (anC am an)] w (FoP q w g x M' K kG m am) := by
  obtain ⟨p1, p2, hp⟩ := A.row.shape
  obtain ⟨r1, r2, hr⟩ := ownsRow_shape A.own
  obtain ⟨t1, t2, ht⟩ := A.col.shape
  obtain ⟨v1, v2, hv⟩ := ownsRow_shape A.nms
  obtain ⟨ln, hln⟩ : ∃ k, an.row.length = k := ⟨_, rfl⟩
  obtain ⟨ls, hls⟩ : ∃ k, am.Z.length = k := ⟨_, rfl⟩
  obtain ⟨lc, hlc⟩ : ∃ k, an.cols.length = k := ⟨_, rfl⟩
  obtain ⟨lm, hlm⟩ : ∃ k, an.names.length = k := ⟨_, rfl⟩
  rw [hln] at hp
  rw [hls] at hr
  rw [hlc] at ht
  rw [hlm] at hv
  have o1 : Only (fun _ => False) w ((w.alloc (.cells #[.int .i64 9, .int .i64 n, .int .i64 bb, .int .i64 cc, .string s, .string t] 44)).alloc (.cells #[.int .i64 an.e, .int .i64 an.n, .slice p1 ln p2, .slice r1 ls r2, .string an.nm, .slice t1 lc t2, .int .i64 an.pk, .int .i64 an.ix, .slice v1 lm v2] 54)) := ((Only.refl _ w).alloc _).alloc _
  have N1 : Has ((w.alloc (.cells #[.int .i64 9, .int .i64 n, .int .i64 bb, .int .i64 cc, .string s, .string t] 44)).alloc (.cells #[.int .i64 an.e, .int .i64 an.n, .slice p1 ln p2, .slice r1 ls r2, .string an.nm, .slice t1 lc t2, .int .i64 an.pk, .int .i64 an.ix, .slice v1 lm v2] 54)) w.heap.size #[.int .i64 9, .int .i64 n, .int .i64 bb, .int .i64 cc, .string s, .string t] 44 := (Has.new w _ _).alloc _
  have N2 : Has ((w.alloc (.cells #[.int .i64 9, .int .i64 n, .int .i64 bb, .int .i64 cc, .string s, .string t] 44)).alloc (.cells #[.int .i64 an.e, .int .i64 an.n, .slice p1 ln p2, .slice r1 ls r2, .string an.nm, .slice t1 lc t2, .int .i64 an.pk, .int .i64 an.ix, .slice v1 lm v2] 54)) (w.heap.size + 1) #[.int .i64 an.e, .int .i64 an.n, .slice p1 ln p2, .slice r1 ls r2, .string an.nm, .slice t1 lc t2, .int .i64 an.pk, .int .i64 an.ix, .slice v1 lm v2] 54 := Has.new' _ _ _ _ (by simp)
  have HR := hide (R.quiet o1)
  have HG := hide (G.quiet o1)
  have HA := hide (A.quiet o1)
  have HGl := hide (show ∀ k, m.A kG k → k < w.heap.size from G.lt)
  have HAl := hide (show ∀ k, AnB am k → k < w.heap.size from A.lt)
  have HQl := hide (show ∀ k, q.A k ∨ k = x ∨ K k → k < w.heap.size from fun k h => by
    rcases h with h | h | h
    · exact R.Alt.1 k h
    · rw [h]; exact R.Alt.2
    · exact (R.kA k h).2.2)
  have HGs := hide hGs
  have HAs := hide hAs
  have HSe := hide (And.intro Se ok)
  have HO := hide o1
  have HN1 := hide N1
  have HN2 := hide N2
  have Hsh := hide (And.intro (And.intro hp hr) (And.intro ht hv))
  unfold anC opX
  rw [hp, hr, ht, hv]
  have He2 := hide he2
  have He21 := hide he21
  have Hov := hide hov
  clear he2 he21 hov
  have Hlen := hide hlen
  have HS2 := hide hs2
  have Htz := hide htz
  clear hlen hs2 htz
  clear R G A hGs hAs Se ok o1 N1 N2 hp hr ht hv hln hls hlc hlm
  go_enter Tryz.func15, Tryz.ntmps15
  go_upto_region 1 with fail
  generalize ((w.alloc (.cells #[.int .i64 9, .int .i64 n, .int .i64 bb, .int .i64 cc, .string s, .string t] 44)).alloc (.cells #[.int .i64 an.e, .int .i64 an.n, .slice p1 ln p2, .slice r1 ls r2, .string an.nm, .slice t1 lc t2, .int .i64 an.pk, .int .i64 an.ix, .slice v1 lm v2] 54)) = w1 at *
  have k1 := (unhide HN1).lt
  have k2 := (unhide HN2).lt
  have s1 := (unhide HO).size
  generalize hka : w.heap.size = ka at *
  have Hka := hide hka
  clear hka
  have a0 : w1.cell? ⟨ka, 0, none⟩ = some (.int .i64 9) := (unhide HN1).cell 0
  have a1 : w1.cell? ⟨ka, 1, none⟩ = some (.int .i64 n) := (unhide HN1).cell 1
  have b0 : w1.cell? ⟨ka + 1, 0, none⟩ = some (.int .i64 an.e) := (unhide HN2).cell 0
  have C1 := xgood_any (n : Int) w1
  rw [decide_eq_true (show gdS ((n : Nat) : Int) from ⟨by omega, by omega⟩)] at C1
  have C1 := hide C1
  have n4 : (n : Int) < 4 := by omega
  go_wp2_with fail
  refine (unhide C1).mono ?_
  rintro e w2 ⟨rfl, rfl⟩
  clear C1
  have y2 : (an.e != 2) = true := by simpa using unhide He2
  have y2' : (!(an.e == 2)) = true := by simpa using unhide He2
  have y21 : (an.e != 21) = true := by simpa using unhide He21
  have y21' : (!(an.e == 21)) = true := by simpa using unhide He21
  have c1 := (unhide HG).cO hn
  rw [unhide Hov] at c1
  have kGl := (unhide HG).has.lt
  go_upto_region 36 with fail
  go_cut [165] (fun zv wx => zv = .bool true ∧ Only (fun _ => False) w1 wx)
  case first =>
    go_quiet (fail)
    go_wp2_with fail
    go_meet
    exact ⟨rfl, onlyQ _ _⟩
  case rest =>
  obtain ⟨rfl, oC⟩ := hcut
  generalize wc = w2 at *
  clear c1 y2 y2' y21 y21' kGl
  have HG := hide ((unhide HG).quiet oC)
  have HR := hide ((unhide HR).quiet oC)
  have HA := hide ((unhide HA).quiet oC)
  have HO := hide ((unhide HO).trans oC (fun _ _ h => h))
  have HN1 := hide ((unhide HN1).keep oC (fun h => h))
  have HN2 := hide ((unhide HN2).keep oC (fun h => h))
  clear oC a0 a1 b0
  have k1 := (unhide HN1).lt
  have k2 := (unhide HN2).lt
  have s1 := (unhide HO).size
  have a0 : w2.cell? ⟨ka, 0, none⟩ = some (.int .i64 9) := (unhide HN1).cell 0
  have a1 : w2.cell? ⟨ka, 1, none⟩ = some (.int .i64 n) := (unhide HN1).cell 1
  have b0 : w2.cell? ⟨ka + 1, 0, none⟩ = some (.int .i64 an.e) := (unhide HN2).cell 0
  obtain ⟨jn, hjn⟩ : ∃ k, (m.ls n).length = k := ⟨_, rfl⟩
  obtain ⟨ja, jc, hlv⟩ : ∃ ja jc, m.lv n = .slice ja jn jc := by
    obtain ⟨a, c, h⟩ := ownsRow_shape ((unhide HG).rl n hn).own
    exact ⟨a, c, by rw [← hjn]; exact h⟩
  have c1 := (unhide HG).cL hn
  rw [hlv] at c1
  have kGl := (unhide HG).has.lt
  have Hjn := hide hjn
  have Hlv := hide hlv
  have dj : decide ((jn : Int) ≥ 64) = false := decide_eq_false (by have := unhide Hlen; rw [unhide Hjn] at this; omega)
  have dj' : decide ((64 : Int) ≤ (jn : Int)) = false := decide_eq_false (by have := unhide Hlen; rw [unhide Hjn] at this; omega)
  clear hjn hlv
  go_upto_region 37 with fail
  go_cut [174] (fun zv wx => zv = .bool false ∧ Only (fun _ => False) w2 wx)
  case first =>
    go_quiet (fail)
    go_wp2_with fail
    go_meet
    exact ⟨rfl, onlyQ _ _⟩
  case rest =>
  obtain ⟨rfl, oC⟩ := hcut
  generalize wc = w3 at *
  clear c1 dj dj' kGl
  have HG := hide ((unhide HG).quiet oC)
  have HR := hide ((unhide HR).quiet oC)
  have HA := hide ((unhide HA).quiet oC)
  have HO := hide ((unhide HO).trans oC (fun _ _ h => h))
  have HN1 := hide ((unhide HN1).keep oC (fun h => h))
  have HN2 := hide ((unhide HN2).keep oC (fun h => h))
  clear oC a0 a1 b0
  have k1 := (unhide HN1).lt
  have k2 := (unhide HN2).lt
  have s1 := (unhide HO).size
  have a0 : w3.cell? ⟨ka, 0, none⟩ = some (.int .i64 9) := (unhide HN1).cell 0
  have a1 : w3.cell? ⟨ka, 1, none⟩ = some (.int .i64 n) := (unhide HN1).cell 1
  have b0 : w3.cell? ⟨ka + 1, 0, none⟩ = some (.int .i64 an.e) := (unhide HN2).cell 0
  obtain ⟨i0, hi0, hz0, hz1, hz2⟩ := info_parts Tryz.infoXLRec
  have oQ : Only (fun _ => False) w3 w3.drew := (Only.refl _ _).drew
  have G1 := ((unhide HG).quiet oQ).quiet ((Only.refl (fun _ => False) w3.drew).alloc (.cells #[.int .i64 9, .int .i64 n, .int .i64 bb, .int .i64 cc, .string s, .string t, .int .i64 an.e, .int .i64 an.n, .slice p1 ln p2, .slice r1 ls r2, .string an.nm, .slice t1 lc t2, .int .i64 an.pk, .int .i64 an.ix, .slice v1 lm v2] 132))
  have own1 : (w3.drew.alloc (.cells #[.int .i64 9, .int .i64 n, .int .i64 bb, .int .i64 cc, .string s, .string t, .int .i64 an.e, .int .i64 an.n, .slice p1 ln p2, .slice r1 ls r2, .string an.nm, .slice t1 lc t2, .int .i64 an.pk, .int .i64 an.ix, .slice v1 lm v2] 132)).ownsRow 0 132 15 (.slice ja jn jc) jn (rcs (m.ls n)) := by have := (G1.rl n hn).own; rw [unhide Hlv, unhide Hjn] at this; exact this
  have hne1 : (Value.slice ja jn jc).ownBlock ≠ some kG := fun e => (unhide HG).ne.2.1 n hn kG (by rw [unhide Hlv]; exact e) rfl
  have hne2 : (Value.slice ja jn jc).ownBlock ≠ some ka := fun e => by have := unhide HGl ka (.inl (.inr (.inr ⟨n, hn, by rw [unhide Hlv]; exact e⟩))); omega
  have hne3 : (Value.slice ja jn jc).ownBlock ≠ some (ka + 1) := fun e => by have := unhide HGl (ka + 1) (.inl (.inr (.inr ⟨n, hn, by rw [unhide Hlv]; exact e⟩))); omega
  have kne : ka ≠ kG ∧ ka + 1 ≠ kG := ⟨fun e => by have := unhide HGl kG (.inl (.inl rfl)); omega, fun e => by have := unhide HGl kG (.inl (.inl rfl)); omega⟩
  have y1 : (w3.drew.alloc (.cells #[.int .i64 9, .int .i64 n, .int .i64 bb, .int .i64 cc, .string s, .string t, .int .i64 an.e, .int .i64 an.n, .slice p1 ln p2, .slice r1 ls r2, .string an.nm, .slice t1 lc t2, .int .i64 an.pk, .int .i64 an.ix, .slice v1 lm v2] 132)).cell? ⟨kG, 1 + n, none⟩ = some (.slice ja jn jc) := by have := G1.cL hn; rw [unhide Hlv] at this; exact this
  have y1f := G1.has.free (1 + n)
  have c1 := (unhide HG).cL hn
  rw [unhide Hlv] at c1
  have kGl := (unhide HG).has.lt
  have hjl : jn < 64 := by have := unhide Hlen; rw [unhide Hjn] at this; exact this
  have l5 : jn + 1 ≤ maxLen := by unfold maxLen; omega
  have HPP : Hid (∀ (gg cap3 : Nat) (w5 : World), w5.ownsRow 0 132 15 (.slice (some ⟨gg, 0, none⟩) (jn + 1) cap3) (jn + 1) (rcs (m.ls n) ++ [.int .i64 9, .int .i64 n, .int .i64 bb, .int .i64 cc, .string s, .string t, .int .i64 an.e, .int .i64 an.n, .slice p1 ln p2, .slice r1 ls r2, .string an.nm, .slice t1 lc t2, .int .i64 an.pk, .int .i64 an.ix, .slice v1 lm v2]) → (w3.drew.alloc (.cells #[.int .i64 9, .int .i64 n, .int .i64 bb, .int .i64 cc, .string s, .string t, .int .i64 an.e, .int .i64 an.n, .slice p1 ln p2, .slice r1 ls r2, .string an.nm, .slice t1 lc t2, .int .i64 an.pk, .int .i64 an.ix, .slice v1 lm v2] 132)).grownBy w5 (Value.slice ja jn jc).ownBlock → ((Value.slice ja jn jc).ownBlock = some gg ∨ gg = w3.drew.heap.size + 1) → FoP q w g x M' K kG m am (.returned (.bool true)) (w5.setCell ⟨kG, 1 + n, none⟩ (.slice (some ⟨gg, 0, none⟩) (jn + 1) cap3))) := hide (fun gg cap3 w5 h1 h2 h3 => by
    have oB : Only (fun k => (Value.slice ja jn jc).ownBlock = some k) w3 w5 := (((Only.refl (fun k => (Value.slice ja jn jc).ownBlock = some k) w3).drew).alloc _).grown h2 (fun k hk _ => hk)
    have sd : w3.drew.heap.size = w3.heap.size := rfl
    refine ⟨rfl, fo_app (unhide HG) (unhide HA) (unhide HR) hn (unhide HGs) (unhide HAs) oB (by rw [unhide Hlv]) (v := .slice (some ⟨gg, 0, none⟩) (jn + 1) cap3) ⟨⟨9, n, bb, cc, s, t, an⟩, am⟩ rfl (unhide Htz) (unhide Hlen) ?_ ?_ (unhide HS2 _) (unhide HO)⟩
    · rw [unhide Hjn, rcs_app]
      obtain ⟨⟨q1, q2⟩, q3, q4⟩ := unhide Hsh
      show w5.ownsRow 0 132 15 _ _ (rcs (m.ls n) ++ (rmC ⟨⟨9, n, bb, cc, s, t, an⟩, am⟩ ++ []))
      unfold rmC
      rw [q1, q2, q3, q4]
      exact h1
    · intro k hk
      simp [Value.ownBlock] at hk
      rcases h3 with c | c
      · exact .inl (by rw [unhide Hlv, c, hk])
      · exact .inr (by omega))
  clear a0 a1 b0 G1 oQ
  have x0 : w3.cell? ⟨ka, 0, none⟩ = some (.int .i64 9) := (unhide HN1).cell 0
  have x1 : w3.cell? ⟨ka, 1, none⟩ = some (.int .i64 n) := (unhide HN1).cell 1
  have x2 : w3.cell? ⟨ka, 2, none⟩ = some (.int .i64 bb) := (unhide HN1).cell 2
  have x3 : w3.cell? ⟨ka, 3, none⟩ = some (.int .i64 cc) := (unhide HN1).cell 3
  have x4 : w3.cell? ⟨ka, 4, none⟩ = some (.string s) := (unhide HN1).cell 4
  have x5 : w3.cell? ⟨ka, 5, none⟩ = some (.string t) := (unhide HN1).cell 5
  have z0 : w3.cell? ⟨ka + 1, 0, none⟩ = some (.int .i64 an.e) := (unhide HN2).cell 0
  have z1 : w3.cell? ⟨ka + 1, 1, none⟩ = some (.int .i64 an.n) := (unhide HN2).cell 1
  have z2 : w3.cell? ⟨ka + 1, 2, none⟩ = some (.slice p1 ln p2) := (unhide HN2).cell 2
  have z3 : w3.cell? ⟨ka + 1, 3, none⟩ = some (.slice r1 ls r2) := (unhide HN2).cell 3
  have z4 : w3.cell? ⟨ka + 1, 4, none⟩ = some (.string an.nm) := (unhide HN2).cell 4
  have z5 : w3.cell? ⟨ka + 1, 5, none⟩ = some (.slice t1 lc t2) := (unhide HN2).cell 5
  have z6 : w3.cell? ⟨ka + 1, 6, none⟩ = some (.int .i64 an.pk) := (unhide HN2).cell 6
  have z7 : w3.cell? ⟨ka + 1, 7, none⟩ = some (.int .i64 an.ix) := (unhide HN2).cell 7
  have z8 : w3.cell? ⟨ka + 1, 8, none⟩ = some (.slice v1 lm v2) := (unhide HN2).cell 8
  go_upto_region 40 with fail
  refine wp_region_held_drew (S := (fun w' => w'.cell? ⟨ka, 0, none⟩ = some (.int .i64 9) ∧ w'.cell? ⟨ka, 1, none⟩ = some (.int .i64 n) ∧ w'.cell? ⟨ka, 2, none⟩ = some (.int .i64 bb) ∧ w'.cell? ⟨ka, 3, none⟩ = some (.int .i64 cc) ∧ w'.cell? ⟨ka, 4, none⟩ = some (.string s) ∧ w'.cell? ⟨ka, 5, none⟩ = some (.string t) ∧ w'.cell? ⟨ka + 1, 0, none⟩ = some (.int .i64 an.e) ∧ w'.cell? ⟨ka + 1, 1, none⟩ = some (.int .i64 an.n) ∧ w'.cell? ⟨ka + 1, 2, none⟩ = some (.slice p1 ln p2) ∧ w'.cell? ⟨ka + 1, 3, none⟩ = some (.slice r1 ls r2) ∧ w'.cell? ⟨ka + 1, 4, none⟩ = some (.string an.nm) ∧ w'.cell? ⟨ka + 1, 5, none⟩ = some (.slice t1 lc t2) ∧ w'.cell? ⟨ka + 1, 6, none⟩ = some (.int .i64 an.pk) ∧ w'.cell? ⟨ka + 1, 7, none⟩ = some (.int .i64 an.ix) ∧ w'.cell? ⟨ka + 1, 8, none⟩ = some (.slice v1 lm v2))) (by kernel_rfl) ⟨x0, x1, x2, x3, x4, x5, z0, z1, z2, z3, z4, z5, z6, z7, z8⟩ (fun hH0 => ?_)
  refine takeH 0 187 (v := ?v0) rfl rfl (by kernel_rfl) (by kernel_rfl) (by kernel_rfl) (fun _ _ _ h => h) (Or.inl ⟨by rfl, ?h0⟩) hH0 ?r0
  case h0 => (intro w hSw; clear hSw; go_simp; (try with_reducible rfl))
  case r0 =>
  try simp only [Act.put, List.setIfInBounds_toArray, List.set_cons_zero, List.set_cons_succ]
  refine takeH 1 188 (v := ?v1) rfl rfl (by kernel_rfl) (by kernel_rfl) (by kernel_rfl) (fun _ _ _ h => h) (Or.inl ⟨by rfl, ?h1⟩) hH0 ?r1
  case h1 => (intro w hSw; clear hSw; go_simp; (try with_reducible rfl))
  case r1 =>
  try simp only [Act.put, List.setIfInBounds_toArray, List.set_cons_zero, List.set_cons_succ]
  refine takeH 2 189 (v := ?v2) rfl rfl (by kernel_rfl) (by kernel_rfl) (by kernel_rfl) (fun _ _ _ h => h) (Or.inl ⟨by rfl, ?h2⟩) hH0 ?r2
  case h2 => (intro w hSw; obtain ⟨s0, s1, s2, s3, s4, s5, s6, s7, s8, s9, s10, s11, s12, s13, s14⟩ := hSw; go_simp; (try with_reducible rfl))
  case r2 =>
  try simp only [Act.put, List.setIfInBounds_toArray, List.set_cons_zero, List.set_cons_succ]
  refine takeH 3 190 (v := ?v3) rfl rfl (by kernel_rfl) (by kernel_rfl) (by kernel_rfl) (fun _ _ _ h => h) (Or.inl ⟨by rfl, ?h3⟩) hH0 ?r3
  case h3 => (intro w hSw; clear hSw; go_simp; (try with_reducible rfl))
  case r3 =>
  try simp only [Act.put, List.setIfInBounds_toArray, List.set_cons_zero, List.set_cons_succ]
  refine takeH 4 191 (v := ?v4) rfl rfl (by kernel_rfl) (by kernel_rfl) (by kernel_rfl) (fun _ _ _ h => h) (Or.inl ⟨by rfl, ?h4⟩) hH0 ?r4
  case h4 => (intro w hSw; clear hSw; go_simp; (try with_reducible rfl))
  case r4 =>
  try simp only [Act.put, List.setIfInBounds_toArray, List.set_cons_zero, List.set_cons_succ]
  refine takeH 5 192 (v := ?v5) rfl rfl (by kernel_rfl) (by kernel_rfl) (by kernel_rfl) (fun _ _ _ h => h) (Or.inl ⟨by rfl, ?h5⟩) hH0 ?r5
  case h5 => (intro w hSw; obtain ⟨s0, s1, s2, s3, s4, s5, s6, s7, s8, s9, s10, s11, s12, s13, s14⟩ := hSw; go_simp; (try with_reducible rfl))
  case r5 =>
  try simp only [Act.put, List.setIfInBounds_toArray, List.set_cons_zero, List.set_cons_succ]
  refine takeH 6 193 (v := ?v6) rfl rfl (by kernel_rfl) (by kernel_rfl) (by kernel_rfl) (fun _ _ _ h => h) (Or.inl ⟨by rfl, ?h6⟩) hH0 ?r6
  case h6 => (intro w hSw; clear hSw; go_simp; (try with_reducible rfl))
  case r6 =>
  try simp only [Act.put, List.setIfInBounds_toArray, List.set_cons_zero, List.set_cons_succ]
  refine takeH 7 194 (v := ?v7) rfl rfl (by kernel_rfl) (by kernel_rfl) (by kernel_rfl) (fun _ _ _ h => h) (Or.inl ⟨by rfl, ?h7⟩) hH0 ?r7
  case h7 => (intro w hSw; clear hSw; go_simp; (try with_reducible rfl))
  case r7 =>
  try simp only [Act.put, List.setIfInBounds_toArray, List.set_cons_zero, List.set_cons_succ]
  refine takeH 8 195 (v := ?v8) rfl rfl (by kernel_rfl) (by kernel_rfl) (by kernel_rfl) (fun _ _ _ h => h) (Or.inl ⟨by rfl, ?h8⟩) hH0 ?r8
  case h8 => (intro w hSw; clear hSw; go_simp; (try with_reducible rfl))
  case r8 =>
  try simp only [Act.put, List.setIfInBounds_toArray, List.set_cons_zero, List.set_cons_succ]
  refine takeH 10 197 (v := ?v10) rfl rfl (by kernel_rfl) (by kernel_rfl) (by kernel_rfl) (fun _ _ _ h => h) (Or.inl ⟨by rfl, ?h10⟩) hH0 ?r10
  case h10 => (intro w hSw; obtain ⟨s0, s1, s2, s3, s4, s5, s6, s7, s8, s9, s10, s11, s12, s13, s14⟩ := hSw; go_simp; (try with_reducible rfl))
  case r10 =>
  try simp only [Act.put, List.setIfInBounds_toArray, List.set_cons_zero, List.set_cons_succ]
  refine takeH 11 198 (v := ?v11) rfl rfl (by kernel_rfl) (by kernel_rfl) (by kernel_rfl) (fun _ _ _ h => h) (Or.inl ⟨by rfl, ?h11⟩) hH0 ?r11
  case h11 => (intro w hSw; obtain ⟨s0, s1, s2, s3, s4, s5, s6, s7, s8, s9, s10, s11, s12, s13, s14⟩ := hSw; go_simp; (try with_reducible rfl))
  case r11 =>
  try simp only [Act.put, List.setIfInBounds_toArray, List.set_cons_zero, List.set_cons_succ]
  refine takeH 12 199 (v := ?v12) rfl rfl (by kernel_rfl) (by kernel_rfl) (by kernel_rfl) (fun _ _ _ h => h) (Or.inl ⟨by rfl, ?h12⟩) hH0 ?r12
  case h12 => (intro w hSw; clear hSw; go_simp; (try with_reducible rfl))
  case r12 =>
  try simp only [Act.put, List.setIfInBounds_toArray, List.set_cons_zero, List.set_cons_succ]
  refine takeH 15 202 (v := ?v15) rfl rfl (by kernel_rfl) (by kernel_rfl) (by kernel_rfl) (fun _ _ _ h => h) (Or.inl ⟨by rfl, ?h15⟩) hH0 ?r15
  case h15 => (intro w hSw; clear hSw; go_simp; (try with_reducible rfl))
  case r15 =>
  try simp only [Act.put, List.setIfInBounds_toArray, List.set_cons_zero, List.set_cons_succ]
  refine takeH 16 203 (v := ?v16) rfl rfl (by kernel_rfl) (by kernel_rfl) (by kernel_rfl) (fun _ _ _ h => h) (Or.inl ⟨by rfl, ?h16⟩) hH0 ?r16
  case h16 => (intro w hSw; clear hSw; go_simp; (try with_reducible rfl))
  case r16 =>
  try simp only [Act.put, List.setIfInBounds_toArray, List.set_cons_zero, List.set_cons_succ]
  have HSk : ∀ {B : Nat → Prop} {wp wq : World}, Only B wp wq → ¬ B ka → ¬ B (ka + 1) → (wp.cell? ⟨ka, 0, none⟩ = some (.int .i64 9) ∧ wp.cell? ⟨ka, 1, none⟩ = some (.int .i64 n) ∧ wp.cell? ⟨ka, 2, none⟩ = some (.int .i64 bb) ∧ wp.cell? ⟨ka, 3, none⟩ = some (.int .i64 cc) ∧ wp.cell? ⟨ka, 4, none⟩ = some (.string s) ∧ wp.cell? ⟨ka, 5, none⟩ = some (.string t) ∧ wp.cell? ⟨ka + 1, 0, none⟩ = some (.int .i64 an.e) ∧ wp.cell? ⟨ka + 1, 1, none⟩ = some (.int .i64 an.n) ∧ wp.cell? ⟨ka + 1, 2, none⟩ = some (.slice p1 ln p2) ∧ wp.cell? ⟨ka + 1, 3, none⟩ = some (.slice r1 ls r2) ∧ wp.cell? ⟨ka + 1, 4, none⟩ = some (.string an.nm) ∧ wp.cell? ⟨ka + 1, 5, none⟩ = some (.slice t1 lc t2) ∧ wp.cell? ⟨ka + 1, 6, none⟩ = some (.int .i64 an.pk) ∧ wp.cell? ⟨ka + 1, 7, none⟩ = some (.int .i64 an.ix) ∧ wp.cell? ⟨ka + 1, 8, none⟩ = some (.slice v1 lm v2)) → (wq.cell? ⟨ka, 0, none⟩ = some (.int .i64 9) ∧ wq.cell? ⟨ka, 1, none⟩ = some (.int .i64 n) ∧ wq.cell? ⟨ka, 2, none⟩ = some (.int .i64 bb) ∧ wq.cell? ⟨ka, 3, none⟩ = some (.int .i64 cc) ∧ wq.cell? ⟨ka, 4, none⟩ = some (.string s) ∧ wq.cell? ⟨ka, 5, none⟩ = some (.string t) ∧ wq.cell? ⟨ka + 1, 0, none⟩ = some (.int .i64 an.e) ∧ wq.cell? ⟨ka + 1, 1, none⟩ = some (.int .i64 an.n) ∧ wq.cell? ⟨ka + 1, 2, none⟩ = some (.slice p1 ln p2) ∧ wq.cell? ⟨ka + 1, 3, none⟩ = some (.slice r1 ls r2) ∧ wq.cell? ⟨ka + 1, 4, none⟩ = some (.string an.nm) ∧ wq.cell? ⟨ka + 1, 5, none⟩ = some (.slice t1 lc t2) ∧ wq.cell? ⟨ka + 1, 6, none⟩ = some (.int .i64 an.pk) ∧ wq.cell? ⟨ka + 1, 7, none⟩ = some (.int .i64 an.ix) ∧ wq.cell? ⟨ka + 1, 8, none⟩ = some (.slice v1 lm v2)) := by
    rintro B wp wq oo hb1 hb2 ⟨s0, s1, s2, s3, s4, s5, s6, s7, s8, s9, s10, s11, s12, s13, s14⟩
    exact ⟨cell_keepX s0 oo hb1, cell_keepX s1 oo hb1, cell_keepX s2 oo hb1, cell_keepX s3 oo hb1, cell_keepX s4 oo hb1, cell_keepX s5 oo hb1, cell_keepX s6 oo hb2, cell_keepX s7 oo hb2, cell_keepX s8 oo hb2, cell_keepX s9 oo hb2, cell_keepX s10 oo hb2, cell_keepX s11 oo hb2, cell_keepX s12 oo hb2, cell_keepX s13 oo hb2, cell_keepX s14 oo hb2⟩
  have oAl : Only (fun _ => False) w3.drew (w3.drew.alloc (.cells #[.int .i64 9, .int .i64 n, .int .i64 bb, .int .i64 cc, .string s, .string t, .int .i64 an.e, .int .i64 an.n, .slice p1 ln p2, .slice r1 ls r2, .string an.nm, .slice t1 lc t2, .int .i64 an.pk, .int .i64 an.ix, .slice v1 lm v2] 132)) := (Only.refl _ _).alloc _
  have S1 := HSk oAl (fun h => h) (fun h => h) hH0
  refine pairH 9 13 (by kernel_rfl) rfl rfl 196 200 rfl rfl rfl rfl (v := .slice ja jn jc) (w1 := w3.drew) (u := .slice (some ⟨w3.drew.heap.size, 0, none⟩) 1 1) (w2 := (w3.drew.alloc (.cells #[.int .i64 9, .int .i64 n, .int .i64 bb, .int .i64 cc, .string s, .string t, .int .i64 an.e, .int .i64 an.n, .slice p1 ln p2, .slice r1 ls r2, .string an.nm, .slice t1 lc t2, .int .i64 an.pk, .int .i64 an.ix, .slice v1 lm v2] 132))) ?pe1 ?pe2 ?pk1 ?pk2
  case pe1 => (go_simp; (try with_reducible rfl))
  case pe2 => (go_simp; (try with_reducible rfl))
  case pk1 =>
    refine ⟨hH0, ?_⟩
    try simp only [Act.put, List.setIfInBounds_toArray, List.set_cons_zero, List.set_cons_succ]
    refine oneH 13 (by kernel_rfl) rfl 200 rfl rfl (v := .slice (some ⟨w3.drew.heap.size, 0, none⟩) 1 1) (w1 := (w3.drew.alloc (.cells #[.int .i64 9, .int .i64 n, .int .i64 bb, .int .i64 cc, .string s, .string t, .int .i64 an.e, .int .i64 an.n, .slice p1 ln p2, .slice r1 ls r2, .string an.nm, .slice t1 lc t2, .int .i64 an.pk, .int .i64 an.ix, .slice v1 lm v2] 132))) ?oe1 ?ok1
    case oe1 => (go_simp; (try with_reducible rfl))
    case ok1 =>
    refine ⟨S1, ?_⟩
    try simp only [Act.put, List.setIfInBounds_toArray, List.set_cons_zero, List.set_cons_succ]
    refine appH 14 (by kernel_rfl) rfl 201 rfl rfl _ _ _ rfl 0 132 i0 _ 15 208 Tryz.underlying38 hi0 hz0 hz1 hz2 rfl (by omega) (.slice ja jn jc) jn (rcs (m.ls n)) rfl own1 ⟨w3.drew.heap.size, 0, none⟩ 1 1 [.int .i64 9, .int .i64 n, .int .i64 bb, .int .i64 cc, .string s, .string t, .int .i64 an.e, .int .i64 an.n, .slice p1 ln p2, .slice r1 ls r2, .string an.nm, .slice t1 lc t2, .int .i64 an.pk, .int .i64 an.ix, .slice v1 lm v2] rfl rfl (World.news_of_block (cs := #[.int .i64 9, .int .i64 n, .int .i64 bb, .int .i64 cc, .string s, .string t, .int .i64 an.e, .int .i64 an.n, .slice p1 ln p2, .slice r1 ls r2, .string an.nm, .slice t1 lc t2, .int .i64 an.pk, .int .i64 an.ix, .slice v1 lm v2]) (t := 132) (fr := (0, 0)) (heap_alloc_new w3.drew _)) (by simp [Value.oneCell']) (by omega) l5 (by omega) (by simp) (w3.drew.heap.size + 1) (by simp) ?ap1
    case ap1 =>
    intro gg cap3 w5 hown1 hgrow hat hlt3
    have oG : Only (fun k => (Value.slice ja jn jc).ownBlock = some k) (w3.drew.alloc (.cells #[.int .i64 9, .int .i64 n, .int .i64 bb, .int .i64 cc, .string s, .string t, .int .i64 an.e, .int .i64 an.n, .slice p1 ln p2, .slice r1 ls r2, .string an.nm, .slice t1 lc t2, .int .i64 an.pk, .int .i64 an.ix, .slice v1 lm v2] 132)) w5 := (Only.refl _ _).grown hgrow (fun k hk _ => hk)
    have S5 := HSk oG hne2 hne3 S1
    have y3 := (hgrow.cell_far ⟨kG, 1 + n, none⟩ (by simp; omega) (Ne.symm hne1)).trans y1
    have yz := (hgrow.frozen_far ⟨kG, 1 + n, none⟩ (by simp; omega) (Ne.symm hne1)).trans y1f
    have HP := hide (unhide HPP gg cap3 w5 hown1 hgrow hat)
    refine ⟨S5, ?_⟩
    try simp only [Act.put, List.setIfInBounds_toArray, List.set_cons_zero, List.set_cons_succ]
    refine takeH 17 204 (v := ?v171) rfl rfl (by kernel_rfl) (by kernel_rfl) (by kernel_rfl) (fun _ _ _ h => h) (Or.inl ⟨by rfl, ?h171⟩) S5 ?r171
    case h171 => (intro w hSw; clear hSw; go_simp; (try with_reducible rfl))
    case r171 =>
    try simp only [Act.put, List.setIfInBounds_toArray, List.set_cons_zero, List.set_cons_succ]
    refine storeH_cell 18 (by kernel_rfl) rfl rfl rfl 38 _ _ rfl ⟨kG, 1 + n, none⟩ (.slice (some ⟨gg, 0, none⟩) (jn + 1) cap3) rfl rfl (run_store_recs y3 yz _ _ _) (HSk (only1 _ _) kne.1 kne.2 S5) ?_
    try simp only [Act.put, List.setIfInBounds_toArray, List.set_cons_zero, List.set_cons_succ]
    refine wpAnyH_done (by kernel_rfl) ?_ _
    clear hown1 hgrow hat y3 yz hlt3 oG S5
    go_wp2_with fail
    go_ret
    exact unhide HP
  case pk2 =>
    refine ⟨S1, ?_⟩
    try simp only [Act.put, List.setIfInBounds_toArray, List.set_cons_zero, List.set_cons_succ]
    refine oneH 9 (by kernel_rfl) rfl 196 rfl rfl (v := .slice ja jn jc) (w1 := (w3.drew.alloc (.cells #[.int .i64 9, .int .i64 n, .int .i64 bb, .int .i64 cc, .string s, .string t, .int .i64 an.e, .int .i64 an.n, .slice p1 ln p2, .slice r1 ls r2, .string an.nm, .slice t1 lc t2, .int .i64 an.pk, .int .i64 an.ix, .slice v1 lm v2] 132))) ?oe2 ?ok2
    case oe2 => (go_simp; (try with_reducible rfl))
    case ok2 =>
    refine ⟨S1, ?_⟩
    try simp only [Act.put, List.setIfInBounds_toArray, List.set_cons_zero, List.set_cons_succ]
    refine appH 14 (by kernel_rfl) rfl 201 rfl rfl _ _ _ rfl 0 132 i0 _ 15 208 Tryz.underlying38 hi0 hz0 hz1 hz2 rfl (by omega) (.slice ja jn jc) jn (rcs (m.ls n)) rfl own1 ⟨w3.drew.heap.size, 0, none⟩ 1 1 [.int .i64 9, .int .i64 n, .int .i64 bb, .int .i64 cc, .string s, .string t, .int .i64 an.e, .int .i64 an.n, .slice p1 ln p2, .slice r1 ls r2, .string an.nm, .slice t1 lc t2, .int .i64 an.pk, .int .i64 an.ix, .slice v1 lm v2] rfl rfl (World.news_of_block (cs := #[.int .i64 9, .int .i64 n, .int .i64 bb, .int .i64 cc, .string s, .string t, .int .i64 an.e, .int .i64 an.n, .slice p1 ln p2, .slice r1 ls r2, .string an.nm, .slice t1 lc t2, .int .i64 an.pk, .int .i64 an.ix, .slice v1 lm v2]) (t := 132) (fr := (0, 0)) (heap_alloc_new w3.drew _)) (by simp [Value.oneCell']) (by omega) l5 (by omega) (by simp) (w3.drew.heap.size + 1) (by simp) ?ap2
    case ap2 =>
    intro gg cap3 w5 hown1 hgrow hat hlt3
    have oG : Only (fun k => (Value.slice ja jn jc).ownBlock = some k) (w3.drew.alloc (.cells #[.int .i64 9, .int .i64 n, .int .i64 bb, .int .i64 cc, .string s, .string t, .int .i64 an.e, .int .i64 an.n, .slice p1 ln p2, .slice r1 ls r2, .string an.nm, .slice t1 lc t2, .int .i64 an.pk, .int .i64 an.ix, .slice v1 lm v2] 132)) w5 := (Only.refl _ _).grown hgrow (fun k hk _ => hk)
    have S5 := HSk oG hne2 hne3 S1
    have y3 := (hgrow.cell_far ⟨kG, 1 + n, none⟩ (by simp; omega) (Ne.symm hne1)).trans y1
    have yz := (hgrow.frozen_far ⟨kG, 1 + n, none⟩ (by simp; omega) (Ne.symm hne1)).trans y1f
    have HP := hide (unhide HPP gg cap3 w5 hown1 hgrow hat)
    refine ⟨S5, ?_⟩
    try simp only [Act.put, List.setIfInBounds_toArray, List.set_cons_zero, List.set_cons_succ]
    refine takeH 17 204 (v := ?v172) rfl rfl (by kernel_rfl) (by kernel_rfl) (by kernel_rfl) (fun _ _ _ h => h) (Or.inl ⟨by rfl, ?h172⟩) S5 ?r172
    case h172 => (intro w hSw; clear hSw; go_simp; (try with_reducible rfl))
    case r172 =>
    try simp only [Act.put, List.setIfInBounds_toArray, List.set_cons_zero, List.set_cons_succ]
    refine storeH_cell 18 (by kernel_rfl) rfl rfl rfl 38 _ _ rfl ⟨kG, 1 + n, none⟩ (.slice (some ⟨gg, 0, none⟩) (jn + 1) cap3) rfl rfl (run_store_recs y3 yz _ _ _) (HSk (only1 _ _) kne.1 kne.2 S5) ?_
    try simp only [Act.put, List.setIfInBounds_toArray, List.set_cons_zero, List.set_cons_succ]
    refine wpAnyH_done (by kernel_rfl) ?_ _
    clear hown1 hgrow hat y3 yz hlt3 oG S5
    go_wp2_with fail
    go_ret
    exact unhide HP
end
end Go.Proofs.Qxb6500414aGreat
