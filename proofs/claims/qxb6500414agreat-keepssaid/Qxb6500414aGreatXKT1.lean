/-
  OWN WORK. TXN, Keeps: Step, kind 1 (written by tools/gen_xkt.py).
-/
import Derived.Test.Qxb6500414aGreatXKT0
namespace Go.Proofs.Qxb6500414aGreat
open Go.RowKit Go.PlainAid
set_option linter.unusedSimpArgs false
set_option linter.unusedVariables false
section
variable {lo : Nat} {w w' : World} {k k2 : Nat} {M N : Mu} {s t : Nat} {T : Tb} {am : AnM} {an : An} {a : Int}
set_option maxRecDepth 100000 in
set_option maxHeartbeats 4000000 in
theorem xlstep_1 (H : Sht lo w k M) (H2 : Sht lo w k2 N) {lo3 : Nat} (H3 : Sht lo3 w k2 N) (hB : MuB M) (hB2 : MuB N) (A : AnAt w am an) (ob oc : Int) (os ot : ByteArray) (ht : ot.size ≤ maxLen) (ok : MuOk M) (okN : MuOk N) (kM : MuK M) (kN : MuK N) (gM : MuG M) (gN : MuG N) (hne : k ≠ k2) (hop : MuOp M a ob oc os ot 1 N an) : Calls Tryz.prog 22 #[.pointer (some ⟨k, 0, none⟩), .pointer (some ⟨k2, 0, none⟩), opX 1 a ob oc os ot, .agg (anC am an)] w (StpP lo3 w k2 N) := by
  obtain ⟨p1, p2, hp⟩ := A.row.shape
  obtain ⟨r1, r2, hr⟩ := ownsRow_shape A.own
  obtain ⟨t1, t2, ht'⟩ := A.col.shape
  obtain ⟨v1, v2, hv⟩ := ownsRow_shape A.nms
  obtain ⟨ln, hln⟩ : ∃ k, an.row.length = k := ⟨_, rfl⟩
  obtain ⟨ls, hls⟩ : ∃ k, am.Z.length = k := ⟨_, rfl⟩
  obtain ⟨lc, hlc⟩ : ∃ k, an.cols.length = k := ⟨_, rfl⟩
  obtain ⟨lm, hlm⟩ : ∃ k, an.names.length = k := ⟨_, rfl⟩
  rw [hln] at hp
  rw [hls] at hr
  rw [hlc] at ht'
  rw [hlm] at hv
  have o1 : Only (fun _ => False) w ((w.alloc (.cells #[.int .i64 1, .int .i64 a, .int .i64 ob, .int .i64 oc, .string os, .string ot] 44)).alloc (.cells #[.int .i64 an.e, .int .i64 an.n, .slice p1 ln p2, .slice r1 ls r2, .string an.nm, .slice t1 lc t2, .int .i64 an.pk, .int .i64 an.ix, .slice v1 lm v2] 54)) := ((Only.refl _ w).alloc _).alloc _
  have N1 : Has ((w.alloc (.cells #[.int .i64 1, .int .i64 a, .int .i64 ob, .int .i64 oc, .string os, .string ot] 44)).alloc (.cells #[.int .i64 an.e, .int .i64 an.n, .slice p1 ln p2, .slice r1 ls r2, .string an.nm, .slice t1 lc t2, .int .i64 an.pk, .int .i64 an.ix, .slice v1 lm v2] 54)) w.heap.size #[.int .i64 1, .int .i64 a, .int .i64 ob, .int .i64 oc, .string os, .string ot] 44 := (Has.new w _ _).alloc _
  have N2 : Has ((w.alloc (.cells #[.int .i64 1, .int .i64 a, .int .i64 ob, .int .i64 oc, .string os, .string ot] 44)).alloc (.cells #[.int .i64 an.e, .int .i64 an.n, .slice p1 ln p2, .slice r1 ls r2, .string an.nm, .slice t1 lc t2, .int .i64 an.pk, .int .i64 an.ix, .slice v1 lm v2] 54)) (w.heap.size + 1) #[.int .i64 an.e, .int .i64 an.n, .slice p1 ln p2, .slice r1 ls r2, .string an.nm, .slice t1 lc t2, .int .i64 an.pk, .int .i64 an.ix, .slice v1 lm v2] 54 := Has.new' _ _ _ _ (by simp)
  obtain ⟨n, hn⟩ : ∃ n, M.com.length = n := ⟨_, rfl⟩
  have hl := hB.len
  rw [hn] at hl
  have HH := hide (And.intro (H.quiet o1) (And.intro (H2.quiet o1) (And.intro o1 (And.intro ht hn))))
  have HB := hide (And.intro hB hB2)
  have HAn := hide (A.quiet o1)
  have HRS := hide (And.intro hp hln)
  have HN1 := hide N1
  have HN2 := hide N2
  have HS := hide (And.intro ok (And.intro okN hop))
  have HN2' := hide H3
  unfold anC opX
  rw [hp, hr, ht', hv]
  clear H H2 hB hB2 A ht o1 N1 N2 hp hr ht' hv hln hls hlc hlm hn ok okN kM kN gM gN hop H3
  go_enter Tryz.func22, Tryz.ntmps22
  go_upto_region 1 with fail
  generalize ((w.alloc (.cells #[.int .i64 1, .int .i64 a, .int .i64 ob, .int .i64 oc, .string os, .string ot] 44)).alloc (.cells #[.int .i64 an.e, .int .i64 an.n, .slice p1 ln p2, .slice r1 ls r2, .string an.nm, .slice t1 lc t2, .int .i64 an.pk, .int .i64 an.ix, .slice v1 lm v2] 54)) = w1 at *
  have k1 := (unhide HN1).lt
  have k2' := (unhide HN2).lt
  generalize hka : w.heap.size = ka at *
  clear hka
  have HA := hide (unhide HN1)
  have HA2 := hide (unhide HN2)
  have a0 : w1.cell? ⟨ka, 0, none⟩ = some (.int .i64 1) := (unhide HA).cell 0
  have a1 : w1.cell? ⟨ka, 1, none⟩ = some (.int .i64 a) := (unhide HA).cell 1
  have a2 : w1.cell? ⟨ka, 2, none⟩ = some (.int .i64 ob) := (unhide HA).cell 2
  have a3 : w1.cell? ⟨ka, 3, none⟩ = some (.int .i64 oc) := (unhide HA).cell 3
  have a4 : w1.cell? ⟨ka, 4, none⟩ = some (.string os) := (unhide HA).cell 4
  have a5 : w1.cell? ⟨ka, 5, none⟩ = some (.string ot) := (unhide HA).cell 5
  have b0 : w1.cell? ⟨ka + 1, 0, none⟩ = some (.int .i64 an.e) := (unhide HN2).cell 0
  have kl := (unhide HH).1.lt
  obtain ⟨hdue, hcs⟩ := (unhide HS).2.2.st1 rfl
  have oD : Only (fun _ => False) w1 w1.drew := (Only.refl _ w1).drew
  have CD := xldueBracket_any ((unhide HH).1.quiet oD) 1 a ob oc os ot
  unfold opX at CD
  rw [← hdue] at CD
  have CD := hide CD
  have HC := hide hcs
  clear hdue hcs oD
  go_upto_region 9 with fail
  refine wp_region_held_drew (S := (fun w' => w'.cell? ⟨ka + 1, 0, none⟩ = some (.int .i64 an.e) ∧ w'.cell? ⟨ka, 0, none⟩ = some (.int .i64 1) ∧ w'.cell? ⟨ka, 1, none⟩ = some (.int .i64 a) ∧ w'.cell? ⟨ka, 2, none⟩ = some (.int .i64 ob) ∧ w'.cell? ⟨ka, 3, none⟩ = some (.int .i64 oc) ∧ w'.cell? ⟨ka, 4, none⟩ = some (.string os) ∧ w'.cell? ⟨ka, 5, none⟩ = some (.string ot))) (by kernel_rfl) ⟨b0, a0, a1, a2, a3, a4, a5⟩ (fun hH0 => ?_)
  refine takeH 0 36 (v := ?vn1) rfl rfl (by kernel_rfl) (by kernel_rfl) (by kernel_rfl) (fun _ _ _ h => h) (Or.inl ⟨by rfl, ?hn1⟩) hH0 ?rn1
  case hn1 => (intro w hSw; clear hSw; go_simp; (try with_reducible rfl))
  case rn1 =>
  try simp only [Act.put, List.setIfInBounds_toArray, List.set_cons_zero, List.set_cons_succ]
  refine takeH 1 37 (v := ?vn2) rfl rfl (by kernel_rfl) (by kernel_rfl) (by kernel_rfl) (fun _ _ _ h => h) (Or.inl ⟨by rfl, ?hn2⟩) hH0 ?rn2
  case hn2 => (intro w hSw; obtain ⟨s0, s1, s2, s3, s4, s5, s6⟩ := hSw; go_simp; (try with_reducible rfl))
  case rn2 =>
  try simp only [Act.put, List.setIfInBounds_toArray, List.set_cons_zero, List.set_cons_succ]
  refine takeH 2 38 (v := ?vn3) rfl rfl (by kernel_rfl) (by kernel_rfl) (by kernel_rfl) (fun _ _ _ h => h) (Or.inl ⟨by rfl, ?hn3⟩) hH0 ?rn3
  case hn3 => (intro w hSw; clear hSw; go_simp; (try with_reducible rfl))
  case rn3 =>
  try simp only [Act.put, List.setIfInBounds_toArray, List.set_cons_zero, List.set_cons_succ]
  refine takeH 3 39 (v := ?vn4) rfl rfl (by kernel_rfl) (by kernel_rfl) (by kernel_rfl) (fun _ _ _ h => h) (Or.inl ⟨by rfl, ?hn4⟩) hH0 ?rn4
  case hn4 => (intro w hSw; obtain ⟨s0, s1, s2, s3, s4, s5, s6⟩ := hSw; go_simp; (try with_reducible rfl))
  case rn4 =>
  try simp only [Act.put, List.setIfInBounds_toArray, List.set_cons_zero, List.set_cons_succ]
  refine callH 4 (by kernel_rfl) rfl 40 rfl rfl 82 Tryz.func82 (by kernel_rfl) (by kernel_rfl) #[.tmp 38, .tmp 39] #[60, 44] rfl #[.pointer (some ⟨k, 0, none⟩), .agg #[.int .i64 1, .int .i64 a, .int .i64 ob, .int .i64 oc, .string os, .string ot]] (by simp [Act.eval]) (R := fun v w' => v = .int .i64 an.e ∧ Only (fun _ => False) w1.drew w') ((unhide CD).mono (by rintro en w' ⟨rfl, o⟩; exact ⟨_, rfl, rfl, o⟩)) ?kn
  case kn =>
  rintro _ w6 ⟨rfl, o6⟩
  have S6 : w6.cell? ⟨ka + 1, 0, none⟩ = some (.int .i64 an.e) ∧ w6.cell? ⟨ka, 0, none⟩ = some (.int .i64 1) ∧ w6.cell? ⟨ka, 1, none⟩ = some (.int .i64 a) ∧ w6.cell? ⟨ka, 2, none⟩ = some (.int .i64 ob) ∧ w6.cell? ⟨ka, 3, none⟩ = some (.int .i64 oc) ∧ w6.cell? ⟨ka, 4, none⟩ = some (.string os) ∧ w6.cell? ⟨ka, 5, none⟩ = some (.string ot) := ⟨o6.cellF hH0.1, o6.cellF hH0.2.1, o6.cellF hH0.2.2.1, o6.cellF hH0.2.2.2.1, o6.cellF hH0.2.2.2.2.1, o6.cellF hH0.2.2.2.2.2.1, o6.cellF hH0.2.2.2.2.2.2⟩
  refine ⟨S6, ?_⟩
  try simp only [Act.put, List.setIfInBounds_toArray, List.set_cons_zero, List.set_cons_succ]
  refine takeH 5 41 (v := ?vn5) rfl rfl (by kernel_rfl) (by kernel_rfl) (by kernel_rfl) (fun _ _ _ h => h) (Or.inl ⟨by rfl, ?hn5⟩) S6 ?rn5
  case hn5 => (intro w hSw; clear hSw; go_simp; (try with_reducible rfl))
  case rn5 =>
  try simp only [Act.put, List.setIfInBounds_toArray, List.set_cons_zero, List.set_cons_succ]
  refine wpAnyH_done (by kernel_rfl) ?_ _
  have oD : Only (fun _ => False) w1 w6 := (Only.refl _ w1).drew.trans o6 (fun _ _ e => e)
  have HF := hide oD
  clear hH0 S6 o6 oD
  have z0 : (an.e != an.e) = false := by simp
  have HA := hide ((unhide HA).keep (unhide HF) (fun e => e))
  have HA2 := hide ((unhide HA2).keep (unhide HF) (fun e => e))
  clear CD a0 a1 a2 a3 a4 a5 b0 kl
  generalize w6 = w2 at *
  have a0 : w2.cell? ⟨ka, 0, none⟩ = some (.int .i64 1) := (unhide HA).cell 0
  have b0 : w2.cell? ⟨ka + 1, 0, none⟩ = some (.int .i64 an.e) := (unhide HA2).cell 0
  have hka := (unhide HA).lt
  have hkb := (unhide HA2).lt
  rcases unhide HC with ⟨he, hNM⟩ | ⟨he, s, rfl, hs4, hact, hNM⟩
  · subst hNM
    have n0 : (an.e != 0) = true := by simpa using he
    have HG := hide (And.intro ((unhide HH).1.quiet (unhide HF)) (And.intro ((unhide HH).2.1.quiet (unhide HF)) ((unhide HH).2.2.1.trans (unhide HF) (fun _ _ e => e))))
    clear he
    have CS := hide (xlsame_any (unhide HG).1 (unhide HG).2.1 (unhide HB).1 (unhide HB).1 rfl (Stay.refl _) ⟨fun _ _ => rfl, fun _ _ _ _ _ => rfl⟩)
    go_wp2_with fail
    refine (unhide CS).mono ?_
    rintro e w9 ⟨rfl, o9⟩
    have FF := hide (StpP.of (unhide HN2') ((unhide HG).2.2.trans o9 (fun _ _ e => e)))
    clear CS o9
    go_wp2_with fail
    go_ret
    exact unhide FF
  · have n0 : (an.e != 0) = false := by simp [he]
    clear he
    have s4 : (s : Int) < 4 := by omega
    have a1 : w2.cell? ⟨ka, 1, none⟩ = some (.int .i64 (s : Int)) := (unhide HA).cell 1
    have H1 := (unhide HH).1.quiet (unhide HF)
    have H2 := (unhide HH).2.1.quiet (unhide HF)
    have kl := H1.lt
    have kl2 := H2.lt
    have p0 := H1.actAt hs4
    rw [hact] at p0
    have HO := hide ((unhide HH).2.2.1.trans (unhide HF) (fun _ _ e => e))
    have q0 := H2.actAt hs4
    have eN : N.act s = true := by rw [hNM]; show (if s = s then true else M.act s) = true; rw [if_pos rfl]
    rw [eN] at q0
    have HI := hide (And.intro H1 (And.intro H2 (And.intro hact hNM)))
    clear H1 H2 hact hNM eN HC
    go_upto_region 15 with fail
    go_cut [68] from 52 to 68 (fun zv wx => zv = .bool false ∧ Only (fun _ => False) w2 wx)
    case first =>
      go_quiet (fail)
      go_wp2_with fail
      go_meet
      exact ⟨rfl, onlyQ _ _⟩
    case rest =>
    obtain ⟨rfl, oC⟩ := hcut
    generalize wc = w3 at *
    have H1 := (unhide HI).1.quiet oC
    have H2 := (unhide HI).2.1.quiet oC
    have HO := hide ((unhide HO).trans oC (fun _ _ e => e))
    have HA := hide ((unhide HA).keep oC (fun e => e))
    clear a0 a1 b0 p0 q0 kl kl2 oC
    have a1 : w3.cell? ⟨ka, 1, none⟩ = some (.int .i64 (s : Int)) := (unhide HA).cell 1
    have hka := (unhide HA).lt
    have kl2 := H2.lt
    have q0 := H2.actAt hs4
    have qf := H2.fr (10 + s)
    have eN : ∀ o, N.act o = if o = s then true else M.act o := fun o => by rw [(unhide HI).2.2.2]; rfl
    have kak : ka ≠ k2 := fun c => by
      obtain ⟨S2, g1, _⟩ := H2
      exact Has.ne (unhide HA) (by rw [c]; exact g1.has) (by decide) rfl
    have oT : Only (fun b => b = k2) w3 (w3.setCell ⟨k2, 10 + s, none⟩ (.bool false)).drew := (only1 _ _).trans ((Only.refl (fun _ => False) _).drew.mono (T := fun k => k = k2) (fun _ _ h => h.elim)) (fun _ _ h => h)
    have T2 : Sht lo (w3.setCell ⟨k2, 10 + s, none⟩ (.bool false)).drew k2 M := (H2.turn (M := M) hs4 false (by rw [(unhide HI).2.2.2]; rfl) (by rw [(unhide HI).2.2.2]; rfl) (by rw [(unhide HI).2.2.2]; rfl) (fun o ho => by
      rw [eN]
      by_cases c : o = s
      · rw [if_pos c, c]; exact (unhide HI).2.2.1
      · rw [if_neg c, if_neg c])).quiet (Only.refl (fun _ => False) _).drew
    have T3 : Sht lo3 (w3.setCell ⟨k2, 10 + s, none⟩ (.bool false)).drew k2 M := (((unhide HN2').quiet (unhide HO)).turn (M := M) hs4 false (by rw [(unhide HI).2.2.2]; rfl) (by rw [(unhide HI).2.2.2]; rfl) (by rw [(unhide HI).2.2.2]; rfl) (fun o ho => by
      rw [eN]
      by_cases c : o = s
      · rw [if_pos c, c]; exact (unhide HI).2.2.1
      · rw [if_neg c, if_neg c])).quiet (Only.refl (fun _ => False) _).drew
    have HT := hide (And.intro T2 (And.intro (H1.keepK H2 hne oT) (And.intro ((unhide HA).keep oT kak) oT)))
    have HT3 := hide T3
    rw [(eN s).trans (if_pos rfl)] at q0
    have HeN := hide eN
    clear H1 H2 T2 T3 oT eN
    go_upto_region 17 with fail
    go_region
    all_goals
      generalize (w3.setCell ⟨k2, 10 + s, none⟩ (.bool false)).drew = w4 at *
      clear a1 q0 qf
      have CS := hide (xlsame_any (unhide HT).2.1 (unhide HT).1 (unhide HB).1 (unhide HB).1 rfl (Stay.refl _) ⟨fun _ _ => rfl, fun _ _ _ _ _ => rfl⟩)
      go_wp2_with fail
      refine (unhide CS).mono ?_
      rintro e w5 ⟨rfl, o5⟩
      have H2 := (unhide HT).1.quiet o5
      have HA5 := (unhide HT).2.2.1.keep o5 (fun e => e)
      have a1 : w5.cell? ⟨ka, 1, none⟩ = some (.int .i64 (s : Int)) := HA5.cell 1
      have hka := HA5.lt
      have kl2 := H2.lt
      have q0 := H2.actAt hs4
      have qf := H2.fr (10 + s)
      rw [(unhide HI).2.2.1] at q0
      have FF := hide (show StpP lo3 w k2 N (.returned (.bool true)) (w5.setCell ⟨k2, 10 + s, none⟩ (.bool true)).drew from ⟨rfl, (((unhide HT3).quiet o5).turn (M := N) hs4 true (by rw [(unhide HI).2.2.2]; rfl) (by rw [(unhide HI).2.2.2]; rfl) (by rw [(unhide HI).2.2.2]; rfl) (fun o _ => unhide HeN o)).quiet (Only.refl (fun _ => False) _).drew, (((unhide HO).mono (T := fun b => b = k2) (fun _ _ e => e.elim)).trans ((unhide HT).2.2.2.trans (o5.mono (T := fun b => b = k2) (fun _ _ e => e.elim)) (fun _ _ h => h)) (fun _ _ h => h)).trans ((only1 (p := k2) _ _).trans ((Only.refl (fun _ => False) _).drew.mono (T := fun k => k = k2) (fun _ _ h => h.elim)) (fun _ _ h => h)) (fun _ _ h => h)⟩)
      clear CS o5 H2 HA5
      go_upto_region 19 with fail
      go_region
      all_goals
        go_wp2_with fail
        go_ret
        exact unhide FF
end
end Go.Proofs.Qxb6500414aGreat
