/-
  OWN WORK. TXN, Keeps: Step, other kinds (written by tools/gen_xkt.py).
-/
import Derived.Test.Qxb6500414aGreatXKT0
namespace Go.Proofs.Qxb6500414aGreat
open Go.RowKit Go.PlainAid
set_option linter.unusedSimpArgs false
set_option linter.unusedVariables false
section
variable {lo : Nat} {w w' : World} {k k2 : Nat} {M N : Mu} {s t : Nat} {T : Tb} {am : AnM} {an : An} {a : Int}
set_option maxRecDepth 100000 in
set_option maxHeartbeats 4000000 in
theorem xlstep_o (H : Sht lo w k M) (H2 : Sht lo w k2 N) {lo3 : Nat} (H3 : Sht lo3 w k2 N) (hB : MuB M) (hB2 : MuB N) (A : AnAt w am an) (kd ob oc : Int) (os ot : ByteArray) (ht : ot.size ≤ maxLen) (hk : kd < 1 ∨ 12 ≤ kd) (hNM : N = M) : Calls Tryz.prog 22 #[.pointer (some ⟨k, 0, none⟩), .pointer (some ⟨k2, 0, none⟩), opX kd a ob oc os ot, .agg (anC am an)] w (StpP lo3 w k2 N) := by
  obtain ⟨p1, p2, hp⟩ := A.row.shape
  obtain ⟨r1, r2, hr⟩ := ownsRow_shape A.own
  obtain ⟨t1, t2, ht'⟩ := A.col.shape
  obtain ⟨v1, v2, hv⟩ := ownsRow_shape A.nms
  obtain ⟨ln, hln⟩ : ∃ k, an.row.length = k := ⟨_, rfl⟩
  obtain ⟨ls, hls⟩ : ∃ k, am.Z.length = k := ⟨_, rfl⟩
  obtain ⟨lc, hlc⟩ : ∃ k, an.cols.length = k := ⟨_, rfl⟩
  obtain ⟨lm, hlm⟩ : ∃ k, an.names.length = k := ⟨_, rfl⟩
  rw [hln] at hp
  rw [hls] at hr
  rw [hlc] at ht'
  rw [hlm] at hv
  have o1 : Only (fun _ => False) w ((w.alloc (.cells #[.int .i64 kd, .int .i64 a, .int .i64 ob, .int .i64 oc, .string os, .string ot] 44)).alloc (.cells #[.int .i64 an.e, .int .i64 an.n, .slice p1 ln p2, .slice r1 ls r2, .string an.nm, .slice t1 lc t2, .int .i64 an.pk, .int .i64 an.ix, .slice v1 lm v2] 54)) := ((Only.refl _ w).alloc _).alloc _
  have N1 : Has ((w.alloc (.cells #[.int .i64 kd, .int .i64 a, .int .i64 ob, .int .i64 oc, .string os, .string ot] 44)).alloc (.cells #[.int .i64 an.e, .int .i64 an.n, .slice p1 ln p2, .slice r1 ls r2, .string an.nm, .slice t1 lc t2, .int .i64 an.pk, .int .i64 an.ix, .slice v1 lm v2] 54)) w.heap.size #[.int .i64 kd, .int .i64 a, .int .i64 ob, .int .i64 oc, .string os, .string ot] 44 := (Has.new w _ _).alloc _
  have N2 : Has ((w.alloc (.cells #[.int .i64 kd, .int .i64 a, .int .i64 ob, .int .i64 oc, .string os, .string ot] 44)).alloc (.cells #[.int .i64 an.e, .int .i64 an.n, .slice p1 ln p2, .slice r1 ls r2, .string an.nm, .slice t1 lc t2, .int .i64 an.pk, .int .i64 an.ix, .slice v1 lm v2] 54)) (w.heap.size + 1) #[.int .i64 an.e, .int .i64 an.n, .slice p1 ln p2, .slice r1 ls r2, .string an.nm, .slice t1 lc t2, .int .i64 an.pk, .int .i64 an.ix, .slice v1 lm v2] 54 := Has.new' _ _ _ _ (by simp)
  obtain ⟨n, hn⟩ : ∃ n, M.com.length = n := ⟨_, rfl⟩
  have hl := hB.len
  rw [hn] at hl
  have HH := hide (And.intro (H.quiet o1) (And.intro (H2.quiet o1) (And.intro o1 (And.intro ht hn))))
  have HB := hide (And.intro hB hB2)
  have HAn := hide (A.quiet o1)
  have HRS := hide (And.intro hp hln)
  have HN1 := hide N1
  have HN2 := hide N2
  have HN2' := hide H3
  have g1 : (kd == 1) = false := ne_intO (by omega)
  have g2 : (kd == 2) = false := ne_intO (by omega)
  have g3 : (kd == 3) = false := ne_intO (by omega)
  have g4 : (kd == 4) = false := ne_intO (by omega)
  have g5 : (kd == 5) = false := ne_intO (by omega)
  have g6 : (kd == 6) = false := ne_intO (by omega)
  have g7 : (kd == 7) = false := ne_intO (by omega)
  have g8 : (kd == 8) = false := ne_intO (by omega)
  have g9 : (kd == 9) = false := ne_intO (by omega)
  have g10 : (kd == 10) = false := ne_intO (by omega)
  have g11 : (kd == 11) = false := ne_intO (by omega)
  subst hNM
  unfold anC opX
  rw [hp, hr, ht', hv]
  clear H H2 hB hB2 A ht o1 N1 N2 hp hr ht' hv hln hls hlc hlm hn hk H3
  go_enter Tryz.func22, Tryz.ntmps22
  go_upto_region 1 with fail
  generalize ((w.alloc (.cells #[.int .i64 kd, .int .i64 a, .int .i64 ob, .int .i64 oc, .string os, .string ot] 44)).alloc (.cells #[.int .i64 an.e, .int .i64 an.n, .slice p1 ln p2, .slice r1 ls r2, .string an.nm, .slice t1 lc t2, .int .i64 an.pk, .int .i64 an.ix, .slice v1 lm v2] 54)) = w1 at *
  have k1 := (unhide HN1).lt
  have k2' := (unhide HN2).lt
  generalize hka : w.heap.size = ka at *
  clear hka
  have HG := hide (And.intro (unhide HH).1 (And.intro (unhide HH).2.1 (unhide HH).2.2.1))
  have HA := hide (unhide HN1)
  have a0 : w1.cell? ⟨ka, 0, none⟩ = some (.int .i64 kd) := (unhide HN1).cell 0
  have b0 : w1.cell? ⟨ka + 1, 0, none⟩ = some (.int .i64 an.e) := (unhide HN2).cell 0
  cases hz : (an.e != 0)
  all_goals
    have CS := hide (xlsame_any (unhide HG).1 (unhide HG).2.1 (unhide HB).1 (unhide HB).1 rfl (Stay.refl _) ⟨fun _ _ => rfl, fun _ _ _ _ _ => rfl⟩)
    go_wp2_with fail
    refine (unhide CS).mono ?_
    rintro e w9 ⟨rfl, o9⟩
    have FF := hide (StpP.of (unhide HN2') ((unhide HG).2.2.trans o9 (fun _ _ e => e)))
    clear CS o9
    go_wp2_with fail
    go_ret
    exact unhide FF
end
end Go.Proofs.Qxb6500414aGreat
