/-
  OWN WORK. TXN, Keeps: Step, kind 6 (written by tools/gen_xkt.py).
-/
import Derived.Test.Qxb6500414aGreatXKT0
import Derived.Test.Qxb6500414aGreatXKS6
namespace Go.Proofs.Qxb6500414aGreat
open Go.RowKit Go.PlainAid
set_option linter.unusedSimpArgs false
set_option linter.unusedVariables false
section
variable {lo : Nat} {w w' : World} {k k2 : Nat} {M N : Mu} {s t : Nat} {T : Tb} {am : AnM} {an : An} {a : Int}
set_option maxRecDepth 100000 in
set_option maxHeartbeats 4000000 in
theorem xlstep_6 (H : Sht lo w k M) (H2 : Sht lo w k2 N) {lo3 : Nat} (H3 : Sht lo3 w k2 N) (hB : MuB M) (hB2 : MuB N) (A : AnAt w am an) (ob oc : Int) (os ot : ByteArray) (ht : ot.size ≤ maxLen) (ok : MuOk M) (okN : MuOk N) (kM : MuK M) (kN : MuK N) (gM : MuG M) (gN : MuG N) (hop : MuOp M a ob oc os ot 6 N an) : Calls Tryz.prog 22 #[.pointer (some ⟨k, 0, none⟩), .pointer (some ⟨k2, 0, none⟩), opX 6 a ob oc os ot, .agg (anC am an)] w (StpP lo3 w k2 N) := by
  obtain ⟨p1, p2, hp⟩ := A.row.shape
  obtain ⟨r1, r2, hr⟩ := ownsRow_shape A.own
  obtain ⟨t1, t2, ht'⟩ := A.col.shape
  obtain ⟨v1, v2, hv⟩ := ownsRow_shape A.nms
  obtain ⟨ln, hln⟩ : ∃ k, an.row.length = k := ⟨_, rfl⟩
  obtain ⟨ls, hls⟩ : ∃ k, am.Z.length = k := ⟨_, rfl⟩
  obtain ⟨lc, hlc⟩ : ∃ k, an.cols.length = k := ⟨_, rfl⟩
  obtain ⟨lm, hlm⟩ : ∃ k, an.names.length = k := ⟨_, rfl⟩
  rw [hln] at hp
  rw [hls] at hr
  rw [hlc] at ht'
  rw [hlm] at hv
  have o1 : Only (fun _ => False) w ((w.alloc (.cells #[.int .i64 6, .int .i64 a, .int .i64 ob, .int .i64 oc, .string os, .string ot] 44)).alloc (.cells #[.int .i64 an.e, .int .i64 an.n, .slice p1 ln p2, .slice r1 ls r2, .string an.nm, .slice t1 lc t2, .int .i64 an.pk, .int .i64 an.ix, .slice v1 lm v2] 54)) := ((Only.refl _ w).alloc _).alloc _
  have N1 : Has ((w.alloc (.cells #[.int .i64 6, .int .i64 a, .int .i64 ob, .int .i64 oc, .string os, .string ot] 44)).alloc (.cells #[.int .i64 an.e, .int .i64 an.n, .slice p1 ln p2, .slice r1 ls r2, .string an.nm, .slice t1 lc t2, .int .i64 an.pk, .int .i64 an.ix, .slice v1 lm v2] 54)) w.heap.size #[.int .i64 6, .int .i64 a, .int .i64 ob, .int .i64 oc, .string os, .string ot] 44 := (Has.new w _ _).alloc _
  have N2 : Has ((w.alloc (.cells #[.int .i64 6, .int .i64 a, .int .i64 ob, .int .i64 oc, .string os, .string ot] 44)).alloc (.cells #[.int .i64 an.e, .int .i64 an.n, .slice p1 ln p2, .slice r1 ls r2, .string an.nm, .slice t1 lc t2, .int .i64 an.pk, .int .i64 an.ix, .slice v1 lm v2] 54)) (w.heap.size + 1) #[.int .i64 an.e, .int .i64 an.n, .slice p1 ln p2, .slice r1 ls r2, .string an.nm, .slice t1 lc t2, .int .i64 an.pk, .int .i64 an.ix, .slice v1 lm v2] 54 := Has.new' _ _ _ _ (by simp)
  obtain ⟨n, hn⟩ : ∃ n, M.com.length = n := ⟨_, rfl⟩
  have hl := hB.len
  rw [hn] at hl
  have HH := hide (And.intro (H.quiet o1) (And.intro (H2.quiet o1) (And.intro o1 (And.intro ht hn))))
  have HB := hide (And.intro hB hB2)
  have HAn := hide (A.quiet o1)
  have HRS := hide (And.intro hp hln)
  have HN1 := hide N1
  have HN2 := hide N2
  have HS := hide (And.intro ok (And.intro okN hop))
  have HN2' := hide H3
  unfold anC opX
  rw [hp, hr, ht', hv]
  clear H H2 hB hB2 A ht o1 N1 N2 hp hr ht' hv hln hls hlc hlm hn ok okN kM kN gM gN hop H3
  go_enter Tryz.func22, Tryz.ntmps22
  go_upto_region 1 with fail
  generalize ((w.alloc (.cells #[.int .i64 6, .int .i64 a, .int .i64 ob, .int .i64 oc, .string os, .string ot] 44)).alloc (.cells #[.int .i64 an.e, .int .i64 an.n, .slice p1 ln p2, .slice r1 ls r2, .string an.nm, .slice t1 lc t2, .int .i64 an.pk, .int .i64 an.ix, .slice v1 lm v2] 54)) = w1 at *
  have k1 := (unhide HN1).lt
  have k2' := (unhide HN2).lt
  generalize hka : w.heap.size = ka at *
  clear hka
  have HA := hide (unhide HN1)
  have a0 : w1.cell? ⟨ka, 0, none⟩ = some (.int .i64 6) := (unhide HA).cell 0
  have a1 : w1.cell? ⟨ka, 1, none⟩ = some (.int .i64 a) := (unhide HA).cell 1
  have a2 : w1.cell? ⟨ka, 2, none⟩ = some (.int .i64 ob) := (unhide HA).cell 2
  have a3 : w1.cell? ⟨ka, 3, none⟩ = some (.int .i64 oc) := (unhide HA).cell 3
  have a4 : w1.cell? ⟨ka, 4, none⟩ = some (.string os) := (unhide HA).cell 4
  have a5 : w1.cell? ⟨ka, 5, none⟩ = some (.string ot) := (unhide HA).cell 5
  have b0 : w1.cell? ⟨ka + 1, 0, none⟩ = some (.int .i64 an.e) := (unhide HN2).cell 0
  rcases (unhide HS).2.2.st6 rfl with ⟨he, hNM⟩ | ⟨he, hC⟩
  · subst hNM
    have n0 : (an.e != 0) = true := by simpa using he
    clear he
    have HG := hide (And.intro (unhide HH).1 (And.intro (unhide HH).2.1 (unhide HH).2.2.1))
    have CS := hide (xlsame_any (unhide HG).1 (unhide HG).2.1 (unhide HB).1 (unhide HB).1 rfl (Stay.refl _) ⟨fun _ _ => rfl, fun _ _ _ _ _ => rfl⟩)
    go_wp2_with fail
    refine (unhide CS).mono ?_
    rintro e w9 ⟨rfl, o9⟩
    have FF := hide (StpP.of (unhide HN2') ((unhide HG).2.2.trans o9 (fun _ _ e => e)))
    clear CS o9
    go_wp2_with fail
    go_ret
    exact unhide FF
  · have n0 : (an.e != 0) = false := by simp [he]
    clear he
    have CD := xlschema_6 (unhide HH).1 (unhide HH).2.1 (unhide HB).1 (unhide HB).2 a ob oc os ot (fun s hs => ⟨hC.1 s hs, (hC.rows (unhide HS).1 (nm := os) hs).2.2.2⟩) (hC.cix (unhide HS).1)
    unfold opX at CD
    have CD := hide CD
    clear hC
    go_wp2_with fail
    refine (unhide CD).mono ?_
    rintro e w2 ⟨rfl, o2⟩
    have FF := hide (StpP.of (unhide HN2') ((unhide HH).2.2.1.trans o2 (fun _ _ e => e)))
    clear CD o2
    go_wp2_with fail
    go_ret
    exact unhide FF
end
end Go.Proofs.Qxb6500414aGreat
