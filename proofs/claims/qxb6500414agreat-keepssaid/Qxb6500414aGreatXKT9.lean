/-
  OWN WORK. TXN, Keeps: Step, kind 9 (written by tools/gen_xkt.py).
-/
import Derived.Test.Qxb6500414aGreatXKT0
namespace Go.Proofs.Qxb6500414aGreat
open Go.RowKit Go.PlainAid
set_option linter.unusedSimpArgs false
set_option linter.unusedVariables false
section
variable {lo : Nat} {w w' : World} {k k2 : Nat} {M N : Mu} {s t : Nat} {T : Tb} {am : AnM} {an : An} {a : Int}
set_option maxRecDepth 100000 in
set_option maxHeartbeats 4000000 in
theorem xlstep_9 (H : Sht lo w k M) (H2 : Sht lo w k2 N) {lo3 : Nat} (H3 : Sht lo3 w k2 N) (hB : MuB M) (hB2 : MuB N) (A : AnAt w am an) (ob oc : Int) (os ot : ByteArray) (ht : ot.size ≤ maxLen) (ok : MuOk M) (okN : MuOk N) (kM : MuK M) (kN : MuK N) (gM : MuG M) (gN : MuG N) (hop : MuOp M a ob oc os ot 9 N an) : Calls Tryz.prog 22 #[.pointer (some ⟨k, 0, none⟩), .pointer (some ⟨k2, 0, none⟩), opX 9 a ob oc os ot, .agg (anC am an)] w (StpP lo3 w k2 N) := by
  obtain ⟨p1, p2, hp⟩ := A.row.shape
  obtain ⟨r1, r2, hr⟩ := ownsRow_shape A.own
  obtain ⟨t1, t2, ht'⟩ := A.col.shape
  obtain ⟨v1, v2, hv⟩ := ownsRow_shape A.nms
  obtain ⟨ln, hln⟩ : ∃ k, an.row.length = k := ⟨_, rfl⟩
  obtain ⟨ls, hls⟩ : ∃ k, am.Z.length = k := ⟨_, rfl⟩
  obtain ⟨lc, hlc⟩ : ∃ k, an.cols.length = k := ⟨_, rfl⟩
  obtain ⟨lm, hlm⟩ : ∃ k, an.names.length = k := ⟨_, rfl⟩
  rw [hln] at hp
  rw [hls] at hr
  rw [hlc] at ht'
  rw [hlm] at hv
  have o1 : Only (fun _ => False) w ((w.alloc (.cells #[.int .i64 9, .int .i64 a, .int .i64 ob, .int .i64 oc, .string os, .string ot] 44)).alloc (.cells #[.int .i64 an.e, .int .i64 an.n, .slice p1 ln p2, .slice r1 ls r2, .string an.nm, .slice t1 lc t2, .int .i64 an.pk, .int .i64 an.ix, .slice v1 lm v2] 54)) := ((Only.refl _ w).alloc _).alloc _
  have N1 : Has ((w.alloc (.cells #[.int .i64 9, .int .i64 a, .int .i64 ob, .int .i64 oc, .string os, .string ot] 44)).alloc (.cells #[.int .i64 an.e, .int .i64 an.n, .slice p1 ln p2, .slice r1 ls r2, .string an.nm, .slice t1 lc t2, .int .i64 an.pk, .int .i64 an.ix, .slice v1 lm v2] 54)) w.heap.size #[.int .i64 9, .int .i64 a, .int .i64 ob, .int .i64 oc, .string os, .string ot] 44 := (Has.new w _ _).alloc _
  have N2 : Has ((w.alloc (.cells #[.int .i64 9, .int .i64 a, .int .i64 ob, .int .i64 oc, .string os, .string ot] 44)).alloc (.cells #[.int .i64 an.e, .int .i64 an.n, .slice p1 ln p2, .slice r1 ls r2, .string an.nm, .slice t1 lc t2, .int .i64 an.pk, .int .i64 an.ix, .slice v1 lm v2] 54)) (w.heap.size + 1) #[.int .i64 an.e, .int .i64 an.n, .slice p1 ln p2, .slice r1 ls r2, .string an.nm, .slice t1 lc t2, .int .i64 an.pk, .int .i64 an.ix, .slice v1 lm v2] 54 := Has.new' _ _ _ _ (by simp)
  obtain ⟨n, hn⟩ : ∃ n, M.com.length = n := ⟨_, rfl⟩
  have hl := hB.len
  rw [hn] at hl
  have HH := hide (And.intro (H.quiet o1) (And.intro (H2.quiet o1) (And.intro o1 (And.intro ht hn))))
  have HB := hide (And.intro hB hB2)
  have HAn := hide (A.quiet o1)
  have HRS := hide (And.intro (And.intro hp hr) (And.intro ht' hv))
  have HN1 := hide N1
  have HN2 := hide N2
  have HS := hide (And.intro ok (And.intro okN (And.intro kM (And.intro kN (And.intro gM (And.intro gN hop))))))
  have HN2' := hide H3
  unfold anC opX
  rw [hp, hr, ht', hv]
  clear H H2 hB hB2 A ht o1 N1 N2 hp hr ht' hv hln hls hlc hlm hn ok okN kM kN gM gN hop H3
  go_enter Tryz.func22, Tryz.ntmps22
  go_upto_region 1 with fail
  generalize ((w.alloc (.cells #[.int .i64 9, .int .i64 a, .int .i64 ob, .int .i64 oc, .string os, .string ot] 44)).alloc (.cells #[.int .i64 an.e, .int .i64 an.n, .slice p1 ln p2, .slice r1 ls r2, .string an.nm, .slice t1 lc t2, .int .i64 an.pk, .int .i64 an.ix, .slice v1 lm v2] 54)) = w1 at *
  have k1 := (unhide HN1).lt
  have k2' := (unhide HN2).lt
  generalize hka : w.heap.size = ka at *
  clear hka
  have HA := hide (unhide HN1)
  have HA2 := hide (unhide HN2)
  have a0 : w1.cell? ⟨ka, 0, none⟩ = some (.int .i64 9) := (unhide HA).cell 0
  have a1 : w1.cell? ⟨ka, 1, none⟩ = some (.int .i64 a) := (unhide HA).cell 1
  have a2 : w1.cell? ⟨ka, 2, none⟩ = some (.int .i64 ob) := (unhide HA).cell 2
  have a3 : w1.cell? ⟨ka, 3, none⟩ = some (.int .i64 oc) := (unhide HA).cell 3
  have a4 : w1.cell? ⟨ka, 4, none⟩ = some (.string os) := (unhide HA).cell 4
  have a5 : w1.cell? ⟨ka, 5, none⟩ = some (.string ot) := (unhide HA).cell 5
  have b0 : w1.cell? ⟨ka + 1, 0, none⟩ = some (.int .i64 an.e) := (unhide HA2).cell 0
  have b1 : w1.cell? ⟨ka + 1, 1, none⟩ = some (.int .i64 an.n) := (unhide HA2).cell 1
  have b2 : w1.cell? ⟨ka + 1, 2, none⟩ = some (.slice p1 ln p2) := (unhide HA2).cell 2
  have b3 : w1.cell? ⟨ka + 1, 3, none⟩ = some (.slice r1 ls r2) := (unhide HA2).cell 3
  have b4 : w1.cell? ⟨ka + 1, 4, none⟩ = some (.string an.nm) := (unhide HA2).cell 4
  have b5 : w1.cell? ⟨ka + 1, 5, none⟩ = some (.slice t1 lc t2) := (unhide HA2).cell 5
  have b6 : w1.cell? ⟨ka + 1, 6, none⟩ = some (.int .i64 an.pk) := (unhide HA2).cell 6
  have b7 : w1.cell? ⟨ka + 1, 7, none⟩ = some (.int .i64 an.ix) := (unhide HA2).cell 7
  have b8 : w1.cell? ⟨ka + 1, 8, none⟩ = some (.slice v1 lm v2) := (unhide HA2).cell 8
  have CD := xldata_9 (unhide HH).1 (unhide HH).2.1 (unhide HAn) a ob oc os ot (unhide HH).2.2.2.1 (unhide HS).1 (unhide HS).2.1 (unhide HS).2.2.1 (unhide HS).2.2.2.1 (unhide HS).2.2.2.2.1 (unhide HS).2.2.2.2.2.1 (unhide HS).2.2.2.2.2.2
  unfold opX anC at CD
  rw [(unhide HRS).1.1, (unhide HRS).1.2, (unhide HRS).2.1, (unhide HRS).2.2] at CD
  have CD := hide CD
  go_wp2_with fail
  refine (unhide CD).mono ?_
  rintro e w2 ⟨rfl, o2⟩
  have FF := hide (StpP.of (unhide HN2') ((unhide HH).2.2.1.trans o2 (fun _ _ e => e)))
  clear CD o2
  go_wp2_with fail
  go_ret
  exact unhide FF
end
end Go.Proofs.Qxb6500414aGreat
