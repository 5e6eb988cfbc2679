/-
  OWN WORK. THE TXN LAW: answers; their comparison; the law's small helpers.
-/
import Derived.Test.Qxb6500414aGreatXJ0
import Derived.Test.Qxb6500414aGreatYL2
import Derived.Test.Qxb6500414aGreatMM13
namespace Go.Proofs.Qxb6500414aGreat
open Go.RowKit Go.PlainAid
set_option linter.unusedSimpArgs false
set_option linter.unusedVariables false

/-- One op of a script. -/
def opX (kind a bb cc : Int) (s T : ByteArray) : Value := .agg #[.int .i64 kind, .int .i64 a, .int .i64 bb, .int .i64 cc, .string s, .string T]
/-- An answer. -/
structure An where
  e : Int
  n : Int
  row : List Vl
  rows : List (List Vl)
  nm : ByteArray
  cols : List Cl
  pk : Int
  ix : Int
  names : List ByteArray
def An.z : An := ⟨0, 0, [], [], ⟨#[]⟩, [], 0, 0, []⟩
/-- An answer's slices. -/
structure AnM where
  rv : Value
  sv : Value
  Z : List (Value × List Vl)
  cv : Value
  nv : Value
def AnM.z : AnM := ⟨.slice none 0 0, .slice none 0 0, [], .slice none 0 0, .slice none 0 0⟩
def anC (m : AnM) (a : An) : Array Value := #[.int .i64 a.e, .int .i64 a.n, m.rv, m.sv, .string a.nm, m.cv, .int .i64 a.pk, .int .i64 a.ix, m.nv]
structure AnAt (w : World) (m : AnM) (a : An) : Prop where
  row : OwnV w m.rv a.row
  own : w.ownsRow 0 47 1 m.sv m.Z.length (m.Z.map (·.1))
  rows : ∀ z ∈ m.Z, OwnV w z.1 z.2
  rz : m.Z.map (·.2) = a.rows
  col : OwnC w m.cv a.cols
  nms : OwnN w m.nv a.names
  b : a.row.length ≤ 1000 ∧ a.rows.length ≤ 1000 ∧ (∀ r ∈ a.rows, r.length ≤ 1000) ∧ a.cols.length ≤ 1000 ∧ a.names.length ≤ 1000
def AnB (m : AnM) (k : Nat) : Prop := m.rv.ownBlock = some k ∨ m.sv.ownBlock = some k ∨ (∃ z ∈ m.Z, z.1.ownBlock = some k) ∨ m.cv.ownBlock = some k ∨ m.nv.ownBlock = some k
section
variable {w w' : World} {m m' : AnM} {a : An}
theorem AnAt.keep {B : Nat → Prop} (h : AnAt w m a) (ho : Only B w w') (hB : ∀ k, AnB m k → ¬ B k) : AnAt w' m a :=
  ⟨h.row.keep ho (fun k hk => hB k (.inl hk)), ownsRow_keep h.own ho (fun k hk => hB k (.inr (.inl hk))), fun z hz => (h.rows z hz).keep ho (fun k hk => hB k (.inr (.inr (.inl ⟨z, hz, hk⟩)))), h.rz, h.col.keep ho (fun k hk => hB k (.inr (.inr (.inr (.inl hk))))), ownsRow_keep h.nms ho (fun k hk => hB k (.inr (.inr (.inr (.inr hk))))), h.b⟩
theorem AnAt.quiet (h : AnAt w m a) (ho : Only (fun _ => False) w w') : AnAt w' m a := h.keep ho (fun _ _ e => e)
theorem AnAt.lt (h : AnAt w m a) : ∀ k, AnB m k → k < w.heap.size := by
  rintro k (hk | hk | ⟨z, hz, hk⟩ | hk | hk)
  · exact h.row.lt k hk
  · exact ownsRow_lt h.own k hk
  · exact (h.rows z hz).lt k hk
  · exact h.col.lt k hk
  · exact ownsRow_lt h.nms k hk
theorem AnB.z {k : Nat} : ¬ AnB AnM.z k := by
  rintro (h | h | ⟨z, hz, _⟩ | h | h)
  · cases h
  · cases h
  · cases hz
  · cases h
  · cases h
theorem AnAt.zero (w : World) (e n : Int) : AnAt w AnM.z { An.z with e := e, n := n } :=
  ⟨OwnV.nil _, World.ownsRow_nil _ _ _ _, (fun z h => by cases h), rfl, OwnC.nil _, World.ownsRow_nil _ _ _ _, by simp [An.z]⟩
set_option maxRecDepth 100000 in
set_option maxHeartbeats 2000000 in
/-- SameAns of two that are alike. -/
theorem sameAns_any (A : AnAt w m a) (B : AnAt w m' a) : Calls Tryz.prog 31 #[.agg (anC m a), .agg (anC m' a)] w fun e w' => e = .returned (.bool true) ∧ Only (fun _ => False) w w' := by
  obtain ⟨p1, p2, hp⟩ := A.row.shape
  obtain ⟨q1, q2, hq⟩ := B.row.shape
  obtain ⟨r1, r2, hr⟩ := ownsRow_shape A.own
  obtain ⟨s1, s2, hs⟩ := ownsRow_shape B.own
  obtain ⟨t1, t2, ht⟩ := A.col.shape
  obtain ⟨u1, u2, hu⟩ := B.col.shape
  obtain ⟨v1, v2, hv⟩ := ownsRow_shape A.nms
  obtain ⟨x1, x2, hx⟩ := ownsRow_shape B.nms
  have eZ : m.Z.length = a.rows.length := by rw [← A.rz, List.length_map]
  have eZ' : m'.Z.length = a.rows.length := by rw [← B.rz, List.length_map]
  rw [eZ] at hr
  rw [eZ'] at hs
  have o1 : Only (fun _ => False) w ((w.alloc (.cells (anC m a) 54)).alloc (.cells (anC m' a) 54)) := ((Only.refl _ w).alloc _).alloc _
  have N1 : Has ((w.alloc (.cells (anC m a) 54)).alloc (.cells (anC m' a) 54)) w.heap.size (anC m a) 54 := (Has.new w _ _).alloc _
  have N2 : Has ((w.alloc (.cells (anC m a) 54)).alloc (.cells (anC m' a) 54)) (w.heap.size + 1) (anC m' a) 54 := Has.new' _ _ _ _ (by simp)
  have HA := hide (A.quiet o1)
  have HB := hide (B.quiet o1)
  have HO := hide o1
  have HN1 := hide N1
  have HN2 := hide N2
  have Hb := hide A.b
  have HS := hide (And.intro (And.intro hp hq) (And.intro (And.intro hr hs) (And.intro (And.intro ht hu) (And.intro hv hx))))
  unfold anC
  rw [hp, hq, hr, hs, ht, hu, hv, hx]
  unfold anC at HA HB HO HN1 HN2
  rw [hp, hq, hr, hs, ht, hu, hv, hx] at HO HN1 HN2
  rw [hp, hq, hr, hs, ht, hu, hv, hx] at HA HB
  clear A B o1 N1 N2 hp hq hr hs ht hu hv hx eZ eZ'
  obtain ⟨ln, hln⟩ : ∃ k, a.row.length = k := ⟨_, rfl⟩
  obtain ⟨ls, hls⟩ : ∃ k, a.rows.length = k := ⟨_, rfl⟩
  obtain ⟨lc, hlc⟩ : ∃ k, a.cols.length = k := ⟨_, rfl⟩
  obtain ⟨lm, hlm⟩ : ∃ k, a.names.length = k := ⟨_, rfl⟩
  rw [hln, hls, hlc, hlm] at HS
  rw [hln, hls, hlc, hlm] at HO HN1 HN2 HA HB ⊢
  go_enter Tryz.func31, Tryz.ntmps31
  go_upto_region 1 with fail
  generalize (w.alloc (.cells #[.int .i64 a.e, .int .i64 a.n, .slice p1 ln p2, .slice r1 ls r2, .string a.nm, .slice t1 lc t2, .int .i64 a.pk, .int .i64 a.ix, .slice v1 lm v2] 54)).alloc (.cells #[.int .i64 a.e, .int .i64 a.n, .slice q1 ln q2, .slice s1 ls s2, .string a.nm, .slice u1 lc u2, .int .i64 a.pk, .int .i64 a.ix, .slice x1 lm x2] 54) = w1 at *
  have k1 := (unhide HN1).lt
  have k2 := (unhide HN2).lt
  generalize w.heap.size = ka at *
  have C1 := jsameRow_any (unhide HA).row (unhide HB).row (unhide Hb).1
  rw [(unhide HS).1.1, (unhide HS).1.2, decide_eq_true rfl] at C1
  have C1 := hide C1
  have f0 : w1.cell? ⟨ka, 0, none⟩ = some (.int .i64 a.e) := (unhide HN1).cell 0
  have g0 : w1.cell? ⟨ka + 1, 0, none⟩ = some (.int .i64 a.e) := (unhide HN2).cell 0
  have f1 : w1.cell? ⟨ka, 1, none⟩ = some (.int .i64 a.n) := (unhide HN1).cell 1
  have g1 : w1.cell? ⟨ka + 1, 1, none⟩ = some (.int .i64 a.n) := (unhide HN2).cell 1
  have f2 : w1.cell? ⟨ka, 2, none⟩ = some (.slice p1 ln p2) := (unhide HN1).cell 2
  have g2 : w1.cell? ⟨ka + 1, 2, none⟩ = some (.slice q1 ln q2) := (unhide HN2).cell 2
  have f3 : w1.cell? ⟨ka, 3, none⟩ = some (.slice r1 ls r2) := (unhide HN1).cell 3
  have g3 : w1.cell? ⟨ka + 1, 3, none⟩ = some (.slice s1 ls s2) := (unhide HN2).cell 3
  have f4 : w1.cell? ⟨ka, 4, none⟩ = some (.string a.nm) := (unhide HN1).cell 4
  have g4 : w1.cell? ⟨ka + 1, 4, none⟩ = some (.string a.nm) := (unhide HN2).cell 4
  have f5 : w1.cell? ⟨ka, 5, none⟩ = some (.slice t1 lc t2) := (unhide HN1).cell 5
  have g5 : w1.cell? ⟨ka + 1, 5, none⟩ = some (.slice u1 lc u2) := (unhide HN2).cell 5
  have f6 : w1.cell? ⟨ka, 6, none⟩ = some (.int .i64 a.pk) := (unhide HN1).cell 6
  have g6 : w1.cell? ⟨ka + 1, 6, none⟩ = some (.int .i64 a.pk) := (unhide HN2).cell 6
  have f7 : w1.cell? ⟨ka, 7, none⟩ = some (.int .i64 a.ix) := (unhide HN1).cell 7
  have g7 : w1.cell? ⟨ka + 1, 7, none⟩ = some (.int .i64 a.ix) := (unhide HN2).cell 7
  have f8 : w1.cell? ⟨ka, 8, none⟩ = some (.slice v1 lm v2) := (unhide HN1).cell 8
  have g8 : w1.cell? ⟨ka + 1, 8, none⟩ = some (.slice x1 lm x2) := (unhide HN2).cell 8
  have e1 : (a.e == a.e) = true := by simp
  have e2 : (a.n == a.n) = true := by simp
  have e1' : (!(a.e == a.e)) = false := by simp
  have e2' : (!(a.n == a.n)) = false := by simp
  clear hln hls hlc hlm
  go_wp2_with fail
  refine (unhide C1).mono ?_
  rintro e w2 ⟨rfl, o2⟩
  have HA2 := hide ((unhide HA).quiet o2)
  have HB2 := hide ((unhide HB).quiet o2)
  have HM1 := hide ((unhide HN1).keep o2 (fun h => h))
  have HM2 := hide ((unhide HN2).keep o2 (fun h => h))
  have HO2 := hide ((unhide HO).trans o2 (fun _ _ h => h))
  clear o2 C1 HA HB HN1 HN2 HO f0 g0 f1 g1 f2 g2 f3 g3 f4 g4 f5 g5 f6 g6 f7 g7 f8 g8
  have f0 : w2.cell? ⟨ka, 0, none⟩ = some (.int .i64 a.e) := (unhide HM1).cell 0
  have g0 : w2.cell? ⟨ka + 1, 0, none⟩ = some (.int .i64 a.e) := (unhide HM2).cell 0
  have f1 : w2.cell? ⟨ka, 1, none⟩ = some (.int .i64 a.n) := (unhide HM1).cell 1
  have g1 : w2.cell? ⟨ka + 1, 1, none⟩ = some (.int .i64 a.n) := (unhide HM2).cell 1
  have f2 : w2.cell? ⟨ka, 2, none⟩ = some (.slice p1 ln p2) := (unhide HM1).cell 2
  have g2 : w2.cell? ⟨ka + 1, 2, none⟩ = some (.slice q1 ln q2) := (unhide HM2).cell 2
  have f3 : w2.cell? ⟨ka, 3, none⟩ = some (.slice r1 ls r2) := (unhide HM1).cell 3
  have g3 : w2.cell? ⟨ka + 1, 3, none⟩ = some (.slice s1 ls s2) := (unhide HM2).cell 3
  have f4 : w2.cell? ⟨ka, 4, none⟩ = some (.string a.nm) := (unhide HM1).cell 4
  have g4 : w2.cell? ⟨ka + 1, 4, none⟩ = some (.string a.nm) := (unhide HM2).cell 4
  have f5 : w2.cell? ⟨ka, 5, none⟩ = some (.slice t1 lc t2) := (unhide HM1).cell 5
  have g5 : w2.cell? ⟨ka + 1, 5, none⟩ = some (.slice u1 lc u2) := (unhide HM2).cell 5
  have f6 : w2.cell? ⟨ka, 6, none⟩ = some (.int .i64 a.pk) := (unhide HM1).cell 6
  have g6 : w2.cell? ⟨ka + 1, 6, none⟩ = some (.int .i64 a.pk) := (unhide HM2).cell 6
  have f7 : w2.cell? ⟨ka, 7, none⟩ = some (.int .i64 a.ix) := (unhide HM1).cell 7
  have g7 : w2.cell? ⟨ka + 1, 7, none⟩ = some (.int .i64 a.ix) := (unhide HM2).cell 7
  have f8 : w2.cell? ⟨ka, 8, none⟩ = some (.slice v1 lm v2) := (unhide HM1).cell 8
  have g8 : w2.cell? ⟨ka + 1, 8, none⟩ = some (.slice x1 lm x2) := (unhide HM2).cell 8
  have k1 := (unhide HM1).lt
  have k2 := (unhide HM2).lt
  have C2 := sameRows_any (rd_of (unhide HA2).own (unhide HA2).rows) (rd_of (unhide HB2).own (unhide HB2).rows) (by rw [(unhide HA2).rz]; exact (unhide Hb).2.1) (by rw [(unhide HA2).rz]; exact (unhide Hb).2.2.1) true (by rw [(unhide HA2).rz, (unhide HB2).rz]; exact decide_eq_true rfl)
  rw [(unhide HS).2.1.1, (unhide HS).2.1.2] at C2
  have C2 := hide C2
  go_wp2_with fail
  refine (unhide C2).mono ?_
  rintro e w3 ⟨rfl, o3⟩
  have HA3 := hide ((unhide HA2).quiet o3)
  have HB3 := hide ((unhide HB2).quiet o3)
  have HN1 := hide ((unhide HM1).keep o3 (fun h => h))
  have HN2 := hide ((unhide HM2).keep o3 (fun h => h))
  have HO3 := hide ((unhide HO2).trans o3 (fun _ _ h => h))
  clear o3 C2 HA2 HB2 HM1 HM2 HO2 f0 g0 f1 g1 f2 g2 f3 g3 f4 g4 f5 g5 f6 g6 f7 g7 f8 g8
  have f0 : w3.cell? ⟨ka, 0, none⟩ = some (.int .i64 a.e) := (unhide HN1).cell 0
  have g0 : w3.cell? ⟨ka + 1, 0, none⟩ = some (.int .i64 a.e) := (unhide HN2).cell 0
  have f1 : w3.cell? ⟨ka, 1, none⟩ = some (.int .i64 a.n) := (unhide HN1).cell 1
  have g1 : w3.cell? ⟨ka + 1, 1, none⟩ = some (.int .i64 a.n) := (unhide HN2).cell 1
  have f2 : w3.cell? ⟨ka, 2, none⟩ = some (.slice p1 ln p2) := (unhide HN1).cell 2
  have g2 : w3.cell? ⟨ka + 1, 2, none⟩ = some (.slice q1 ln q2) := (unhide HN2).cell 2
  have f3 : w3.cell? ⟨ka, 3, none⟩ = some (.slice r1 ls r2) := (unhide HN1).cell 3
  have g3 : w3.cell? ⟨ka + 1, 3, none⟩ = some (.slice s1 ls s2) := (unhide HN2).cell 3
  have f4 : w3.cell? ⟨ka, 4, none⟩ = some (.string a.nm) := (unhide HN1).cell 4
  have g4 : w3.cell? ⟨ka + 1, 4, none⟩ = some (.string a.nm) := (unhide HN2).cell 4
  have f5 : w3.cell? ⟨ka, 5, none⟩ = some (.slice t1 lc t2) := (unhide HN1).cell 5
  have g5 : w3.cell? ⟨ka + 1, 5, none⟩ = some (.slice u1 lc u2) := (unhide HN2).cell 5
  have f6 : w3.cell? ⟨ka, 6, none⟩ = some (.int .i64 a.pk) := (unhide HN1).cell 6
  have g6 : w3.cell? ⟨ka + 1, 6, none⟩ = some (.int .i64 a.pk) := (unhide HN2).cell 6
  have f7 : w3.cell? ⟨ka, 7, none⟩ = some (.int .i64 a.ix) := (unhide HN1).cell 7
  have g7 : w3.cell? ⟨ka + 1, 7, none⟩ = some (.int .i64 a.ix) := (unhide HN2).cell 7
  have f8 : w3.cell? ⟨ka, 8, none⟩ = some (.slice v1 lm v2) := (unhide HN1).cell 8
  have g8 : w3.cell? ⟨ka + 1, 8, none⟩ = some (.slice x1 lm x2) := (unhide HN2).cell 8
  have k1 := (unhide HN1).lt
  have k2 := (unhide HN2).lt
  have C3 := jsameSchema_any (n1 := a.nm) (n2 := a.nm) (p1 := a.pk) (p2 := a.pk) (i1 := a.ix) (i2 := a.ix) (unhide HA3).col (unhide HB3).col (unhide Hb).2.2.2.1 true (decide_eq_true ⟨rfl, rfl, rfl, rfl⟩)
  unfold schA at C3
  rw [(unhide HS).2.2.1.1, (unhide HS).2.2.1.2] at C3
  have C3 := hide C3
  go_wp2_with fail
  refine (unhide C3).mono ?_
  rintro e w4 ⟨rfl, o4⟩
  have HA4 := hide ((unhide HA3).quiet o4)
  have HB4 := hide ((unhide HB3).quiet o4)
  have HM1 := hide ((unhide HN1).keep o4 (fun h => h))
  have HM2 := hide ((unhide HN2).keep o4 (fun h => h))
  have HO4 := hide ((unhide HO3).trans o4 (fun _ _ h => h))
  clear o4 C3 HA3 HB3 HN1 HN2 HO3 f0 g0 f1 g1 f2 g2 f3 g3 f4 g4 f5 g5 f6 g6 f7 g7 f8 g8
  have f0 : w4.cell? ⟨ka, 0, none⟩ = some (.int .i64 a.e) := (unhide HM1).cell 0
  have g0 : w4.cell? ⟨ka + 1, 0, none⟩ = some (.int .i64 a.e) := (unhide HM2).cell 0
  have f1 : w4.cell? ⟨ka, 1, none⟩ = some (.int .i64 a.n) := (unhide HM1).cell 1
  have g1 : w4.cell? ⟨ka + 1, 1, none⟩ = some (.int .i64 a.n) := (unhide HM2).cell 1
  have f2 : w4.cell? ⟨ka, 2, none⟩ = some (.slice p1 ln p2) := (unhide HM1).cell 2
  have g2 : w4.cell? ⟨ka + 1, 2, none⟩ = some (.slice q1 ln q2) := (unhide HM2).cell 2
  have f3 : w4.cell? ⟨ka, 3, none⟩ = some (.slice r1 ls r2) := (unhide HM1).cell 3
  have g3 : w4.cell? ⟨ka + 1, 3, none⟩ = some (.slice s1 ls s2) := (unhide HM2).cell 3
  have f4 : w4.cell? ⟨ka, 4, none⟩ = some (.string a.nm) := (unhide HM1).cell 4
  have g4 : w4.cell? ⟨ka + 1, 4, none⟩ = some (.string a.nm) := (unhide HM2).cell 4
  have f5 : w4.cell? ⟨ka, 5, none⟩ = some (.slice t1 lc t2) := (unhide HM1).cell 5
  have g5 : w4.cell? ⟨ka + 1, 5, none⟩ = some (.slice u1 lc u2) := (unhide HM2).cell 5
  have f6 : w4.cell? ⟨ka, 6, none⟩ = some (.int .i64 a.pk) := (unhide HM1).cell 6
  have g6 : w4.cell? ⟨ka + 1, 6, none⟩ = some (.int .i64 a.pk) := (unhide HM2).cell 6
  have f7 : w4.cell? ⟨ka, 7, none⟩ = some (.int .i64 a.ix) := (unhide HM1).cell 7
  have g7 : w4.cell? ⟨ka + 1, 7, none⟩ = some (.int .i64 a.ix) := (unhide HM2).cell 7
  have f8 : w4.cell? ⟨ka, 8, none⟩ = some (.slice v1 lm v2) := (unhide HM1).cell 8
  have g8 : w4.cell? ⟨ka + 1, 8, none⟩ = some (.slice x1 lm x2) := (unhide HM2).cell 8
  have k1 := (unhide HM1).lt
  have k2 := (unhide HM2).lt
  have C4 := sameNames_any (unhide HA4).nms (unhide HB4).nms (unhide Hb).2.2.2.2 true (decide_eq_true rfl)
  rw [(unhide HS).2.2.2.1, (unhide HS).2.2.2.2] at C4
  have C4 := hide C4
  go_wp2_with fail
  refine (unhide C4).mono ?_
  rintro e w5 ⟨rfl, o5⟩
  have FF := hide ((unhide HO4).trans o5 (fun _ _ h => h))
  clear C4 o5
  go_wp2_with fail
  go_ret
  exact ⟨rfl, unhide FF⟩
set_option maxRecDepth 100000 in
theorem xbit_any (b : Bool) (w : World) : Calls Tryz.prog 63 #[.bool b] w fun e w' => e = .returned (.int .i64 (if b = true then 1 else 0)) ∧ w = w' := by
  cases b with
  | true =>
    go_enter Tryz.func63, Tryz.ntmps63
    go_wp2_with fail
    go_ret
    exact ⟨rfl, rfl⟩
  | false =>
    go_enter Tryz.func63, Tryz.ntmps63
    go_wp2_with fail
    go_ret
    exact ⟨rfl, rfl⟩
theorem Tryz.sizeEBound : (Tryz.prog.info? 113).map (·.size) = some 4 := by kernel_rfl
theorem Tryz.sizeXLAns : (Tryz.prog.info? 54).map (·.size) = some 9 := by kernel_rfl
theorem res1_cell {fn : Func} {p : Tmp} {ty : TypeId} (h : fn.results = #[.cell p ty]) (tmps : Array Value) {w : World} {g : Nat} {c : Array Value} (hp : tmps.getD p undef = .pointer (some ⟨g, 0, none⟩)) (hl : (loadVar ty ⟨g, 0, none⟩).run Tryz.prog w = .ok (.agg c) w) : (results fn tmps).run Tryz.prog w = .ok (.agg c) w := by
  simp only [results, h]
  have hp' : tmps[p]?.getD undef = .pointer (some ⟨g, 0, none⟩) := by simpa using hp
  simp [Sem.run_bind, Result.andThen, hp', asAddr, hl]
theorem res1_bd {fn : Func} {p : Tmp} (h : fn.results = #[.cell p 113]) (tmps : Array Value) {w : World} {g : Nat} {c : Array Value} (hp : tmps.getD p undef = .pointer (some ⟨g, 0, none⟩)) (hn : Has w g c 113) (hc : c.size = 4) : (results fn tmps).run Tryz.prog w = .ok (.agg c) w :=
  res1_cell h tmps hp (run_loadVar_row w g 113 113 _ (0, 0) _ hn Tryz.underlying113 rfl (by rw [Tryz.sizeEBound, hc]))
theorem res1_an {fn : Func} {p : Tmp} (h : fn.results = #[.cell p 54]) (tmps : Array Value) {w : World} {g : Nat} {c : Array Value} (hp : tmps.getD p undef = .pointer (some ⟨g, 0, none⟩)) (hn : Has w g c 54) (hc : c.size = 9) : (results fn tmps).run Tryz.prog w = .ok (.agg c) w :=
  res1_cell h tmps hp (run_loadVar_row w g 54 54 _ (0, 0) _ hn Tryz.underlying54 rfl (by rw [Tryz.sizeXLAns, hc]))
set_option maxRecDepth 100000 in
set_option maxHeartbeats 1000000 in
theorem lo_any (kd a bb cc : Int) (s t : ByteArray) (hT : t.size ≤ maxLen) (w : World) : Calls Tryz.prog 57 #[opX kd a bb cc s t] w fun e w' => e = .returned (bdA (bits BinOp.and IntKind.i64 cc 1 != 0) (fstP t)) ∧ Only (fun _ => False) w w' := by
  have o1 : Only (fun _ => False) w ((w.alloc (.cells #[.int .i64 kd, .int .i64 a, .int .i64 bb, .int .i64 cc, .string s, .string t] 44)).alloc (.cells #[.bool false, .bool false, .int .i64 0, .string ⟨#[]⟩] 113)) := ((Only.refl _ _).alloc _).alloc _
  have A1 : Has ((w.alloc (.cells #[.int .i64 kd, .int .i64 a, .int .i64 bb, .int .i64 cc, .string s, .string t] 44)).alloc (.cells #[.bool false, .bool false, .int .i64 0, .string ⟨#[]⟩] 113)) w.heap.size #[.int .i64 kd, .int .i64 a, .int .i64 bb, .int .i64 cc, .string s, .string t] 44 := (Has.new w _ _).alloc _
  have B1 : Has ((w.alloc (.cells #[.int .i64 kd, .int .i64 a, .int .i64 bb, .int .i64 cc, .string s, .string t] 44)).alloc (.cells #[.bool false, .bool false, .int .i64 0, .string ⟨#[]⟩] 113)) (w.heap.size + 1) #[.bool false, .bool false, .int .i64 0, .string ⟨#[]⟩] 113 := Has.new' _ _ _ _ (by simp)
  have HA := hide A1
  have HB := hide B1
  have HO := hide o1
  obtain ⟨key, hkey⟩ : ∃ key, fstP t = key := ⟨_, rfl⟩
  rw [hkey]
  have HK := hide (And.intro hT hkey)
  clear hT hkey o1 A1 B1
  unfold opX
  go_enter Tryz.func57, Tryz.ntmps57
  go_upto_region 1 with fail
  generalize (w.alloc (.cells #[.int .i64 kd, .int .i64 a, .int .i64 bb, .int .i64 cc, .string s, .string t] 44)).alloc (.cells #[.bool false, .bool false, .int .i64 0, .string ⟨#[]⟩] 113) = w1 at *
  have hkl := (unhide HA).lt
  have hkb := (unhide HB).lt
  generalize hka : w.heap.size = ka at *
  have Hka := hide hka
  clear hka
  have a3 : w1.cell? ⟨ka, 3, none⟩ = some (.int .i64 cc) := (unhide HA).cell 3
  have a5 : w1.cell? ⟨ka, 5, none⟩ = some (.string t) := (unhide HA).cell 5
  have C1 := eFirst_any t (unhide HK).1 w1.drew
  rw [(unhide HK).2] at C1
  unfold vlA at C1
  have C1 := hide C1
  refine wp_region_held_drew (S := (fun w' => w'.cell? ⟨ka, 3, none⟩ = some (.int .i64 cc) ∧ w'.cell? ⟨ka, 5, none⟩ = some (.string t))) (by kernel_rfl) ⟨a3, a5⟩ (fun hH0 => ?_)
  refine takeH 0 3 (v := ?vl1) rfl rfl (by kernel_rfl) (by kernel_rfl) (by kernel_rfl) (fun _ _ _ h => h) (Or.inl ⟨by rfl, ?hl1⟩) hH0 ?rl1
  case hl1 => (intro w hSw; clear hSw; go_simp; (try with_reducible rfl))
  case rl1 =>
  try simp only [Act.put, List.setIfInBounds_toArray, List.set_cons_zero, List.set_cons_succ]
  refine takeH 1 4 (v := ?vl2) rfl rfl (by kernel_rfl) (by kernel_rfl) (by kernel_rfl) (fun _ _ _ h => h) (Or.inl ⟨by rfl, ?hl2⟩) hH0 ?rl2
  case hl2 => (intro w hSw; obtain ⟨s0, s1⟩ := hSw; go_simp; (try with_reducible rfl))
  case rl2 =>
  try simp only [Act.put, List.setIfInBounds_toArray, List.set_cons_zero, List.set_cons_succ]
  refine takeH 2 5 (v := ?vl3) rfl rfl (by kernel_rfl) (by kernel_rfl) (by kernel_rfl) (fun _ _ _ h => h) (Or.inl ⟨by rfl, ?hl3⟩) hH0 ?rl3
  case hl3 => (intro w hSw; clear hSw; go_simp; (try with_reducible rfl))
  case rl3 =>
  try simp only [Act.put, List.setIfInBounds_toArray, List.set_cons_zero, List.set_cons_succ]
  refine takeH 3 6 (v := ?vl4) rfl rfl (by kernel_rfl) (by kernel_rfl) (by kernel_rfl) (fun _ _ _ h => h) (Or.inl ⟨by rfl, ?hl4⟩) hH0 ?rl4
  case hl4 => (intro w hSw; clear hSw; go_simp; (try with_reducible rfl))
  case rl4 =>
  try simp only [Act.put, List.setIfInBounds_toArray, List.set_cons_zero, List.set_cons_succ]
  refine takeH 4 7 (v := ?vl5) rfl rfl (by kernel_rfl) (by kernel_rfl) (by kernel_rfl) (fun _ _ _ h => h) (Or.inl ⟨by rfl, ?hl5⟩) hH0 ?rl5
  case hl5 => (intro w hSw; clear hSw; go_simp; (try with_reducible rfl))
  case rl5 =>
  try simp only [Act.put, List.setIfInBounds_toArray, List.set_cons_zero, List.set_cons_succ]
  refine takeH 5 8 (v := ?vl6) rfl rfl (by kernel_rfl) (by kernel_rfl) (by kernel_rfl) (fun _ _ _ h => h) (Or.inl ⟨by rfl, ?hl6⟩) hH0 ?rl6
  case hl6 => (intro w hSw; obtain ⟨s0, s1⟩ := hSw; go_simp; (try with_reducible rfl))
  case rl6 =>
  try simp only [Act.put, List.setIfInBounds_toArray, List.set_cons_zero, List.set_cons_succ]
  refine callH 6 (by kernel_rfl) rfl 9 rfl rfl 53 Tryz.func53 (by kernel_rfl) (by kernel_rfl) #[.tmp 8] #[9] rfl #[.string t] (by simp [Act.eval]) (R := fun v w' => v = .agg #[.bool key.str, .int .i64 key.i, .string key.s] ∧ Only (fun _ => False) w1.drew w') ((unhide C1).mono (by rintro en w' ⟨rfl, o⟩; exact ⟨_, rfl, rfl, o⟩)) ?kl
  case kl =>
  rintro _ w6 ⟨rfl, o6⟩
  have S6 : w6.cell? ⟨ka, 3, none⟩ = some (.int .i64 cc) ∧ w6.cell? ⟨ka, 5, none⟩ = some (.string t) := ⟨o6.cellF hH0.1, o6.cellF hH0.2⟩
  refine ⟨S6, ?_⟩
  try simp only [Act.put, List.setIfInBounds_toArray, List.set_cons_zero, List.set_cons_succ]
  refine takeH 7 10 (v := ?vl7) rfl rfl (by kernel_rfl) (by kernel_rfl) (by kernel_rfl) (fun _ _ _ h => h) (Or.inl ⟨by rfl, ?hl7⟩) S6 ?rl7
  case hl7 => (intro w hSw; clear hSw; go_simp; (try with_reducible rfl))
  case rl7 =>
  try simp only [Act.put, List.setIfInBounds_toArray, List.set_cons_zero, List.set_cons_succ]
  have N6 := (unhide HB).keep (((Only.refl (fun _ => False) w1).drew).trans o6 (fun _ _ h => h)) (fun h => h)
  refine storeH_row 113 8 (by kernel_rfl) rfl rfl rfl _ _ rfl (ka + 1) #[.bool (bits BinOp.and IntKind.i64 cc 1 != 0), .bool key.str, .int .i64 key.i, .string key.s] #[.bool false, .bool false, .int .i64 0, .string ⟨#[]⟩] rfl rfl N6 (by rw [Tryz.sizeEBound]; rfl) rfl (by kernel_rfl) ?_
  intro w7 N7 o7
  refine ⟨⟨cell_keepX S6.1 o7 (fun e => by have e' : ka = ka + 1 := e; omega), cell_keepX S6.2 o7 (fun e => by have e' : ka = ka + 1 := e; omega)⟩, ?_⟩
  try simp only [Act.put, List.setIfInBounds_toArray, List.set_cons_zero, List.set_cons_succ]
  refine wpAnyH_done (by kernel_rfl) ?_ _
  have HH := hide N7
  have HOO := hide ((((((Only.refl (fun _ => False) w1).drew).trans o6 (fun _ _ h => h)).mono (T := fun k => k = ka + 1) (fun _ _ h => h.elim))).trans o7 (fun _ _ h => h))
  clear hH0 S6 o6 N6 N7 o7
  go_wp2_with fail
  refine bodyPost_ret (res1_bd Tryz.results57 _ rfl (unhide HH) rfl) rfl ⟨rfl, ?_⟩
  exact ((unhide HO).mono (T := fun k => k = ka + 1) (fun _ _ h => h.elim)).trans (unhide HOO) (fun _ _ h => h) |>.mono (fun k hl h => by have := unhide Hka; omega)
set_option maxRecDepth 100000 in
set_option maxHeartbeats 1000000 in
theorem hi_any (kd a bb cc : Int) (s t : ByteArray) (hT : t.size ≤ maxLen) (w : World) : Calls Tryz.prog 58 #[opX kd a bb cc s t] w fun e w' => e = .returned (bdA (bits BinOp.and IntKind.i64 cc 2 != 0) (sndP t)) ∧ Only (fun _ => False) w w' := by
  have o1 : Only (fun _ => False) w ((w.alloc (.cells #[.int .i64 kd, .int .i64 a, .int .i64 bb, .int .i64 cc, .string s, .string t] 44)).alloc (.cells #[.bool false, .bool false, .int .i64 0, .string ⟨#[]⟩] 113)) := ((Only.refl _ _).alloc _).alloc _
  have A1 : Has ((w.alloc (.cells #[.int .i64 kd, .int .i64 a, .int .i64 bb, .int .i64 cc, .string s, .string t] 44)).alloc (.cells #[.bool false, .bool false, .int .i64 0, .string ⟨#[]⟩] 113)) w.heap.size #[.int .i64 kd, .int .i64 a, .int .i64 bb, .int .i64 cc, .string s, .string t] 44 := (Has.new w _ _).alloc _
  have B1 : Has ((w.alloc (.cells #[.int .i64 kd, .int .i64 a, .int .i64 bb, .int .i64 cc, .string s, .string t] 44)).alloc (.cells #[.bool false, .bool false, .int .i64 0, .string ⟨#[]⟩] 113)) (w.heap.size + 1) #[.bool false, .bool false, .int .i64 0, .string ⟨#[]⟩] 113 := Has.new' _ _ _ _ (by simp)
  have HA := hide A1
  have HB := hide B1
  have HO := hide o1
  obtain ⟨key, hkey⟩ : ∃ key, sndP t = key := ⟨_, rfl⟩
  rw [hkey]
  have HK := hide (And.intro hT hkey)
  clear hT hkey o1 A1 B1
  unfold opX
  go_enter Tryz.func58, Tryz.ntmps58
  go_upto_region 1 with fail
  generalize (w.alloc (.cells #[.int .i64 kd, .int .i64 a, .int .i64 bb, .int .i64 cc, .string s, .string t] 44)).alloc (.cells #[.bool false, .bool false, .int .i64 0, .string ⟨#[]⟩] 113) = w1 at *
  have hkl := (unhide HA).lt
  have hkb := (unhide HB).lt
  generalize hka : w.heap.size = ka at *
  have Hka := hide hka
  clear hka
  have a3 : w1.cell? ⟨ka, 3, none⟩ = some (.int .i64 cc) := (unhide HA).cell 3
  have a5 : w1.cell? ⟨ka, 5, none⟩ = some (.string t) := (unhide HA).cell 5
  have C1 := eSecond_any t (unhide HK).1 w1.drew
  rw [(unhide HK).2] at C1
  unfold vlA at C1
  have C1 := hide C1
  refine wp_region_held_drew (S := (fun w' => w'.cell? ⟨ka, 3, none⟩ = some (.int .i64 cc) ∧ w'.cell? ⟨ka, 5, none⟩ = some (.string t))) (by kernel_rfl) ⟨a3, a5⟩ (fun hH0 => ?_)
  refine takeH 0 3 (v := ?vl1) rfl rfl (by kernel_rfl) (by kernel_rfl) (by kernel_rfl) (fun _ _ _ h => h) (Or.inl ⟨by rfl, ?hl1⟩) hH0 ?rl1
  case hl1 => (intro w hSw; clear hSw; go_simp; (try with_reducible rfl))
  case rl1 =>
  try simp only [Act.put, List.setIfInBounds_toArray, List.set_cons_zero, List.set_cons_succ]
  refine takeH 1 4 (v := ?vl2) rfl rfl (by kernel_rfl) (by kernel_rfl) (by kernel_rfl) (fun _ _ _ h => h) (Or.inl ⟨by rfl, ?hl2⟩) hH0 ?rl2
  case hl2 => (intro w hSw; obtain ⟨s0, s1⟩ := hSw; go_simp; (try with_reducible rfl))
  case rl2 =>
  try simp only [Act.put, List.setIfInBounds_toArray, List.set_cons_zero, List.set_cons_succ]
  refine takeH 2 5 (v := ?vl3) rfl rfl (by kernel_rfl) (by kernel_rfl) (by kernel_rfl) (fun _ _ _ h => h) (Or.inl ⟨by rfl, ?hl3⟩) hH0 ?rl3
  case hl3 => (intro w hSw; clear hSw; go_simp; (try with_reducible rfl))
  case rl3 =>
  try simp only [Act.put, List.setIfInBounds_toArray, List.set_cons_zero, List.set_cons_succ]
  refine takeH 3 6 (v := ?vl4) rfl rfl (by kernel_rfl) (by kernel_rfl) (by kernel_rfl) (fun _ _ _ h => h) (Or.inl ⟨by rfl, ?hl4⟩) hH0 ?rl4
  case hl4 => (intro w hSw; clear hSw; go_simp; (try with_reducible rfl))
  case rl4 =>
  try simp only [Act.put, List.setIfInBounds_toArray, List.set_cons_zero, List.set_cons_succ]
  refine takeH 4 7 (v := ?vl5) rfl rfl (by kernel_rfl) (by kernel_rfl) (by kernel_rfl) (fun _ _ _ h => h) (Or.inl ⟨by rfl, ?hl5⟩) hH0 ?rl5
  case hl5 => (intro w hSw; clear hSw; go_simp; (try with_reducible rfl))
  case rl5 =>
  try simp only [Act.put, List.setIfInBounds_toArray, List.set_cons_zero, List.set_cons_succ]
  refine takeH 5 8 (v := ?vl6) rfl rfl (by kernel_rfl) (by kernel_rfl) (by kernel_rfl) (fun _ _ _ h => h) (Or.inl ⟨by rfl, ?hl6⟩) hH0 ?rl6
  case hl6 => (intro w hSw; obtain ⟨s0, s1⟩ := hSw; go_simp; (try with_reducible rfl))
  case rl6 =>
  try simp only [Act.put, List.setIfInBounds_toArray, List.set_cons_zero, List.set_cons_succ]
  refine callH 6 (by kernel_rfl) rfl 9 rfl rfl 138 Tryz.func138 (by kernel_rfl) (by kernel_rfl) #[.tmp 8] #[9] rfl #[.string t] (by simp [Act.eval]) (R := fun v w' => v = .agg #[.bool key.str, .int .i64 key.i, .string key.s] ∧ Only (fun _ => False) w1.drew w') ((unhide C1).mono (by rintro en w' ⟨rfl, o⟩; exact ⟨_, rfl, rfl, o⟩)) ?kl
  case kl =>
  rintro _ w6 ⟨rfl, o6⟩
  have S6 : w6.cell? ⟨ka, 3, none⟩ = some (.int .i64 cc) ∧ w6.cell? ⟨ka, 5, none⟩ = some (.string t) := ⟨o6.cellF hH0.1, o6.cellF hH0.2⟩
  refine ⟨S6, ?_⟩
  try simp only [Act.put, List.setIfInBounds_toArray, List.set_cons_zero, List.set_cons_succ]
  refine takeH 7 10 (v := ?vl7) rfl rfl (by kernel_rfl) (by kernel_rfl) (by kernel_rfl) (fun _ _ _ h => h) (Or.inl ⟨by rfl, ?hl7⟩) S6 ?rl7
  case hl7 => (intro w hSw; clear hSw; go_simp; (try with_reducible rfl))
  case rl7 =>
  try simp only [Act.put, List.setIfInBounds_toArray, List.set_cons_zero, List.set_cons_succ]
  have N6 := (unhide HB).keep (((Only.refl (fun _ => False) w1).drew).trans o6 (fun _ _ h => h)) (fun h => h)
  refine storeH_row 113 8 (by kernel_rfl) rfl rfl rfl _ _ rfl (ka + 1) #[.bool (bits BinOp.and IntKind.i64 cc 2 != 0), .bool key.str, .int .i64 key.i, .string key.s] #[.bool false, .bool false, .int .i64 0, .string ⟨#[]⟩] rfl rfl N6 (by rw [Tryz.sizeEBound]; rfl) rfl (by kernel_rfl) ?_
  intro w7 N7 o7
  refine ⟨⟨cell_keepX S6.1 o7 (fun e => by have e' : ka = ka + 1 := e; omega), cell_keepX S6.2 o7 (fun e => by have e' : ka = ka + 1 := e; omega)⟩, ?_⟩
  try simp only [Act.put, List.setIfInBounds_toArray, List.set_cons_zero, List.set_cons_succ]
  refine wpAnyH_done (by kernel_rfl) ?_ _
  have HH := hide N7
  have HOO := hide ((((((Only.refl (fun _ => False) w1).drew).trans o6 (fun _ _ h => h)).mono (T := fun k => k = ka + 1) (fun _ _ h => h.elim))).trans o7 (fun _ _ h => h))
  clear hH0 S6 o6 N6 N7 o7
  go_wp2_with fail
  refine bodyPost_ret (res1_bd Tryz.results58 _ rfl (unhide HH) rfl) rfl ⟨rfl, ?_⟩
  exact ((unhide HO).mono (T := fun k => k = ka + 1) (fun _ _ h => h.elim)).trans (unhide HOO) (fun _ _ h => h) |>.mono (fun k hl h => by have := unhide Hka; omega)
end
end Go.Proofs.Qxb6500414aGreat
