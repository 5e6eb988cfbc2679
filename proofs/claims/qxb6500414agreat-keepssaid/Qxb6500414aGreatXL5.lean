/-
  OWN WORK. THE TXN LAW: PlayReal: what goes in is spoilt (written by tools/gen_xl4.py).
-/
import Derived.Test.Qxb6500414aGreatXL4
import Derived.Test.Qxb6500414aGreatJG9
namespace Go.Proofs.Qxb6500414aGreat
open Go.RowKit Go.PlainAid
set_option linter.unusedSimpArgs false
set_option linter.unusedVariables false

section
variable {q : Gnd} {w : World} {g x : Nat} {M : Mu} {K : Nat → Prop}
theorem xcolsP_len (t : ByteArray) : (colsP t).length ≤ 100 := by
  have := colsF_len (fieldsP t 8 0) false 4
  unfold colsP
  omega
set_option maxRecDepth 100000 in
set_option maxHeartbeats 2000000 in
theorem prX_any (R : RX q w g x M K) (hrc : q.recs.length ≤ 300) (kd : Int) (hkd : kd < 1 ∨ 18 ≤ kd) (a bb cc : Int) (s t : ByteArray) (hT : t.size ≤ maxLen) : Calls Tryz.prog 14 #[.pointer (some ⟨g, 0, none⟩), opX kd a bb cc s t] w (PrP q w g x M K kd a bb cc s t) := by
  have o1 : Only (fun _ => False) w ((w.alloc (.cells #[.int .i64 kd, .int .i64 a, .int .i64 bb, .int .i64 cc, .string s, .string t] 44)).alloc (.cells #[.int .i64 0, .int .i64 0, .slice none 0 0, .slice none 0 0, .string ⟨#[]⟩, .slice none 0 0, .int .i64 0, .int .i64 0, .slice none 0 0] 54)) := ((Only.refl _ _).alloc _).alloc _
  have A1 : Has ((w.alloc (.cells #[.int .i64 kd, .int .i64 a, .int .i64 bb, .int .i64 cc, .string s, .string t] 44)).alloc (.cells #[.int .i64 0, .int .i64 0, .slice none 0 0, .slice none 0 0, .string ⟨#[]⟩, .slice none 0 0, .int .i64 0, .int .i64 0, .slice none 0 0] 54)) w.heap.size #[.int .i64 kd, .int .i64 a, .int .i64 bb, .int .i64 cc, .string s, .string t] 44 := (Has.new w _ _).alloc _
  have B1 : Has ((w.alloc (.cells #[.int .i64 kd, .int .i64 a, .int .i64 bb, .int .i64 cc, .string s, .string t] 44)).alloc (.cells #[.int .i64 0, .int .i64 0, .slice none 0 0, .slice none 0 0, .string ⟨#[]⟩, .slice none 0 0, .int .i64 0, .int .i64 0, .slice none 0 0] 54)) (w.heap.size + 1) #[.int .i64 0, .int .i64 0, .slice none 0 0, .slice none 0 0, .string ⟨#[]⟩, .slice none 0 0, .int .i64 0, .int .i64 0, .slice none 0 0] 54 := Has.new' _ _ _ _ (by simp)
  have HR := hide (R.quiet o1)
  have HKl := hide (show ∀ k, K k → k < w.heap.size from fun k h => (R.kA k h).2.2)
  have HAl := hide (show ∀ k, q.A k ∨ k = x → k < w.heap.size from fun k h => h.elim (R.Alt.1 k) (fun e => by rw [e]; exact R.Alt.2))
  have HA := hide A1
  have HB := hide B1
  have HO := hide o1
  have HT := hide hT
  clear R o1 A1 B1 hT
  unfold opX
  go_enter Tryz.func14, Tryz.ntmps14
  go_upto_region 1 with fail
  generalize ((w.alloc (.cells #[.int .i64 kd, .int .i64 a, .int .i64 bb, .int .i64 cc, .string s, .string t] 44)).alloc (.cells #[.int .i64 0, .int .i64 0, .slice none 0 0, .slice none 0 0, .string ⟨#[]⟩, .slice none 0 0, .int .i64 0, .int .i64 0, .slice none 0 0] 54)) = w1 at *
  have ka1 := (unhide HA).lt
  have kb1 := (unhide HB).lt
  generalize hka : w.heap.size = ka at *
  have Hka := hide hka
  clear hka
  have a0 : w1.cell? ⟨ka, 0, none⟩ = some (.int .i64 kd) := (unhide HA).cell 0
  have e1 : (kd == 1) = false := ne_intO (by omega)
  have e2 : (kd == 2) = false := ne_intO (by omega)
  have e3 : (kd == 3) = false := ne_intO (by omega)
  have e4 : (kd == 4) = false := ne_intO (by omega)
  have e5 : (kd == 5) = false := ne_intO (by omega)
  have e6 : (kd == 6) = false := ne_intO (by omega)
  have e7 : (kd == 7) = false := ne_intO (by omega)
  have e8 : (kd == 8) = false := ne_intO (by omega)
  have e9 : (kd == 9) = false := ne_intO (by omega)
  have e10 : (kd == 10) = false := ne_intO (by omega)
  have e11 : (kd == 11) = false := ne_intO (by omega)
  have e12 : (kd == 12) = false := ne_intO (by omega)
  have e13 : (kd == 13) = false := ne_intO (by omega)
  have e14 : (kd == 14) = false := ne_intO (by omega)
  have e15 : (kd == 15) = false := ne_intO (by omega)
  have e16 : (kd == 16) = false := ne_intO (by omega)
  have e17 : (kd == 17) = false := ne_intO (by omega)
  have HQ := hide (show PrQ q w1 g x M K kd a bb cc s t An.z w1 from PrP.p (unhide HR).rp (.oth kd hkd) ⟨0, 0, rfl⟩ rfl)
  have HNZ := HB
  have n0 : w1.cell? ⟨ka + 1, 0, none⟩ = some (.int .i64 0) := (unhide HB).cell 0
  have f0 : w1.frozen? ⟨ka + 1, 0, none⟩ = false := (unhide HB).free 0
  have n1 : w1.cell? ⟨ka + 1, 1, none⟩ = some (.int .i64 0) := (unhide HB).cell 1
  have f1 : w1.frozen? ⟨ka + 1, 1, none⟩ = false := (unhide HB).free 1
  have n2 : w1.cell? ⟨ka + 1, 2, none⟩ = some (.slice none 0 0) := (unhide HB).cell 2
  have f2 : w1.frozen? ⟨ka + 1, 2, none⟩ = false := (unhide HB).free 2
  have n3 : w1.cell? ⟨ka + 1, 3, none⟩ = some (.slice none 0 0) := (unhide HB).cell 3
  have f3 : w1.frozen? ⟨ka + 1, 3, none⟩ = false := (unhide HB).free 3
  have n4 : w1.cell? ⟨ka + 1, 4, none⟩ = some (.string ⟨#[]⟩) := (unhide HB).cell 4
  have f4 : w1.frozen? ⟨ka + 1, 4, none⟩ = false := (unhide HB).free 4
  have n5 : w1.cell? ⟨ka + 1, 5, none⟩ = some (.slice none 0 0) := (unhide HB).cell 5
  have f5 : w1.frozen? ⟨ka + 1, 5, none⟩ = false := (unhide HB).free 5
  have n6 : w1.cell? ⟨ka + 1, 6, none⟩ = some (.int .i64 0) := (unhide HB).cell 6
  have f6 : w1.frozen? ⟨ka + 1, 6, none⟩ = false := (unhide HB).free 6
  have n7 : w1.cell? ⟨ka + 1, 7, none⟩ = some (.int .i64 0) := (unhide HB).cell 7
  have f7 : w1.frozen? ⟨ka + 1, 7, none⟩ = false := (unhide HB).free 7
  have n8 : w1.cell? ⟨ka + 1, 8, none⟩ = some (.slice none 0 0) := (unhide HB).cell 8
  have f8 : w1.frozen? ⟨ka + 1, 8, none⟩ = false := (unhide HB).free 8
  have FF := hide (fun v0 v1 v2 v3 v4 v5 v6 v7 v8 => (unhide HQ).fin (B := fun b => b = ka + 1) (unhide HO) (only9 _ _ _ _ _ _ _ _ _ _ _ : Only _ _ ((((((((((w1.setCell ⟨ka + 1, 0, none⟩ v0).setCell ⟨ka + 1, 1, none⟩ v1).setCell ⟨ka + 1, 2, none⟩ v2).setCell ⟨ka + 1, 3, none⟩ v3).setCell ⟨ka + 1, 4, none⟩ v4).setCell ⟨ka + 1, 5, none⟩ v5).setCell ⟨ka + 1, 6, none⟩ v6).setCell ⟨ka + 1, 7, none⟩ v7).setCell ⟨ka + 1, 8, none⟩ v8))) (fun k h => by have h' : k = ka + 1 := h; have := unhide Hka; omega) (fun k h => by have := unhide HKl k h; have := unhide Hka; omega) (fun k h => by have := unhide HAl k h; have := unhide Hka; omega))
  have HG := hide (fun v0 v1 v2 v3 v4 v5 v6 v7 v8 => set9 (unhide HNZ) v0 v1 v2 v3 v4 v5 v6 v7 v8)
  go_wp2_with fail
  exact bodyPost_ret (res1_an Tryz.results14 _ rfl (unhide HG _ _ _ _ _ _ _ _ _) rfl) rfl (unhide FF _ _ _ _ _ _ _ _ _)
set_option maxRecDepth 100000 in
set_option maxHeartbeats 2000000 in
theorem pr4_any (R : RX q w g x M K) (hrc : q.recs.length ≤ 300) (a bb cc : Int) (s t : ByteArray) (hT : t.size ≤ maxLen) : Calls Tryz.prog 14 #[.pointer (some ⟨g, 0, none⟩), opX 4 a bb cc s t] w (PrP q w g x M K 4 a bb cc s t) := by
  have o1 : Only (fun _ => False) w ((w.alloc (.cells #[.int .i64 4, .int .i64 a, .int .i64 bb, .int .i64 cc, .string s, .string t] 44)).alloc (.cells #[.int .i64 0, .int .i64 0, .slice none 0 0, .slice none 0 0, .string ⟨#[]⟩, .slice none 0 0, .int .i64 0, .int .i64 0, .slice none 0 0] 54)) := ((Only.refl _ _).alloc _).alloc _
  have A1 : Has ((w.alloc (.cells #[.int .i64 4, .int .i64 a, .int .i64 bb, .int .i64 cc, .string s, .string t] 44)).alloc (.cells #[.int .i64 0, .int .i64 0, .slice none 0 0, .slice none 0 0, .string ⟨#[]⟩, .slice none 0 0, .int .i64 0, .int .i64 0, .slice none 0 0] 54)) w.heap.size #[.int .i64 4, .int .i64 a, .int .i64 bb, .int .i64 cc, .string s, .string t] 44 := (Has.new w _ _).alloc _
  have B1 : Has ((w.alloc (.cells #[.int .i64 4, .int .i64 a, .int .i64 bb, .int .i64 cc, .string s, .string t] 44)).alloc (.cells #[.int .i64 0, .int .i64 0, .slice none 0 0, .slice none 0 0, .string ⟨#[]⟩, .slice none 0 0, .int .i64 0, .int .i64 0, .slice none 0 0] 54)) (w.heap.size + 1) #[.int .i64 0, .int .i64 0, .slice none 0 0, .slice none 0 0, .string ⟨#[]⟩, .slice none 0 0, .int .i64 0, .int .i64 0, .slice none 0 0] 54 := Has.new' _ _ _ _ (by simp)
  have HR := hide (R.quiet o1)
  have HKl := hide (show ∀ k, K k → k < w.heap.size from fun k h => (R.kA k h).2.2)
  have HAl := hide (show ∀ k, q.A k ∨ k = x → k < w.heap.size from fun k h => h.elim (R.Alt.1 k) (fun e => by rw [e]; exact R.Alt.2))
  have HA := hide A1
  have HB := hide B1
  have HO := hide o1
  have HT := hide hT
  clear R o1 A1 B1 hT
  unfold opX
  go_enter Tryz.func14, Tryz.ntmps14
  go_upto_region 1 with fail
  generalize ((w.alloc (.cells #[.int .i64 4, .int .i64 a, .int .i64 bb, .int .i64 cc, .string s, .string t] 44)).alloc (.cells #[.int .i64 0, .int .i64 0, .slice none 0 0, .slice none 0 0, .string ⟨#[]⟩, .slice none 0 0, .int .i64 0, .int .i64 0, .slice none 0 0] 54)) = w1 at *
  have ka1 := (unhide HA).lt
  have kb1 := (unhide HB).lt
  generalize hka : w.heap.size = ka at *
  have Hka := hide hka
  clear hka
  have a0 : w1.cell? ⟨ka, 0, none⟩ = some (.int .i64 4) := (unhide HA).cell 0
  have a5 : w1.cell? ⟨ka, 5, none⟩ = some (.string t) := (unhide HA).cell 5
  have C1 := hide (eColsOf_any t (unhide HT) w1)
  go_wp2_with fail
  refine (unhide C1).mono ?_
  rintro e w2 ⟨v, rfl, hG⟩
  have O2 : OwnC w2 v (colsP t) := hG.own
  obtain ⟨va, vc, hv⟩ := O2.shape
  have hvb := hG.hb
  have o2 := hG.ho
  have s2 := o2.size
  have HR2 := hide ((unhide HR).quiet o2)
  have HA2 := hide ((unhide HA).keep o2 (fun h => h))
  have HB2 := hide ((unhide HB).keep o2 (fun h => h))
  have HO2 := hide ((unhide HO).trans o2 (fun _ _ h => h))
  have hvq : ∀ k, v.ownBlock = some k → ¬ q.S k := fun k hk h => by have := hvb k hk; have := unhide HAl k (.inl (Gnd.S_A h)); omega
  have hvl : ∀ k, v.ownBlock = some k → ka + 1 < k ∧ k < w2.heap.size := fun k hk => ⟨by have := hvb k hk; omega, O2.lt k hk⟩
  obtain ⟨ln, hln⟩ : ∃ n, (colsP t).length = n := ⟨_, rfl⟩
  rw [hln] at hv
  rw [hv] at O2 hvq hvl
  subst hv
  have C2 := hide (q4_any (unhide HR2) hrc a bb cc s t O2 hvq (xcolsP_len t))
  have HO2v := hide (And.intro O2 hvl)
  clear C1 hG O2 hvb o2 hvq hvl a0 a5 hln
  have a1 : w2.cell? ⟨ka, 1, none⟩ = some (.int .i64 a) := (unhide HA2).cell 1
  have a2 : w2.cell? ⟨ka, 2, none⟩ = some (.int .i64 bb) := (unhide HA2).cell 2
  have a4 : w2.cell? ⟨ka, 4, none⟩ = some (.string s) := (unhide HA2).cell 4
  have ka2 := (unhide HA2).lt
  go_wp2_with fail
  refine (unhide C2).mono ?_
  rintro e w3 ⟨z, rfl, hQ⟩
  have O3 := (unhide HO2v).1.keep hQ.only (fun k hk c => c.elim (fun h => by have := unhide HAl k (.inl h); have := (unhide HO2v).2 k hk; omega) (fun h => by have := unhide HKl k h; have := (unhide HO2v).2 k hk; omega))
  have NZ := (unhide HB2).keep hQ.only (fun c => c.elim (fun h => by have := unhide HAl (ka + 1) (.inl h); omega) (fun h => by have := unhide HKl (ka + 1) h; omega))
  have C3 := hide (spoilCols_any O3 (by have := xcolsP_len t; omega))
  have HP := hide hQ
  have HNB := hide NZ
  clear C2 hQ O3 NZ a1 a2 a4
  go_wp2_with fail
  refine (unhide C3).mono ?_
  rintro e w4 ⟨rfl, o4⟩
  have NZ := (unhide HNB).keep o4 (fun h => by have := (unhide HO2v).2 (ka + 1) h; omega)
  have HNZ := hide NZ
  have kz := NZ.lt
  have HO4 := hide o4
  have kb2 := (unhide HB2).lt
  have n0 : w4.cell? ⟨ka + 1, 0, none⟩ = some (.int .i64 0) := NZ.cell 0
  have f0 : w4.frozen? ⟨ka + 1, 0, none⟩ = false := NZ.free 0
  have n1 : w4.cell? ⟨ka + 1, 1, none⟩ = some (.int .i64 0) := NZ.cell 1
  have f1 : w4.frozen? ⟨ka + 1, 1, none⟩ = false := NZ.free 1
  have n2 : w4.cell? ⟨ka + 1, 2, none⟩ = some (.slice none 0 0) := NZ.cell 2
  have f2 : w4.frozen? ⟨ka + 1, 2, none⟩ = false := NZ.free 2
  have n3 : w4.cell? ⟨ka + 1, 3, none⟩ = some (.slice none 0 0) := NZ.cell 3
  have f3 : w4.frozen? ⟨ka + 1, 3, none⟩ = false := NZ.free 3
  have n4 : w4.cell? ⟨ka + 1, 4, none⟩ = some (.string ⟨#[]⟩) := NZ.cell 4
  have f4 : w4.frozen? ⟨ka + 1, 4, none⟩ = false := NZ.free 4
  have n5 : w4.cell? ⟨ka + 1, 5, none⟩ = some (.slice none 0 0) := NZ.cell 5
  have f5 : w4.frozen? ⟨ka + 1, 5, none⟩ = false := NZ.free 5
  have n6 : w4.cell? ⟨ka + 1, 6, none⟩ = some (.int .i64 0) := NZ.cell 6
  have f6 : w4.frozen? ⟨ka + 1, 6, none⟩ = false := NZ.free 6
  have n7 : w4.cell? ⟨ka + 1, 7, none⟩ = some (.int .i64 0) := NZ.cell 7
  have f7 : w4.frozen? ⟨ka + 1, 7, none⟩ = false := NZ.free 7
  have n8 : w4.cell? ⟨ka + 1, 8, none⟩ = some (.slice none 0 0) := NZ.cell 8
  have f8 : w4.frozen? ⟨ka + 1, 8, none⟩ = false := NZ.free 8
  have FF := hide (fun v0 v1 v2 v3 v4 v5 v6 v7 v8 => (unhide HP).fin (B := fun b => b = ka + 1 ∨ (Value.slice va ln vc).ownBlock = some b) (unhide HO2) (((unhide HO4).mono (T := fun b => b = ka + 1 ∨ (Value.slice va ln vc).ownBlock = some b) (fun _ _ h => .inr h)).trans ((only9 _ _ _ _ _ _ _ _ _ _ _).mono (T := fun b => b = ka + 1 ∨ (Value.slice va ln vc).ownBlock = some b) (fun _ _ h => .inl h)) (fun _ _ h => h) : Only _ _ ((((((((((w4.setCell ⟨ka + 1, 0, none⟩ v0).setCell ⟨ka + 1, 1, none⟩ v1).setCell ⟨ka + 1, 2, none⟩ v2).setCell ⟨ka + 1, 3, none⟩ v3).setCell ⟨ka + 1, 4, none⟩ v4).setCell ⟨ka + 1, 5, none⟩ v5).setCell ⟨ka + 1, 6, none⟩ v6).setCell ⟨ka + 1, 7, none⟩ v7).setCell ⟨ka + 1, 8, none⟩ v8))) (fun k h => by have := unhide Hka; rcases h with h | h; omega; (have := (unhide HO2v).2 k h; omega)) (fun k h => by have := unhide HKl k h; have := unhide Hka; omega) (fun k h => by have := unhide HAl k h; have := unhide Hka; omega))
  have HG := hide (fun v0 v1 v2 v3 v4 v5 v6 v7 v8 => set9 (unhide HNZ) v0 v1 v2 v3 v4 v5 v6 v7 v8)
  clear C3 o4 NZ
  go_wp2_with fail
  exact bodyPost_ret (res1_an Tryz.results14 _ rfl (unhide HG _ _ _ _ _ _ _ _ _) rfl) rfl (unhide FF _ _ _ _ _ _ _ _ _)
set_option maxRecDepth 100000 in
set_option maxHeartbeats 2000000 in
theorem pr7_any (R : RX q w g x M K) (hrc : q.recs.length ≤ 300) (a bb cc : Int) (s t : ByteArray) (hT : t.size ≤ maxLen) : Calls Tryz.prog 14 #[.pointer (some ⟨g, 0, none⟩), opX 7 a bb cc s t] w (PrP q w g x M K 7 a bb cc s t) := by
  have o1 : Only (fun _ => False) w ((w.alloc (.cells #[.int .i64 7, .int .i64 a, .int .i64 bb, .int .i64 cc, .string s, .string t] 44)).alloc (.cells #[.int .i64 0, .int .i64 0, .slice none 0 0, .slice none 0 0, .string ⟨#[]⟩, .slice none 0 0, .int .i64 0, .int .i64 0, .slice none 0 0] 54)) := ((Only.refl _ _).alloc _).alloc _
  have A1 : Has ((w.alloc (.cells #[.int .i64 7, .int .i64 a, .int .i64 bb, .int .i64 cc, .string s, .string t] 44)).alloc (.cells #[.int .i64 0, .int .i64 0, .slice none 0 0, .slice none 0 0, .string ⟨#[]⟩, .slice none 0 0, .int .i64 0, .int .i64 0, .slice none 0 0] 54)) w.heap.size #[.int .i64 7, .int .i64 a, .int .i64 bb, .int .i64 cc, .string s, .string t] 44 := (Has.new w _ _).alloc _
  have B1 : Has ((w.alloc (.cells #[.int .i64 7, .int .i64 a, .int .i64 bb, .int .i64 cc, .string s, .string t] 44)).alloc (.cells #[.int .i64 0, .int .i64 0, .slice none 0 0, .slice none 0 0, .string ⟨#[]⟩, .slice none 0 0, .int .i64 0, .int .i64 0, .slice none 0 0] 54)) (w.heap.size + 1) #[.int .i64 0, .int .i64 0, .slice none 0 0, .slice none 0 0, .string ⟨#[]⟩, .slice none 0 0, .int .i64 0, .int .i64 0, .slice none 0 0] 54 := Has.new' _ _ _ _ (by simp)
  have HR := hide (R.quiet o1)
  have HKl := hide (show ∀ k, K k → k < w.heap.size from fun k h => (R.kA k h).2.2)
  have HAl := hide (show ∀ k, q.A k ∨ k = x → k < w.heap.size from fun k h => h.elim (R.Alt.1 k) (fun e => by rw [e]; exact R.Alt.2))
  have HA := hide A1
  have HB := hide B1
  have HO := hide o1
  have HT := hide hT
  clear R o1 A1 B1 hT
  unfold opX
  go_enter Tryz.func14, Tryz.ntmps14
  go_upto_region 1 with fail
  generalize ((w.alloc (.cells #[.int .i64 7, .int .i64 a, .int .i64 bb, .int .i64 cc, .string s, .string t] 44)).alloc (.cells #[.int .i64 0, .int .i64 0, .slice none 0 0, .slice none 0 0, .string ⟨#[]⟩, .slice none 0 0, .int .i64 0, .int .i64 0, .slice none 0 0] 54)) = w1 at *
  have ka1 := (unhide HA).lt
  have kb1 := (unhide HB).lt
  generalize hka : w.heap.size = ka at *
  have Hka := hide hka
  clear hka
  have a0 : w1.cell? ⟨ka, 0, none⟩ = some (.int .i64 7) := (unhide HA).cell 0
  have a5 : w1.cell? ⟨ka, 5, none⟩ = some (.string t) := (unhide HA).cell 5
  have C1 := hide (eRowOf_any t (unhide HT) w1)
  go_wp2_with fail
  refine (unhide C1).mono ?_
  rintro e w2 ⟨v, rfl, hG⟩
  have O2 : OwnV w2 v (rowP t) := hG.own
  obtain ⟨va, vc, hv⟩ := O2.shape
  have hvb := hG.hb
  have o2 := hG.ho
  have s2 := o2.size
  have HR2 := hide ((unhide HR).quiet o2)
  have HA2 := hide ((unhide HA).keep o2 (fun h => h))
  have HB2 := hide ((unhide HB).keep o2 (fun h => h))
  have HO2 := hide ((unhide HO).trans o2 (fun _ _ h => h))
  have hvq : ∀ k, v.ownBlock = some k → ¬ q.S k := fun k hk h => by have := hvb k hk; have := unhide HAl k (.inl (Gnd.S_A h)); omega
  have hvl : ∀ k, v.ownBlock = some k → ka + 1 < k ∧ k < w2.heap.size := fun k hk => ⟨by have := hvb k hk; omega, O2.lt k hk⟩
  obtain ⟨ln, hln⟩ : ∃ n, (rowP t).length = n := ⟨_, rfl⟩
  rw [hln] at hv
  rw [hv] at O2 hvq hvl
  subst hv
  have C2 := hide (q7_any (unhide HR2) a bb cc s t O2 hvq (by have := rowP_len t; omega))
  have HO2v := hide (And.intro O2 hvl)
  clear C1 hG O2 hvb o2 hvq hvl a0 a5 hln
  have a1 : w2.cell? ⟨ka, 1, none⟩ = some (.int .i64 a) := (unhide HA2).cell 1
  have a4 : w2.cell? ⟨ka, 4, none⟩ = some (.string s) := (unhide HA2).cell 4
  have ka2 := (unhide HA2).lt
  go_wp2_with fail
  refine (unhide C2).mono ?_
  rintro e w3 ⟨z, rfl, hQ⟩
  have O3 := (unhide HO2v).1.keep hQ.only (fun k hk c => c.elim (fun h => by have := unhide HAl k (.inl h); have := (unhide HO2v).2 k hk; omega) (fun h => by have := unhide HKl k h; have := (unhide HO2v).2 k hk; omega))
  have NZ := (unhide HB2).keep hQ.only (fun c => c.elim (fun h => by have := unhide HAl (ka + 1) (.inl h); omega) (fun h => by have := unhide HKl (ka + 1) h; omega))
  have C3 := hide (spoil_any O3 (by have := rowP_len t; omega))
  have HP := hide hQ
  have HNB := hide NZ
  clear C2 hQ O3 NZ a1 a4
  go_wp2_with fail
  refine (unhide C3).mono ?_
  rintro e w4 ⟨rfl, o4⟩
  have NZ := (unhide HNB).keep o4 (fun h => by have := (unhide HO2v).2 (ka + 1) h; omega)
  have HNZ := hide NZ
  have kz := NZ.lt
  have HO4 := hide o4
  have kb2 := (unhide HB2).lt
  have n0 : w4.cell? ⟨ka + 1, 0, none⟩ = some (.int .i64 0) := NZ.cell 0
  have f0 : w4.frozen? ⟨ka + 1, 0, none⟩ = false := NZ.free 0
  have n1 : w4.cell? ⟨ka + 1, 1, none⟩ = some (.int .i64 0) := NZ.cell 1
  have f1 : w4.frozen? ⟨ka + 1, 1, none⟩ = false := NZ.free 1
  have n2 : w4.cell? ⟨ka + 1, 2, none⟩ = some (.slice none 0 0) := NZ.cell 2
  have f2 : w4.frozen? ⟨ka + 1, 2, none⟩ = false := NZ.free 2
  have n3 : w4.cell? ⟨ka + 1, 3, none⟩ = some (.slice none 0 0) := NZ.cell 3
  have f3 : w4.frozen? ⟨ka + 1, 3, none⟩ = false := NZ.free 3
  have n4 : w4.cell? ⟨ka + 1, 4, none⟩ = some (.string ⟨#[]⟩) := NZ.cell 4
  have f4 : w4.frozen? ⟨ka + 1, 4, none⟩ = false := NZ.free 4
  have n5 : w4.cell? ⟨ka + 1, 5, none⟩ = some (.slice none 0 0) := NZ.cell 5
  have f5 : w4.frozen? ⟨ka + 1, 5, none⟩ = false := NZ.free 5
  have n6 : w4.cell? ⟨ka + 1, 6, none⟩ = some (.int .i64 0) := NZ.cell 6
  have f6 : w4.frozen? ⟨ka + 1, 6, none⟩ = false := NZ.free 6
  have n7 : w4.cell? ⟨ka + 1, 7, none⟩ = some (.int .i64 0) := NZ.cell 7
  have f7 : w4.frozen? ⟨ka + 1, 7, none⟩ = false := NZ.free 7
  have n8 : w4.cell? ⟨ka + 1, 8, none⟩ = some (.slice none 0 0) := NZ.cell 8
  have f8 : w4.frozen? ⟨ka + 1, 8, none⟩ = false := NZ.free 8
  have FF := hide (fun v0 v1 v2 v3 v4 v5 v6 v7 v8 => (unhide HP).fin (B := fun b => b = ka + 1 ∨ (Value.slice va ln vc).ownBlock = some b) (unhide HO2) (((unhide HO4).mono (T := fun b => b = ka + 1 ∨ (Value.slice va ln vc).ownBlock = some b) (fun _ _ h => .inr h)).trans ((only9 _ _ _ _ _ _ _ _ _ _ _).mono (T := fun b => b = ka + 1 ∨ (Value.slice va ln vc).ownBlock = some b) (fun _ _ h => .inl h)) (fun _ _ h => h) : Only _ _ ((((((((((w4.setCell ⟨ka + 1, 0, none⟩ v0).setCell ⟨ka + 1, 1, none⟩ v1).setCell ⟨ka + 1, 2, none⟩ v2).setCell ⟨ka + 1, 3, none⟩ v3).setCell ⟨ka + 1, 4, none⟩ v4).setCell ⟨ka + 1, 5, none⟩ v5).setCell ⟨ka + 1, 6, none⟩ v6).setCell ⟨ka + 1, 7, none⟩ v7).setCell ⟨ka + 1, 8, none⟩ v8))) (fun k h => by have := unhide Hka; rcases h with h | h; omega; (have := (unhide HO2v).2 k h; omega)) (fun k h => by have := unhide HKl k h; have := unhide Hka; omega) (fun k h => by have := unhide HAl k h; have := unhide Hka; omega))
  have HG := hide (fun v0 v1 v2 v3 v4 v5 v6 v7 v8 => set9 (unhide HNZ) v0 v1 v2 v3 v4 v5 v6 v7 v8)
  clear C3 o4 NZ
  go_wp2_with fail
  exact bodyPost_ret (res1_an Tryz.results14 _ rfl (unhide HG _ _ _ _ _ _ _ _ _) rfl) rfl (unhide FF _ _ _ _ _ _ _ _ _)
set_option maxRecDepth 100000 in
set_option maxHeartbeats 2000000 in
theorem pr8_any (R : RX q w g x M K) (hrc : q.recs.length ≤ 300) (a bb cc : Int) (s t : ByteArray) (hT : t.size ≤ maxLen) : Calls Tryz.prog 14 #[.pointer (some ⟨g, 0, none⟩), opX 8 a bb cc s t] w (PrP q w g x M K 8 a bb cc s t) := by
  have o1 : Only (fun _ => False) w ((w.alloc (.cells #[.int .i64 8, .int .i64 a, .int .i64 bb, .int .i64 cc, .string s, .string t] 44)).alloc (.cells #[.int .i64 0, .int .i64 0, .slice none 0 0, .slice none 0 0, .string ⟨#[]⟩, .slice none 0 0, .int .i64 0, .int .i64 0, .slice none 0 0] 54)) := ((Only.refl _ _).alloc _).alloc _
  have A1 : Has ((w.alloc (.cells #[.int .i64 8, .int .i64 a, .int .i64 bb, .int .i64 cc, .string s, .string t] 44)).alloc (.cells #[.int .i64 0, .int .i64 0, .slice none 0 0, .slice none 0 0, .string ⟨#[]⟩, .slice none 0 0, .int .i64 0, .int .i64 0, .slice none 0 0] 54)) w.heap.size #[.int .i64 8, .int .i64 a, .int .i64 bb, .int .i64 cc, .string s, .string t] 44 := (Has.new w _ _).alloc _
  have B1 : Has ((w.alloc (.cells #[.int .i64 8, .int .i64 a, .int .i64 bb, .int .i64 cc, .string s, .string t] 44)).alloc (.cells #[.int .i64 0, .int .i64 0, .slice none 0 0, .slice none 0 0, .string ⟨#[]⟩, .slice none 0 0, .int .i64 0, .int .i64 0, .slice none 0 0] 54)) (w.heap.size + 1) #[.int .i64 0, .int .i64 0, .slice none 0 0, .slice none 0 0, .string ⟨#[]⟩, .slice none 0 0, .int .i64 0, .int .i64 0, .slice none 0 0] 54 := Has.new' _ _ _ _ (by simp)
  have HR := hide (R.quiet o1)
  have HKl := hide (show ∀ k, K k → k < w.heap.size from fun k h => (R.kA k h).2.2)
  have HAl := hide (show ∀ k, q.A k ∨ k = x → k < w.heap.size from fun k h => h.elim (R.Alt.1 k) (fun e => by rw [e]; exact R.Alt.2))
  have HA := hide A1
  have HB := hide B1
  have HO := hide o1
  have HT := hide hT
  clear R o1 A1 B1 hT
  unfold opX
  go_enter Tryz.func14, Tryz.ntmps14
  go_upto_region 1 with fail
  generalize ((w.alloc (.cells #[.int .i64 8, .int .i64 a, .int .i64 bb, .int .i64 cc, .string s, .string t] 44)).alloc (.cells #[.int .i64 0, .int .i64 0, .slice none 0 0, .slice none 0 0, .string ⟨#[]⟩, .slice none 0 0, .int .i64 0, .int .i64 0, .slice none 0 0] 54)) = w1 at *
  have ka1 := (unhide HA).lt
  have kb1 := (unhide HB).lt
  generalize hka : w.heap.size = ka at *
  have Hka := hide hka
  clear hka
  have a0 : w1.cell? ⟨ka, 0, none⟩ = some (.int .i64 8) := (unhide HA).cell 0
  have a5 : w1.cell? ⟨ka, 5, none⟩ = some (.string t) := (unhide HA).cell 5
  have C1 := hide (eRowOf_any t (unhide HT) w1)
  go_wp2_with fail
  refine (unhide C1).mono ?_
  rintro e w2 ⟨v, rfl, hG⟩
  have O2 : OwnV w2 v (rowP t) := hG.own
  obtain ⟨va, vc, hv⟩ := O2.shape
  have hvb := hG.hb
  have o2 := hG.ho
  have s2 := o2.size
  have HR2 := hide ((unhide HR).quiet o2)
  have HA2 := hide ((unhide HA).keep o2 (fun h => h))
  have HB2 := hide ((unhide HB).keep o2 (fun h => h))
  have HO2 := hide ((unhide HO).trans o2 (fun _ _ h => h))
  have hvq : ∀ k, v.ownBlock = some k → ¬ q.S k := fun k hk h => by have := hvb k hk; have := unhide HAl k (.inl (Gnd.S_A h)); omega
  have hvl : ∀ k, v.ownBlock = some k → ka + 1 < k ∧ k < w2.heap.size := fun k hk => ⟨by have := hvb k hk; omega, O2.lt k hk⟩
  obtain ⟨ln, hln⟩ : ∃ n, (rowP t).length = n := ⟨_, rfl⟩
  rw [hln] at hv
  rw [hv] at O2 hvq hvl
  subst hv
  have C2 := hide (q8_any (unhide HR2) a bb cc s t O2 hvq (by have := rowP_len t; omega))
  have HO2v := hide (And.intro O2 hvl)
  clear C1 hG O2 hvb o2 hvq hvl a0 a5 hln
  have a1 : w2.cell? ⟨ka, 1, none⟩ = some (.int .i64 a) := (unhide HA2).cell 1
  have a4 : w2.cell? ⟨ka, 4, none⟩ = some (.string s) := (unhide HA2).cell 4
  have ka2 := (unhide HA2).lt
  go_wp2_with fail
  refine (unhide C2).mono ?_
  rintro e w3 ⟨z, rfl, hQ⟩
  have O3 := (unhide HO2v).1.keep hQ.only (fun k hk c => c.elim (fun h => by have := unhide HAl k (.inl h); have := (unhide HO2v).2 k hk; omega) (fun h => by have := unhide HKl k h; have := (unhide HO2v).2 k hk; omega))
  have NZ := (unhide HB2).keep hQ.only (fun c => c.elim (fun h => by have := unhide HAl (ka + 1) (.inl h); omega) (fun h => by have := unhide HKl (ka + 1) h; omega))
  have C3 := hide (spoil_any O3 (by have := rowP_len t; omega))
  have HP := hide hQ
  have HNB := hide NZ
  clear C2 hQ O3 NZ a1 a4
  go_wp2_with fail
  refine (unhide C3).mono ?_
  rintro e w4 ⟨rfl, o4⟩
  have NZ := (unhide HNB).keep o4 (fun h => by have := (unhide HO2v).2 (ka + 1) h; omega)
  have HNZ := hide NZ
  have kz := NZ.lt
  have HO4 := hide o4
  have kb2 := (unhide HB2).lt
  have n0 : w4.cell? ⟨ka + 1, 0, none⟩ = some (.int .i64 0) := NZ.cell 0
  have f0 : w4.frozen? ⟨ka + 1, 0, none⟩ = false := NZ.free 0
  have n1 : w4.cell? ⟨ka + 1, 1, none⟩ = some (.int .i64 0) := NZ.cell 1
  have f1 : w4.frozen? ⟨ka + 1, 1, none⟩ = false := NZ.free 1
  have n2 : w4.cell? ⟨ka + 1, 2, none⟩ = some (.slice none 0 0) := NZ.cell 2
  have f2 : w4.frozen? ⟨ka + 1, 2, none⟩ = false := NZ.free 2
  have n3 : w4.cell? ⟨ka + 1, 3, none⟩ = some (.slice none 0 0) := NZ.cell 3
  have f3 : w4.frozen? ⟨ka + 1, 3, none⟩ = false := NZ.free 3
  have n4 : w4.cell? ⟨ka + 1, 4, none⟩ = some (.string ⟨#[]⟩) := NZ.cell 4
  have f4 : w4.frozen? ⟨ka + 1, 4, none⟩ = false := NZ.free 4
  have n5 : w4.cell? ⟨ka + 1, 5, none⟩ = some (.slice none 0 0) := NZ.cell 5
  have f5 : w4.frozen? ⟨ka + 1, 5, none⟩ = false := NZ.free 5
  have n6 : w4.cell? ⟨ka + 1, 6, none⟩ = some (.int .i64 0) := NZ.cell 6
  have f6 : w4.frozen? ⟨ka + 1, 6, none⟩ = false := NZ.free 6
  have n7 : w4.cell? ⟨ka + 1, 7, none⟩ = some (.int .i64 0) := NZ.cell 7
  have f7 : w4.frozen? ⟨ka + 1, 7, none⟩ = false := NZ.free 7
  have n8 : w4.cell? ⟨ka + 1, 8, none⟩ = some (.slice none 0 0) := NZ.cell 8
  have f8 : w4.frozen? ⟨ka + 1, 8, none⟩ = false := NZ.free 8
  have FF := hide (fun v0 v1 v2 v3 v4 v5 v6 v7 v8 => (unhide HP).fin (B := fun b => b = ka + 1 ∨ (Value.slice va ln vc).ownBlock = some b) (unhide HO2) (((unhide HO4).mono (T := fun b => b = ka + 1 ∨ (Value.slice va ln vc).ownBlock = some b) (fun _ _ h => .inr h)).trans ((only9 _ _ _ _ _ _ _ _ _ _ _).mono (T := fun b => b = ka + 1 ∨ (Value.slice va ln vc).ownBlock = some b) (fun _ _ h => .inl h)) (fun _ _ h => h) : Only _ _ ((((((((((w4.setCell ⟨ka + 1, 0, none⟩ v0).setCell ⟨ka + 1, 1, none⟩ v1).setCell ⟨ka + 1, 2, none⟩ v2).setCell ⟨ka + 1, 3, none⟩ v3).setCell ⟨ka + 1, 4, none⟩ v4).setCell ⟨ka + 1, 5, none⟩ v5).setCell ⟨ka + 1, 6, none⟩ v6).setCell ⟨ka + 1, 7, none⟩ v7).setCell ⟨ka + 1, 8, none⟩ v8))) (fun k h => by have := unhide Hka; rcases h with h | h; omega; (have := (unhide HO2v).2 k h; omega)) (fun k h => by have := unhide HKl k h; have := unhide Hka; omega) (fun k h => by have := unhide HAl k h; have := unhide Hka; omega))
  have HG := hide (fun v0 v1 v2 v3 v4 v5 v6 v7 v8 => set9 (unhide HNZ) v0 v1 v2 v3 v4 v5 v6 v7 v8)
  clear C3 o4 NZ
  go_wp2_with fail
  exact bodyPost_ret (res1_an Tryz.results14 _ rfl (unhide HG _ _ _ _ _ _ _ _ _) rfl) rfl (unhide FF _ _ _ _ _ _ _ _ _)
set_option maxRecDepth 100000 in
set_option maxHeartbeats 2000000 in
theorem pr9_any (R : RX q w g x M K) (hrc : q.recs.length ≤ 300) (a bb cc : Int) (s t : ByteArray) (hT : t.size ≤ maxLen) : Calls Tryz.prog 14 #[.pointer (some ⟨g, 0, none⟩), opX 9 a bb cc s t] w (PrP q w g x M K 9 a bb cc s t) := by
  have o1 : Only (fun _ => False) w ((w.alloc (.cells #[.int .i64 9, .int .i64 a, .int .i64 bb, .int .i64 cc, .string s, .string t] 44)).alloc (.cells #[.int .i64 0, .int .i64 0, .slice none 0 0, .slice none 0 0, .string ⟨#[]⟩, .slice none 0 0, .int .i64 0, .int .i64 0, .slice none 0 0] 54)) := ((Only.refl _ _).alloc _).alloc _
  have A1 : Has ((w.alloc (.cells #[.int .i64 9, .int .i64 a, .int .i64 bb, .int .i64 cc, .string s, .string t] 44)).alloc (.cells #[.int .i64 0, .int .i64 0, .slice none 0 0, .slice none 0 0, .string ⟨#[]⟩, .slice none 0 0, .int .i64 0, .int .i64 0, .slice none 0 0] 54)) w.heap.size #[.int .i64 9, .int .i64 a, .int .i64 bb, .int .i64 cc, .string s, .string t] 44 := (Has.new w _ _).alloc _
  have B1 : Has ((w.alloc (.cells #[.int .i64 9, .int .i64 a, .int .i64 bb, .int .i64 cc, .string s, .string t] 44)).alloc (.cells #[.int .i64 0, .int .i64 0, .slice none 0 0, .slice none 0 0, .string ⟨#[]⟩, .slice none 0 0, .int .i64 0, .int .i64 0, .slice none 0 0] 54)) (w.heap.size + 1) #[.int .i64 0, .int .i64 0, .slice none 0 0, .slice none 0 0, .string ⟨#[]⟩, .slice none 0 0, .int .i64 0, .int .i64 0, .slice none 0 0] 54 := Has.new' _ _ _ _ (by simp)
  have HR := hide (R.quiet o1)
  have HKl := hide (show ∀ k, K k → k < w.heap.size from fun k h => (R.kA k h).2.2)
  have HAl := hide (show ∀ k, q.A k ∨ k = x → k < w.heap.size from fun k h => h.elim (R.Alt.1 k) (fun e => by rw [e]; exact R.Alt.2))
  have HA := hide A1
  have HB := hide B1
  have HO := hide o1
  have HT := hide hT
  clear R o1 A1 B1 hT
  unfold opX
  go_enter Tryz.func14, Tryz.ntmps14
  go_upto_region 1 with fail
  generalize ((w.alloc (.cells #[.int .i64 9, .int .i64 a, .int .i64 bb, .int .i64 cc, .string s, .string t] 44)).alloc (.cells #[.int .i64 0, .int .i64 0, .slice none 0 0, .slice none 0 0, .string ⟨#[]⟩, .slice none 0 0, .int .i64 0, .int .i64 0, .slice none 0 0] 54)) = w1 at *
  have ka1 := (unhide HA).lt
  have kb1 := (unhide HB).lt
  generalize hka : w.heap.size = ka at *
  have Hka := hide hka
  clear hka
  have a0 : w1.cell? ⟨ka, 0, none⟩ = some (.int .i64 9) := (unhide HA).cell 0
  have a5 : w1.cell? ⟨ka, 5, none⟩ = some (.string t) := (unhide HA).cell 5
  have C1 := eFirst_any t (unhide HT) w1
  obtain ⟨key, hkey⟩ : ∃ key, fstP t = key := ⟨_, rfl⟩
  rw [hkey] at C1
  unfold vlA at C1
  have C1 := hide C1
  have Hkey := hide hkey
  clear hkey
  go_wp2_with fail
  refine (unhide C1).mono ?_
  rintro e w2 ⟨rfl, o2⟩
  have oA : Only (fun _ => False) w2 (w2.alloc (.cells #[.bool key.str, .int .i64 key.i, .string key.s] 106)) := (Only.refl _ _).alloc _
  have HK2 := hide (Has.new w2 #[.bool key.str, .int .i64 key.i, .string key.s] 106)
  have o3 := o2.trans oA (fun _ _ h => h)
  have HR2 := hide ((unhide HR).quiet o3)
  have HA2 := hide ((unhide HA).keep o3 (fun h => h))
  have HB2 := hide ((unhide HB).keep o3 (fun h => h))
  have HO2 := hide ((unhide HO).trans o3 (fun _ _ h => h))
  have s3 := o3.size
  clear C1 o2 oA o3 a0 a5
  go_upto_region 29 with fail
  generalize w2.alloc (.cells #[.bool key.str, .int .i64 key.i, .string key.s] 106) = w3 at *
  generalize w2.heap.size = kk at *
  have a1 : w3.cell? ⟨ka, 1, none⟩ = some (.int .i64 a) := (unhide HA2).cell 1
  have a4 : w3.cell? ⟨ka, 4, none⟩ = some (.string s) := (unhide HA2).cell 4
  have k0 : w3.cell? ⟨kk, 0, none⟩ = some (.bool key.str) := (unhide HK2).cell 0
  have k1 : w3.cell? ⟨kk, 1, none⟩ = some (.int .i64 key.i) := (unhide HK2).cell 1
  have k2 : w3.cell? ⟨kk, 2, none⟩ = some (.string key.s) := (unhide HK2).cell 2
  have ka3 := (unhide HA2).lt
  have C2 := q9_any (unhide HR2) a bb cc s t
  rw [unhide Hkey] at C2
  unfold vlA at C2
  have C2 := hide C2
  go_wp2_with fail
  refine (unhide C2).mono ?_
  rintro e w4 ⟨z, rfl, hQ⟩
  have NZ := (unhide HB2).keep hQ.only (fun c => c.elim (fun h => by have := unhide HAl (ka + 1) (.inl h); omega) (fun h => by have := unhide HKl (ka + 1) h; omega))
  have HNZ := hide NZ
  have HP := hide hQ
  have kz := NZ.lt
  have n0 : w4.cell? ⟨ka + 1, 0, none⟩ = some (.int .i64 0) := NZ.cell 0
  have f0 : w4.frozen? ⟨ka + 1, 0, none⟩ = false := NZ.free 0
  have n1 : w4.cell? ⟨ka + 1, 1, none⟩ = some (.int .i64 0) := NZ.cell 1
  have f1 : w4.frozen? ⟨ka + 1, 1, none⟩ = false := NZ.free 1
  have n2 : w4.cell? ⟨ka + 1, 2, none⟩ = some (.slice none 0 0) := NZ.cell 2
  have f2 : w4.frozen? ⟨ka + 1, 2, none⟩ = false := NZ.free 2
  have n3 : w4.cell? ⟨ka + 1, 3, none⟩ = some (.slice none 0 0) := NZ.cell 3
  have f3 : w4.frozen? ⟨ka + 1, 3, none⟩ = false := NZ.free 3
  have n4 : w4.cell? ⟨ka + 1, 4, none⟩ = some (.string ⟨#[]⟩) := NZ.cell 4
  have f4 : w4.frozen? ⟨ka + 1, 4, none⟩ = false := NZ.free 4
  have n5 : w4.cell? ⟨ka + 1, 5, none⟩ = some (.slice none 0 0) := NZ.cell 5
  have f5 : w4.frozen? ⟨ka + 1, 5, none⟩ = false := NZ.free 5
  have n6 : w4.cell? ⟨ka + 1, 6, none⟩ = some (.int .i64 0) := NZ.cell 6
  have f6 : w4.frozen? ⟨ka + 1, 6, none⟩ = false := NZ.free 6
  have n7 : w4.cell? ⟨ka + 1, 7, none⟩ = some (.int .i64 0) := NZ.cell 7
  have f7 : w4.frozen? ⟨ka + 1, 7, none⟩ = false := NZ.free 7
  have n8 : w4.cell? ⟨ka + 1, 8, none⟩ = some (.slice none 0 0) := NZ.cell 8
  have f8 : w4.frozen? ⟨ka + 1, 8, none⟩ = false := NZ.free 8
  have FF := hide (fun v0 v1 v2 v3 v4 v5 v6 v7 v8 => (unhide HP).fin (B := fun b => b = ka + 1) (unhide HO2) (only9 _ _ _ _ _ _ _ _ _ _ _ : Only _ _ ((((((((((w4.setCell ⟨ka + 1, 0, none⟩ v0).setCell ⟨ka + 1, 1, none⟩ v1).setCell ⟨ka + 1, 2, none⟩ v2).setCell ⟨ka + 1, 3, none⟩ v3).setCell ⟨ka + 1, 4, none⟩ v4).setCell ⟨ka + 1, 5, none⟩ v5).setCell ⟨ka + 1, 6, none⟩ v6).setCell ⟨ka + 1, 7, none⟩ v7).setCell ⟨ka + 1, 8, none⟩ v8))) (fun k h => by have h' : k = ka + 1 := h; have := unhide Hka; omega) (fun k h => by have := unhide HKl k h; have := unhide Hka; omega) (fun k h => by have := unhide HAl k h; have := unhide Hka; omega))
  have HG := hide (fun v0 v1 v2 v3 v4 v5 v6 v7 v8 => set9 (unhide HNZ) v0 v1 v2 v3 v4 v5 v6 v7 v8)
  clear C2 hQ NZ HP a1 a4 k0 k1 k2
  go_wp2_with fail
  exact bodyPost_ret (res1_an Tryz.results14 _ rfl (unhide HG _ _ _ _ _ _ _ _ _) rfl) rfl (unhide FF _ _ _ _ _ _ _ _ _)
end
end Go.Proofs.Qxb6500414aGreat
