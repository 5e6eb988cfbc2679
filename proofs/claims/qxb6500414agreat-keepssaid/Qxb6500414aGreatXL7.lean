/-
  OWN WORK. THE TXN LAW: PlayReal: Lookup, Tables (written by tools/gen_xl7.py).
-/
import Derived.Test.Qxb6500414aGreatXL6
namespace Go.Proofs.Qxb6500414aGreat
open Go.RowKit Go.PlainAid
set_option linter.unusedSimpArgs false
set_option linter.unusedVariables false

section
variable {q : Gnd} {w : World} {g x : Nat} {M : Mu} {K : Nat → Prop}
set_option maxRecDepth 100000 in
set_option maxHeartbeats 2000000 in
theorem pr10_any (R : RX q w g x M K) (hrc : q.recs.length ≤ 300) (a bb cc : Int) (s t : ByteArray) (hT : t.size ≤ maxLen) : Calls Tryz.prog 14 #[.pointer (some ⟨g, 0, none⟩), opX 10 a bb cc s t] w (PrP q w g x M K 10 a bb cc s t) := by
  have o1 : Only (fun _ => False) w ((w.alloc (.cells #[.int .i64 10, .int .i64 a, .int .i64 bb, .int .i64 cc, .string s, .string t] 44)).alloc (.cells #[.int .i64 0, .int .i64 0, .slice none 0 0, .slice none 0 0, .string ⟨#[]⟩, .slice none 0 0, .int .i64 0, .int .i64 0, .slice none 0 0] 54)) := ((Only.refl _ _).alloc _).alloc _
  have A1 : Has ((w.alloc (.cells #[.int .i64 10, .int .i64 a, .int .i64 bb, .int .i64 cc, .string s, .string t] 44)).alloc (.cells #[.int .i64 0, .int .i64 0, .slice none 0 0, .slice none 0 0, .string ⟨#[]⟩, .slice none 0 0, .int .i64 0, .int .i64 0, .slice none 0 0] 54)) w.heap.size #[.int .i64 10, .int .i64 a, .int .i64 bb, .int .i64 cc, .string s, .string t] 44 := (Has.new w _ _).alloc _
  have B1 : Has ((w.alloc (.cells #[.int .i64 10, .int .i64 a, .int .i64 bb, .int .i64 cc, .string s, .string t] 44)).alloc (.cells #[.int .i64 0, .int .i64 0, .slice none 0 0, .slice none 0 0, .string ⟨#[]⟩, .slice none 0 0, .int .i64 0, .int .i64 0, .slice none 0 0] 54)) (w.heap.size + 1) #[.int .i64 0, .int .i64 0, .slice none 0 0, .slice none 0 0, .string ⟨#[]⟩, .slice none 0 0, .int .i64 0, .int .i64 0, .slice none 0 0] 54 := Has.new' _ _ _ _ (by simp)
  have HR := hide (R.quiet o1)
  have HKl := hide (show ∀ k, K k → k < w.heap.size from fun k h => (R.kA k h).2.2)
  have HAl := hide (show ∀ k, q.A k ∨ k = x → k < w.heap.size from fun k h => h.elim (R.Alt.1 k) (fun e => by rw [e]; exact R.Alt.2))
  have HA := hide A1
  have HB := hide B1
  have HO := hide o1
  have HT := hide hT
  clear R o1 A1 B1 hT
  unfold opX
  go_enter Tryz.func14, Tryz.ntmps14
  go_upto_region 1 with fail
  generalize ((w.alloc (.cells #[.int .i64 10, .int .i64 a, .int .i64 bb, .int .i64 cc, .string s, .string t] 44)).alloc (.cells #[.int .i64 0, .int .i64 0, .slice none 0 0, .slice none 0 0, .string ⟨#[]⟩, .slice none 0 0, .int .i64 0, .int .i64 0, .slice none 0 0] 54)) = w1 at *
  have ka1 := (unhide HA).lt
  have kb1 := (unhide HB).lt
  generalize hka : w.heap.size = ka at *
  have Hka := hide hka
  clear hka
  have a0 : w1.cell? ⟨ka, 0, none⟩ = some (.int .i64 10) := (unhide HA).cell 0
  have a5 : w1.cell? ⟨ka, 5, none⟩ = some (.string t) := (unhide HA).cell 5
  have C1 := eFirst_any t (unhide HT) w1
  obtain ⟨key, hkey⟩ : ∃ key, fstP t = key := ⟨_, rfl⟩
  rw [hkey] at C1
  unfold vlA at C1
  have C1 := hide C1
  have Hkey := hide hkey
  clear hkey
  go_wp2_with fail
  refine (unhide C1).mono ?_
  rintro e w2 ⟨rfl, o2⟩
  have oA : Only (fun _ => False) w2 (w2.alloc (.cells #[.bool key.str, .int .i64 key.i, .string key.s] 106)) := (Only.refl _ _).alloc _
  have HK2 := hide (Has.new w2 #[.bool key.str, .int .i64 key.i, .string key.s] 106)
  have o3 := o2.trans oA (fun _ _ h => h)
  have HR2 := hide ((unhide HR).quiet o3)
  have HA2 := hide ((unhide HA).keep o3 (fun h => h))
  have HB2 := hide ((unhide HB).keep o3 (fun h => h))
  have HO2 := hide ((unhide HO).trans o3 (fun _ _ h => h))
  have s3 := o3.size
  clear C1 o2 oA o3 a0 a5
  go_upto_region 32 with fail
  generalize w2.alloc (.cells #[.bool key.str, .int .i64 key.i, .string key.s] 106) = w3 at *
  generalize w2.heap.size = kk at *
  have a1 : w3.cell? ⟨ka, 1, none⟩ = some (.int .i64 a) := (unhide HA2).cell 1
  have a4 : w3.cell? ⟨ka, 4, none⟩ = some (.string s) := (unhide HA2).cell 4
  have k0 : w3.cell? ⟨kk, 0, none⟩ = some (.bool key.str) := (unhide HK2).cell 0
  have k1 : w3.cell? ⟨kk, 1, none⟩ = some (.int .i64 key.i) := (unhide HK2).cell 1
  have k2 : w3.cell? ⟨kk, 2, none⟩ = some (.string key.s) := (unhide HK2).cell 2
  have ka3 := (unhide HA2).lt
  have C2 := q10_any (unhide HR2) a bb cc s t
  rw [unhide Hkey] at C2
  unfold vlA at C2
  have C2 := hide C2
  go_wp2_with fail
  refine (unhide C2).mono ?_
  rintro e w4 ⟨v, z, row, rfl, hv, hw, hl, M', r4, o4, hc4, hop⟩
  obtain ⟨va, vc, hsh⟩ := hv.shape
  obtain ⟨rn, hrn⟩ : ∃ n, row.length = n := ⟨_, rfl⟩
  have C3 := mcloneRow_any hv hl
  rw [hrn] at hsh C3
  subst hsh
  have C3 := hide C3
  have HB4 := hide ((unhide HB2).keep o4 (fun c => c.elim (fun h => by have := unhide HAl (ka + 1) (.inl (Gnd.S_A h)); omega) (fun h => by have := unhide HKl (ka + 1) h; omega)))
  have s4 := o4.size
  have HBv := hide (show ∀ k, (Value.slice va rn vc).ownBlock = some k → w3.heap.size ≤ k ∧ k < w4.heap.size from fun k h => ⟨hw k h, hv.lt k h⟩)
  have HPO := hide (And.intro r4 (And.intro o4 (And.intro hc4 hop)))
  have HV := hide (And.intro hv hl)
  have Hrn := hide hrn
  clear C2 hv hw hl r4 o4 hc4 hop a1 a4 k0 k1 k2 hrn
  go_wp2_with fail
  refine (unhide C3).mono ?_
  rintro e w5 ⟨zb, rfl, O5, hzb, o5⟩
  have Hs45 := hide o5.size
  have Hrl := hide (show (Value.slice (some ⟨zb, 0, none⟩) rn rn).ownBlock = some zb from rfl)
  have oE : Only (fun _ => False) w5 (w5.alloc (.cells #[.int .i64 z, .int .i64 0, .slice (some ⟨zb, 0, none⟩) rn rn, .slice none 0 0, .string ⟨#[]⟩, .slice none 0 0, .int .i64 0, .int .i64 0, .slice none 0 0] 54)) := (Only.refl _ _).alloc _
  have HE := hide (Has.new w5 #[.int .i64 z, .int .i64 0, .slice (some ⟨zb, 0, none⟩) rn rn, .slice none 0 0, .string ⟨#[]⟩, .slice none 0 0, .int .i64 0, .int .i64 0, .slice none 0 0] 54)
  have s5 := o5.size
  have o46 := o5.trans oE (fun _ _ h => h)
  have HNB := hide ((unhide HB4).keep o46 (fun h => h))
  have HO46 := hide o46
  have HO5 := hide (And.intro (O5.keep oE (fun _ _ h => h)) hzb)
  have C4 := hide (spoil_any (((unhide HV).1.keep o46 (fun _ _ h => h))) (unhide HV).2)
  clear C3 o5 oE o46 O5
  go_upto_region 34 with fail
  generalize w5.alloc (.cells #[.int .i64 z, .int .i64 0, .slice (some ⟨zb, 0, none⟩) rn rn, .slice none 0 0, .string ⟨#[]⟩, .slice none 0 0, .int .i64 0, .int .i64 0, .slice none 0 0] 54) = w6 at *
  have ke6 := (unhide HE).lt
  generalize hke : w5.heap.size = ke at *
  have Hke := hide hke
  clear hke
  go_wp2_with fail
  refine (unhide C4).mono ?_
  rintro e w7 ⟨rfl, o7⟩
  have hB7 : ∀ k, (fun k => (Value.slice va rn vc).ownBlock = some k) k → w3.heap.size ≤ k ∧ k < w4.heap.size := unhide HBv
  have NZ := (unhide HNB).keep o7 (fun h => by have := hB7 (ka + 1) h; omega)
  have E7 := (unhide HE).keep o7 (fun h => by have := hB7 ke h; have := unhide Hs45; omega)
  have HE7 := hide E7
  have HP := hide (PrP.obs (m := ⟨.slice (some ⟨zb, 0, none⟩) rn rn, .slice none 0 0, [], .slice none 0 0, .slice none 0 0⟩) (unhide HR2) (unhide HPO).1 (unhide HPO).2.1 (unhide HPO).2.2.1 (unhide HPO).2.2.2 ((((unhide HO46).mono (T := fun k => (Value.slice va rn vc).ownBlock = some k) (fun _ _ h => h.elim)).trans o7 (fun _ _ h => h))) (fun k h => (hB7 k h).1) ⟨(unhide HO5).1.keep o7 (fun k hk h => by have h2 := hB7 k h; simp [Value.ownBlock] at hk; have := (unhide HO5).2; omega), World.ownsRow_nil _ _ _ _, (fun y h => by cases h), rfl, OwnC.nil _, World.ownsRow_nil _ _ _ _, ⟨(unhide HV).2, by simp [An.z], by simp [An.z], by simp [An.z], by simp [An.z]⟩⟩ (fun k h => by
    rcases h with h | h | ⟨y, hy, _⟩ | h | h
    · simp [Value.ownBlock] at h; have := (unhide HO5).2; omega
    · cases h
    · cases hy
    · cases h
    · cases h))
  have HNZ := hide NZ
  have kz := NZ.lt
  have kE := E7.lt
  have e0 : w7.cell? ⟨ke, 0, none⟩ = some (.int .i64 z) := (unhide HE7).cell 0
  have e1 : w7.cell? ⟨ke, 1, none⟩ = some (.int .i64 0) := (unhide HE7).cell 1
  have e2 : w7.cell? ⟨ke, 2, none⟩ = some (.slice (some ⟨zb, 0, none⟩) rn rn) := (unhide HE7).cell 2
  have e3 : w7.cell? ⟨ke, 3, none⟩ = some (.slice none 0 0) := (unhide HE7).cell 3
  have e4 : w7.cell? ⟨ke, 4, none⟩ = some (.string ⟨#[]⟩) := (unhide HE7).cell 4
  have e5 : w7.cell? ⟨ke, 5, none⟩ = some (.slice none 0 0) := (unhide HE7).cell 5
  have e6 : w7.cell? ⟨ke, 6, none⟩ = some (.int .i64 0) := (unhide HE7).cell 6
  have e7 : w7.cell? ⟨ke, 7, none⟩ = some (.int .i64 0) := (unhide HE7).cell 7
  have e8 : w7.cell? ⟨ke, 8, none⟩ = some (.slice none 0 0) := (unhide HE7).cell 8
  have n0 : w7.cell? ⟨ka + 1, 0, none⟩ = some (.int .i64 0) := NZ.cell 0
  have f0 : w7.frozen? ⟨ka + 1, 0, none⟩ = false := NZ.free 0
  have n1 : w7.cell? ⟨ka + 1, 1, none⟩ = some (.int .i64 0) := NZ.cell 1
  have f1 : w7.frozen? ⟨ka + 1, 1, none⟩ = false := NZ.free 1
  have n2 : w7.cell? ⟨ka + 1, 2, none⟩ = some (.slice none 0 0) := NZ.cell 2
  have f2 : w7.frozen? ⟨ka + 1, 2, none⟩ = false := NZ.free 2
  have n3 : w7.cell? ⟨ka + 1, 3, none⟩ = some (.slice none 0 0) := NZ.cell 3
  have f3 : w7.frozen? ⟨ka + 1, 3, none⟩ = false := NZ.free 3
  have n4 : w7.cell? ⟨ka + 1, 4, none⟩ = some (.string ⟨#[]⟩) := NZ.cell 4
  have f4 : w7.frozen? ⟨ka + 1, 4, none⟩ = false := NZ.free 4
  have n5 : w7.cell? ⟨ka + 1, 5, none⟩ = some (.slice none 0 0) := NZ.cell 5
  have f5 : w7.frozen? ⟨ka + 1, 5, none⟩ = false := NZ.free 5
  have n6 : w7.cell? ⟨ka + 1, 6, none⟩ = some (.int .i64 0) := NZ.cell 6
  have f6 : w7.frozen? ⟨ka + 1, 6, none⟩ = false := NZ.free 6
  have n7 : w7.cell? ⟨ka + 1, 7, none⟩ = some (.int .i64 0) := NZ.cell 7
  have f7 : w7.frozen? ⟨ka + 1, 7, none⟩ = false := NZ.free 7
  have n8 : w7.cell? ⟨ka + 1, 8, none⟩ = some (.slice none 0 0) := NZ.cell 8
  have f8 : w7.frozen? ⟨ka + 1, 8, none⟩ = false := NZ.free 8
  have FF := hide (fun v0 v1 v2 v3 v4 v5 v6 v7 v8 => (unhide HP).fin (B := fun b => b = ka + 1) (unhide HO2) (only9 _ _ _ _ _ _ _ _ _ _ _ : Only _ _ ((((((((((w7.setCell ⟨ka + 1, 0, none⟩ v0).setCell ⟨ka + 1, 1, none⟩ v1).setCell ⟨ka + 1, 2, none⟩ v2).setCell ⟨ka + 1, 3, none⟩ v3).setCell ⟨ka + 1, 4, none⟩ v4).setCell ⟨ka + 1, 5, none⟩ v5).setCell ⟨ka + 1, 6, none⟩ v6).setCell ⟨ka + 1, 7, none⟩ v7).setCell ⟨ka + 1, 8, none⟩ v8))) (fun k h => by have h' : k = ka + 1 := h; have := unhide Hka; omega) (fun k h => by have := unhide HKl k h; have := unhide Hka; omega) (fun k h => by have := unhide HAl k h; have := unhide Hka; omega))
  have HG := hide (fun v0 v1 v2 v3 v4 v5 v6 v7 v8 => set9 (unhide HNZ) v0 v1 v2 v3 v4 v5 v6 v7 v8)
  clear C4 o7 NZ E7 hB7
  go_wp2_with fail
  exact bodyPost_ret (res1_an Tryz.results14 _ rfl (unhide HG _ _ _ _ _ _ _ _ _) rfl) rfl (unhide FF _ _ _ _ _ _ _ _ _)
set_option maxRecDepth 100000 in
set_option maxHeartbeats 2000000 in
theorem pr16_any (R : RX q w g x M K) (hrc : q.recs.length ≤ 300) (a bb cc : Int) (s t : ByteArray) (hT : t.size ≤ maxLen) : Calls Tryz.prog 14 #[.pointer (some ⟨g, 0, none⟩), opX 16 a bb cc s t] w (PrP q w g x M K 16 a bb cc s t) := by
  have o1 : Only (fun _ => False) w ((w.alloc (.cells #[.int .i64 16, .int .i64 a, .int .i64 bb, .int .i64 cc, .string s, .string t] 44)).alloc (.cells #[.int .i64 0, .int .i64 0, .slice none 0 0, .slice none 0 0, .string ⟨#[]⟩, .slice none 0 0, .int .i64 0, .int .i64 0, .slice none 0 0] 54)) := ((Only.refl _ _).alloc _).alloc _
  have A1 : Has ((w.alloc (.cells #[.int .i64 16, .int .i64 a, .int .i64 bb, .int .i64 cc, .string s, .string t] 44)).alloc (.cells #[.int .i64 0, .int .i64 0, .slice none 0 0, .slice none 0 0, .string ⟨#[]⟩, .slice none 0 0, .int .i64 0, .int .i64 0, .slice none 0 0] 54)) w.heap.size #[.int .i64 16, .int .i64 a, .int .i64 bb, .int .i64 cc, .string s, .string t] 44 := (Has.new w _ _).alloc _
  have B1 : Has ((w.alloc (.cells #[.int .i64 16, .int .i64 a, .int .i64 bb, .int .i64 cc, .string s, .string t] 44)).alloc (.cells #[.int .i64 0, .int .i64 0, .slice none 0 0, .slice none 0 0, .string ⟨#[]⟩, .slice none 0 0, .int .i64 0, .int .i64 0, .slice none 0 0] 54)) (w.heap.size + 1) #[.int .i64 0, .int .i64 0, .slice none 0 0, .slice none 0 0, .string ⟨#[]⟩, .slice none 0 0, .int .i64 0, .int .i64 0, .slice none 0 0] 54 := Has.new' _ _ _ _ (by simp)
  have HR := hide (R.quiet o1)
  have HKl := hide (show ∀ k, K k → k < w.heap.size from fun k h => (R.kA k h).2.2)
  have HAl := hide (show ∀ k, q.A k ∨ k = x → k < w.heap.size from fun k h => h.elim (R.Alt.1 k) (fun e => by rw [e]; exact R.Alt.2))
  have HA := hide A1
  have HB := hide B1
  have HO := hide o1
  have HT := hide hT
  clear R o1 A1 B1 hT
  unfold opX
  go_enter Tryz.func14, Tryz.ntmps14
  go_upto_region 1 with fail
  generalize ((w.alloc (.cells #[.int .i64 16, .int .i64 a, .int .i64 bb, .int .i64 cc, .string s, .string t] 44)).alloc (.cells #[.int .i64 0, .int .i64 0, .slice none 0 0, .slice none 0 0, .string ⟨#[]⟩, .slice none 0 0, .int .i64 0, .int .i64 0, .slice none 0 0] 54)) = w1 at *
  have ka1 := (unhide HA).lt
  have kb1 := (unhide HB).lt
  generalize hka : w.heap.size = ka at *
  have Hka := hide hka
  clear hka
  have a0 : w1.cell? ⟨ka, 0, none⟩ = some (.int .i64 16) := (unhide HA).cell 0
  have HR2 := HR
  have HO2 := HO
  have C2 := hide (q16_any (unhide HR2) a bb cc s t)
  go_wp2_with fail
  refine (unhide C2).mono ?_
  rintro e w4 ⟨v, N, rfl, hv, hw, hl, M', r4, o4, hc4, hop⟩
  obtain ⟨va, vc, hsh⟩ := ownsRow_shape hv
  obtain ⟨rn, hrn⟩ : ∃ n, N.length = n := ⟨_, rfl⟩
  have C3 := cloneNames_any hv (by omega)
  rw [hrn] at hsh C3
  subst hsh
  have C3 := hide C3
  have HB4 := hide ((unhide HB).keep o4 (fun c => c.elim (fun h => by have := unhide HAl (ka + 1) (.inl (Gnd.S_A h)); omega) (fun h => by have := unhide HKl (ka + 1) h; omega)))
  have s4 := o4.size
  have HBv := hide (show ∀ k, (Value.slice va rn vc).ownBlock = some k → w1.heap.size ≤ k ∧ k < w4.heap.size from fun k h => ⟨hw k h, ownsRow_lt hv k h⟩)
  have HPO := hide (And.intro r4 (And.intro o4 (And.intro hc4 hop)))
  have HV := hide (And.intro hv hl)
  have Hrn := hide hrn
  clear C2 hv hw hl r4 o4 hc4 hop hrn a0
  go_wp2_with fail
  refine (unhide C3).mono ?_
  rintro e w5 ⟨zb, rfl, O5, hzb, o5⟩
  have Hs45 := hide o5.size
  have oE : Only (fun _ => False) w5 (w5.alloc (.cells #[.int .i64 0, .int .i64 0, .slice none 0 0, .slice none 0 0, .string ⟨#[]⟩, .slice none 0 0, .int .i64 0, .int .i64 0, .slice (some ⟨zb, 0, none⟩) rn rn] 54)) := (Only.refl _ _).alloc _
  have HE := hide (Has.new w5 #[.int .i64 0, .int .i64 0, .slice none 0 0, .slice none 0 0, .string ⟨#[]⟩, .slice none 0 0, .int .i64 0, .int .i64 0, .slice (some ⟨zb, 0, none⟩) rn rn] 54)
  have s5 := o5.size
  have o46 := o5.trans oE (fun _ _ h => h)
  have HNB := hide ((unhide HB4).keep o46 (fun h => h))
  have HO46 := hide o46
  have HO5 := hide (And.intro (ownsRow_keep O5 oE (fun _ _ h => h)) hzb)
  have C4 := hide (spoilNames_any (ownsRow_keep (unhide HV).1 o46 (fun _ _ h => h)) (by have := (unhide HV).2; omega))
  clear C3 o5 oE o46 O5
  go_upto_region 61 with fail
  generalize w5.alloc (.cells #[.int .i64 0, .int .i64 0, .slice none 0 0, .slice none 0 0, .string ⟨#[]⟩, .slice none 0 0, .int .i64 0, .int .i64 0, .slice (some ⟨zb, 0, none⟩) rn rn] 54) = w6 at *
  have ke6 := (unhide HE).lt
  generalize hke : w5.heap.size = ke at *
  have Hke := hide hke
  clear hke
  go_wp2_with fail
  refine (unhide C4).mono ?_
  rintro e w7 ⟨rfl, o7⟩
  have hB7 : ∀ k, (fun k => (Value.slice va rn vc).ownBlock = some k) k → w1.heap.size ≤ k ∧ k < w4.heap.size := unhide HBv
  have NZ := (unhide HNB).keep o7 (fun h => by have := hB7 (ka + 1) h; omega)
  have E7 := (unhide HE).keep o7 (fun h => by have := hB7 ke h; have := unhide Hs45; omega)
  have HE7 := hide E7
  have HP := hide (PrP.obs (m := ⟨.slice none 0 0, .slice none 0 0, [], .slice none 0 0, .slice (some ⟨zb, 0, none⟩) rn rn⟩) (unhide HR2) (unhide HPO).1 (unhide HPO).2.1 (unhide HPO).2.2.1 (unhide HPO).2.2.2 ((((unhide HO46).mono (T := fun k => (Value.slice va rn vc).ownBlock = some k) (fun _ _ h => h.elim)).trans o7 (fun _ _ h => h))) (fun k h => (hB7 k h).1) ⟨OwnV.nil _, World.ownsRow_nil _ _ _ _, (fun y h => by cases h), rfl, OwnC.nil _, ownsRow_keep (unhide HO5).1 o7 (fun k hk h => by have h2 := hB7 k h; simp [Value.ownBlock] at hk; have := (unhide HO5).2; omega), ⟨by simp [An.z], by simp [An.z], by simp [An.z], by simp [An.z], by have := (unhide HV).2; show N.length ≤ 1000; omega⟩⟩ (fun k h => by
    rcases h with h | h | ⟨y, hy, _⟩ | h | h
    · cases h
    · cases h
    · cases hy
    · cases h
    · simp [Value.ownBlock] at h; have := (unhide HO5).2; omega))
  have HNZ := hide NZ
  have kz := NZ.lt
  have kE := E7.lt
  have e0 : w7.cell? ⟨ke, 0, none⟩ = some (.int .i64 0) := (unhide HE7).cell 0
  have e1 : w7.cell? ⟨ke, 1, none⟩ = some (.int .i64 0) := (unhide HE7).cell 1
  have e2 : w7.cell? ⟨ke, 2, none⟩ = some (.slice none 0 0) := (unhide HE7).cell 2
  have e3 : w7.cell? ⟨ke, 3, none⟩ = some (.slice none 0 0) := (unhide HE7).cell 3
  have e4 : w7.cell? ⟨ke, 4, none⟩ = some (.string ⟨#[]⟩) := (unhide HE7).cell 4
  have e5 : w7.cell? ⟨ke, 5, none⟩ = some (.slice none 0 0) := (unhide HE7).cell 5
  have e6 : w7.cell? ⟨ke, 6, none⟩ = some (.int .i64 0) := (unhide HE7).cell 6
  have e7 : w7.cell? ⟨ke, 7, none⟩ = some (.int .i64 0) := (unhide HE7).cell 7
  have e8 : w7.cell? ⟨ke, 8, none⟩ = some (.slice (some ⟨zb, 0, none⟩) rn rn) := (unhide HE7).cell 8
  have n0 : w7.cell? ⟨ka + 1, 0, none⟩ = some (.int .i64 0) := NZ.cell 0
  have f0 : w7.frozen? ⟨ka + 1, 0, none⟩ = false := NZ.free 0
  have n1 : w7.cell? ⟨ka + 1, 1, none⟩ = some (.int .i64 0) := NZ.cell 1
  have f1 : w7.frozen? ⟨ka + 1, 1, none⟩ = false := NZ.free 1
  have n2 : w7.cell? ⟨ka + 1, 2, none⟩ = some (.slice none 0 0) := NZ.cell 2
  have f2 : w7.frozen? ⟨ka + 1, 2, none⟩ = false := NZ.free 2
  have n3 : w7.cell? ⟨ka + 1, 3, none⟩ = some (.slice none 0 0) := NZ.cell 3
  have f3 : w7.frozen? ⟨ka + 1, 3, none⟩ = false := NZ.free 3
  have n4 : w7.cell? ⟨ka + 1, 4, none⟩ = some (.string ⟨#[]⟩) := NZ.cell 4
  have f4 : w7.frozen? ⟨ka + 1, 4, none⟩ = false := NZ.free 4
  have n5 : w7.cell? ⟨ka + 1, 5, none⟩ = some (.slice none 0 0) := NZ.cell 5
  have f5 : w7.frozen? ⟨ka + 1, 5, none⟩ = false := NZ.free 5
  have n6 : w7.cell? ⟨ka + 1, 6, none⟩ = some (.int .i64 0) := NZ.cell 6
  have f6 : w7.frozen? ⟨ka + 1, 6, none⟩ = false := NZ.free 6
  have n7 : w7.cell? ⟨ka + 1, 7, none⟩ = some (.int .i64 0) := NZ.cell 7
  have f7 : w7.frozen? ⟨ka + 1, 7, none⟩ = false := NZ.free 7
  have n8 : w7.cell? ⟨ka + 1, 8, none⟩ = some (.slice none 0 0) := NZ.cell 8
  have f8 : w7.frozen? ⟨ka + 1, 8, none⟩ = false := NZ.free 8
  have FF := hide (fun v0 v1 v2 v3 v4 v5 v6 v7 v8 => (unhide HP).fin (B := fun b => b = ka + 1) (unhide HO2) (only9 _ _ _ _ _ _ _ _ _ _ _ : Only _ _ ((((((((((w7.setCell ⟨ka + 1, 0, none⟩ v0).setCell ⟨ka + 1, 1, none⟩ v1).setCell ⟨ka + 1, 2, none⟩ v2).setCell ⟨ka + 1, 3, none⟩ v3).setCell ⟨ka + 1, 4, none⟩ v4).setCell ⟨ka + 1, 5, none⟩ v5).setCell ⟨ka + 1, 6, none⟩ v6).setCell ⟨ka + 1, 7, none⟩ v7).setCell ⟨ka + 1, 8, none⟩ v8))) (fun k h => by have h' : k = ka + 1 := h; have := unhide Hka; omega) (fun k h => by have := unhide HKl k h; have := unhide Hka; omega) (fun k h => by have := unhide HAl k h; have := unhide Hka; omega))
  have HG := hide (fun v0 v1 v2 v3 v4 v5 v6 v7 v8 => set9 (unhide HNZ) v0 v1 v2 v3 v4 v5 v6 v7 v8)
  clear C4 o7 NZ E7 hB7
  go_wp2_with fail
  exact bodyPost_ret (res1_an Tryz.results14 _ rfl (unhide HG _ _ _ _ _ _ _ _ _) rfl) rfl (unhide FF _ _ _ _ _ _ _ _ _)
end
end Go.Proofs.Qxb6500414aGreat
