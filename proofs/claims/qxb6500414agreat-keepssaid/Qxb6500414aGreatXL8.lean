/-
  OWN WORK. THE TXN LAW: PlayReal: Scan, View, SchemaOf; all kinds (written by tools/gen_xl8.py).
-/
import Derived.Test.Qxb6500414aGreatXL7
namespace Go.Proofs.Qxb6500414aGreat
open Go.RowKit Go.PlainAid
set_option linter.unusedSimpArgs false
set_option linter.unusedVariables false

section
variable {q : Gnd} {w : World} {g x : Nat} {M : Mu} {K : Nat → Prop}
set_option maxRecDepth 100000 in
set_option maxHeartbeats 2000000 in
theorem pr14_any (R : RX q w g x M K) (hrc : q.recs.length ≤ 300) (a bb cc : Int) (s t : ByteArray) (hT : t.size ≤ maxLen) : Calls Tryz.prog 14 #[.pointer (some ⟨g, 0, none⟩), opX 14 a bb cc s t] w (PrP q w g x M K 14 a bb cc s t) := by
  have o1 : Only (fun _ => False) w ((w.alloc (.cells #[.int .i64 14, .int .i64 a, .int .i64 bb, .int .i64 cc, .string s, .string t] 44)).alloc (.cells #[.int .i64 0, .int .i64 0, .slice none 0 0, .slice none 0 0, .string ⟨#[]⟩, .slice none 0 0, .int .i64 0, .int .i64 0, .slice none 0 0] 54)) := ((Only.refl _ _).alloc _).alloc _
  have A1 : Has ((w.alloc (.cells #[.int .i64 14, .int .i64 a, .int .i64 bb, .int .i64 cc, .string s, .string t] 44)).alloc (.cells #[.int .i64 0, .int .i64 0, .slice none 0 0, .slice none 0 0, .string ⟨#[]⟩, .slice none 0 0, .int .i64 0, .int .i64 0, .slice none 0 0] 54)) w.heap.size #[.int .i64 14, .int .i64 a, .int .i64 bb, .int .i64 cc, .string s, .string t] 44 := (Has.new w _ _).alloc _
  have B1 : Has ((w.alloc (.cells #[.int .i64 14, .int .i64 a, .int .i64 bb, .int .i64 cc, .string s, .string t] 44)).alloc (.cells #[.int .i64 0, .int .i64 0, .slice none 0 0, .slice none 0 0, .string ⟨#[]⟩, .slice none 0 0, .int .i64 0, .int .i64 0, .slice none 0 0] 54)) (w.heap.size + 1) #[.int .i64 0, .int .i64 0, .slice none 0 0, .slice none 0 0, .string ⟨#[]⟩, .slice none 0 0, .int .i64 0, .int .i64 0, .slice none 0 0] 54 := Has.new' _ _ _ _ (by simp)
  have HR := hide (R.quiet o1)
  have HKl := hide (show ∀ k, K k → k < w.heap.size from fun k h => (R.kA k h).2.2)
  have HAl := hide (show ∀ k, q.A k ∨ k = x → k < w.heap.size from fun k h => h.elim (R.Alt.1 k) (fun e => by rw [e]; exact R.Alt.2))
  have HA := hide A1
  have HB := hide B1
  have HO := hide o1
  have HT := hide hT
  clear R o1 A1 B1 hT
  unfold opX
  go_enter Tryz.func14, Tryz.ntmps14
  go_upto_region 1 with fail
  generalize ((w.alloc (.cells #[.int .i64 14, .int .i64 a, .int .i64 bb, .int .i64 cc, .string s, .string t] 44)).alloc (.cells #[.int .i64 0, .int .i64 0, .slice none 0 0, .slice none 0 0, .string ⟨#[]⟩, .slice none 0 0, .int .i64 0, .int .i64 0, .slice none 0 0] 54)) = w1 at *
  have ka1 := (unhide HA).lt
  have kb1 := (unhide HB).lt
  generalize hka : w.heap.size = ka at *
  have Hka := hide hka
  clear hka
  have a0 : w1.cell? ⟨ka, 0, none⟩ = some (.int .i64 14) := (unhide HA).cell 0
  have a1 : w1.cell? ⟨ka, 1, none⟩ = some (.int .i64 a) := (unhide HA).cell 1
  have a4 : w1.cell? ⟨ka, 4, none⟩ = some (.string s) := (unhide HA).cell 4
  have HR2 := HR
  have HO2 := HO
  have C2 := hide (q14_any (unhide HR2) a bb cc s t)
  go_wp2_with fail
  refine (unhide C2).mono ?_
  rintro e w4 ⟨v, z, Z, rfl, hv, hl, hr8, M', r4, o4, hc4, hop⟩
  obtain ⟨va, vc, hsh⟩ := ownsRow_shape hv.own
  obtain ⟨rn, hrn⟩ : ∃ n, Z.length = n := ⟨_, rfl⟩
  have C3 := cloneRowsL_any hv hl hr8
  rw [hrn] at hsh
  subst hsh
  have C3 := hide C3
  have HB4 := hide ((unhide HB).keep o4 (fun c => c.elim (fun h => by have := unhide HAl (ka + 1) (.inl (Gnd.S_A h)); omega) (fun h => by have := unhide HKl (ka + 1) h; omega)))
  have s4 := o4.size
  have HBv := hide (show ∀ k, ((Value.slice va rn vc).ownBlock = some k ∨ ∃ y ∈ Z, y.1.ownBlock = some k) → w1.heap.size ≤ k ∧ k < w4.heap.size from fun k h => by
    rcases h with h | ⟨y, hy, h⟩
    · exact ⟨hv.nb k h, ownsRow_lt hv.own k h⟩
    · exact ⟨(hv.row y hy).2 k h, (hv.row y hy).1.lt k h⟩)
  have HPO := hide (And.intro r4 (And.intro o4 (And.intro hc4 hop)))
  have HV := hide (And.intro hv (And.intro hl hr8))
  have Hrn := hide hrn
  clear C2 hv hl hr8 r4 o4 hc4 hop hrn a0 a1 a4
  go_wp2_with fail
  refine (unhide C3).mono ?_
  rintro e w5 ⟨zb, us, rfl, hul, O5, hur, hzb, hus, o5⟩
  have hml : (Z.map (·.2)).length = rn := by rw [List.length_map]; exact unhide Hrn
  rw [hml] at hul
  rw [hml] at O5
  rw [hml]
  have Hs45 := hide o5.size
  have HUz := hide (show (us.zip (Z.map (·.2))).length = us.length ∧ (us.zip (Z.map (·.2))).map (·.1) = us ∧ (us.zip (Z.map (·.2))).map (·.2) = Z.map (·.2) from ⟨by rw [List.length_zip, hml]; omega, List.map_fst_zip (by rw [hml]; omega), List.map_snd_zip (by rw [hml]; omega)⟩)
  have HUr := hide (show ∀ y ∈ us.zip (Z.map (·.2)), OwnV (w5.alloc (.cells #[.int .i64 z, .int .i64 0, .slice none 0 0, .slice (some ⟨zb, 0, none⟩) rn rn, .string ⟨#[]⟩, .slice none 0 0, .int .i64 0, .int .i64 0, .slice none 0 0] 54)) y.1 y.2 ∧ ∀ k, y.1.ownBlock = some k → w4.heap.size ≤ k from fun y hy => by
    obtain ⟨j, hj⟩ := List.getElem?_of_mem hy
    rw [List.getElem?_zip_eq_some] at hj
    exact ⟨(hur j y.1 y.2 hj.1 hj.2).keep ((Only.refl _ w5).alloc _) (fun _ _ h => h), hus y.1 (List.mem_of_getElem? hj.1)⟩)
  have oE : Only (fun _ => False) w5 (w5.alloc (.cells #[.int .i64 z, .int .i64 0, .slice none 0 0, .slice (some ⟨zb, 0, none⟩) rn rn, .string ⟨#[]⟩, .slice none 0 0, .int .i64 0, .int .i64 0, .slice none 0 0] 54)) := (Only.refl _ _).alloc _
  have HE := hide (Has.new w5 #[.int .i64 z, .int .i64 0, .slice none 0 0, .slice (some ⟨zb, 0, none⟩) rn rn, .string ⟨#[]⟩, .slice none 0 0, .int .i64 0, .int .i64 0, .slice none 0 0] 54)
  have s5 := o5.size
  have o46 := o5.trans oE (fun _ _ h => h)
  have HNB := hide ((unhide HB4).keep o46 (fun h => h))
  have HO46 := hide o46
  have HO5 := hide (And.intro (ownsRow_keep O5 oE (fun _ _ h => h)) hzb)
  have C4 := hide (spoilAllL_any ((unhide HV).1.quiet o46) (by have := (unhide HV).2.1; omega) (unhide HV).2.2)
  clear C3 o5 oE o46 O5 hur hus hul hml
  go_upto_region 51 with fail
  generalize w5.alloc (.cells #[.int .i64 z, .int .i64 0, .slice none 0 0, .slice (some ⟨zb, 0, none⟩) rn rn, .string ⟨#[]⟩, .slice none 0 0, .int .i64 0, .int .i64 0, .slice none 0 0] 54) = w6 at *
  have ke6 := (unhide HE).lt
  generalize hke : w5.heap.size = ke at *
  have Hke := hide hke
  clear hke
  go_wp2_with fail
  refine (unhide C4).mono ?_
  rintro e w7 ⟨rfl, o7⟩
  have hB7 : ∀ k, (fun k => (Value.slice va rn vc).ownBlock = some k ∨ ∃ y ∈ Z, y.1.ownBlock = some k) k → w1.heap.size ≤ k ∧ k < w4.heap.size := unhide HBv
  have NZ := (unhide HNB).keep o7 (fun h => by have := hB7 (ka + 1) h; omega)
  have E7 := (unhide HE).keep o7 (fun h => by have := hB7 ke h; have := unhide Hs45; omega)
  have HE7 := hide E7
  have HP := hide (PrP.obs (m := ⟨.slice none 0 0, .slice (some ⟨zb, 0, none⟩) rn rn, us.zip (Z.map (·.2)), .slice none 0 0, .slice none 0 0⟩) (unhide HR2) (unhide HPO).1 (unhide HPO).2.1 (unhide HPO).2.2.1 (unhide HPO).2.2.2 ((((unhide HO46).mono (T := fun k => (Value.slice va rn vc).ownBlock = some k ∨ ∃ y ∈ Z, y.1.ownBlock = some k) (fun _ _ h => h.elim)).trans o7 (fun _ _ h => h))) (fun k h => (hB7 k h).1) ⟨OwnV.nil _, by rw [(unhide HUz).1, (unhide HUz).2.1]; exact ownsRow_keep (unhide HO5).1 o7 (fun k hk h => by have h2 := hB7 k h; simp [Value.ownBlock] at hk; have := (unhide HO5).2; omega), (fun y hy => (unhide HUr y hy).1.keep o7 (fun k hk h => by have h2 := hB7 k h; have := (unhide HUr y hy).2 k hk; omega)), (unhide HUz).2.2, OwnC.nil _, World.ownsRow_nil _ _ _ _, ⟨by simp [An.z], by have := (unhide HV).2.1; show (Z.map (·.2)).length ≤ 1000; rw [List.length_map]; omega, (fun r hr => by have hr' : r ∈ Z.map (·.2) := hr; obtain ⟨y, hy, rfl⟩ := List.mem_map.mp hr'; exact (unhide HV).2.2 y hy), by simp [An.z], by simp [An.z]⟩⟩ (fun k h => by
    rcases h with h | h | ⟨y, hy, h⟩ | h | h
    · cases h
    · simp [Value.ownBlock] at h; have := (unhide HO5).2; omega
    · exact (unhide HUr y hy).2 k h
    · cases h
    · cases h))
  have HNZ := hide NZ
  have kz := NZ.lt
  have kE := E7.lt
  have e0 : w7.cell? ⟨ke, 0, none⟩ = some (.int .i64 z) := (unhide HE7).cell 0
  have e1 : w7.cell? ⟨ke, 1, none⟩ = some (.int .i64 0) := (unhide HE7).cell 1
  have e2 : w7.cell? ⟨ke, 2, none⟩ = some (.slice none 0 0) := (unhide HE7).cell 2
  have e3 : w7.cell? ⟨ke, 3, none⟩ = some (.slice (some ⟨zb, 0, none⟩) rn rn) := (unhide HE7).cell 3
  have e4 : w7.cell? ⟨ke, 4, none⟩ = some (.string ⟨#[]⟩) := (unhide HE7).cell 4
  have e5 : w7.cell? ⟨ke, 5, none⟩ = some (.slice none 0 0) := (unhide HE7).cell 5
  have e6 : w7.cell? ⟨ke, 6, none⟩ = some (.int .i64 0) := (unhide HE7).cell 6
  have e7 : w7.cell? ⟨ke, 7, none⟩ = some (.int .i64 0) := (unhide HE7).cell 7
  have e8 : w7.cell? ⟨ke, 8, none⟩ = some (.slice none 0 0) := (unhide HE7).cell 8
  have n0 : w7.cell? ⟨ka + 1, 0, none⟩ = some (.int .i64 0) := NZ.cell 0
  have f0 : w7.frozen? ⟨ka + 1, 0, none⟩ = false := NZ.free 0
  have n1 : w7.cell? ⟨ka + 1, 1, none⟩ = some (.int .i64 0) := NZ.cell 1
  have f1 : w7.frozen? ⟨ka + 1, 1, none⟩ = false := NZ.free 1
  have n2 : w7.cell? ⟨ka + 1, 2, none⟩ = some (.slice none 0 0) := NZ.cell 2
  have f2 : w7.frozen? ⟨ka + 1, 2, none⟩ = false := NZ.free 2
  have n3 : w7.cell? ⟨ka + 1, 3, none⟩ = some (.slice none 0 0) := NZ.cell 3
  have f3 : w7.frozen? ⟨ka + 1, 3, none⟩ = false := NZ.free 3
  have n4 : w7.cell? ⟨ka + 1, 4, none⟩ = some (.string ⟨#[]⟩) := NZ.cell 4
  have f4 : w7.frozen? ⟨ka + 1, 4, none⟩ = false := NZ.free 4
  have n5 : w7.cell? ⟨ka + 1, 5, none⟩ = some (.slice none 0 0) := NZ.cell 5
  have f5 : w7.frozen? ⟨ka + 1, 5, none⟩ = false := NZ.free 5
  have n6 : w7.cell? ⟨ka + 1, 6, none⟩ = some (.int .i64 0) := NZ.cell 6
  have f6 : w7.frozen? ⟨ka + 1, 6, none⟩ = false := NZ.free 6
  have n7 : w7.cell? ⟨ka + 1, 7, none⟩ = some (.int .i64 0) := NZ.cell 7
  have f7 : w7.frozen? ⟨ka + 1, 7, none⟩ = false := NZ.free 7
  have n8 : w7.cell? ⟨ka + 1, 8, none⟩ = some (.slice none 0 0) := NZ.cell 8
  have f8 : w7.frozen? ⟨ka + 1, 8, none⟩ = false := NZ.free 8
  have FF := hide (fun v0 v1 v2 v3 v4 v5 v6 v7 v8 => (unhide HP).fin (B := fun b => b = ka + 1) (unhide HO2) (only9 _ _ _ _ _ _ _ _ _ _ _ : Only _ _ ((((((((((w7.setCell ⟨ka + 1, 0, none⟩ v0).setCell ⟨ka + 1, 1, none⟩ v1).setCell ⟨ka + 1, 2, none⟩ v2).setCell ⟨ka + 1, 3, none⟩ v3).setCell ⟨ka + 1, 4, none⟩ v4).setCell ⟨ka + 1, 5, none⟩ v5).setCell ⟨ka + 1, 6, none⟩ v6).setCell ⟨ka + 1, 7, none⟩ v7).setCell ⟨ka + 1, 8, none⟩ v8))) (fun k h => by have h' : k = ka + 1 := h; have := unhide Hka; omega) (fun k h => by have := unhide HKl k h; have := unhide Hka; omega) (fun k h => by have := unhide HAl k h; have := unhide Hka; omega))
  have HG := hide (fun v0 v1 v2 v3 v4 v5 v6 v7 v8 => set9 (unhide HNZ) v0 v1 v2 v3 v4 v5 v6 v7 v8)
  clear C4 o7 NZ E7 hB7
  go_wp2_with fail
  exact bodyPost_ret (res1_an Tryz.results14 _ rfl (unhide HG _ _ _ _ _ _ _ _ _) rfl) rfl (unhide FF _ _ _ _ _ _ _ _ _)
set_option maxRecDepth 100000 in
set_option maxHeartbeats 2000000 in
theorem pr11_any (R : RX q w g x M K) (hrc : q.recs.length ≤ 300) (a bb cc : Int) (s t : ByteArray) (hT : t.size ≤ maxLen) : Calls Tryz.prog 14 #[.pointer (some ⟨g, 0, none⟩), opX 11 a bb cc s t] w (PrP q w g x M K 11 a bb cc s t) := by
  have o1 : Only (fun _ => False) w ((w.alloc (.cells #[.int .i64 11, .int .i64 a, .int .i64 bb, .int .i64 cc, .string s, .string t] 44)).alloc (.cells #[.int .i64 0, .int .i64 0, .slice none 0 0, .slice none 0 0, .string ⟨#[]⟩, .slice none 0 0, .int .i64 0, .int .i64 0, .slice none 0 0] 54)) := ((Only.refl _ _).alloc _).alloc _
  have A1 : Has ((w.alloc (.cells #[.int .i64 11, .int .i64 a, .int .i64 bb, .int .i64 cc, .string s, .string t] 44)).alloc (.cells #[.int .i64 0, .int .i64 0, .slice none 0 0, .slice none 0 0, .string ⟨#[]⟩, .slice none 0 0, .int .i64 0, .int .i64 0, .slice none 0 0] 54)) w.heap.size #[.int .i64 11, .int .i64 a, .int .i64 bb, .int .i64 cc, .string s, .string t] 44 := (Has.new w _ _).alloc _
  have B1 : Has ((w.alloc (.cells #[.int .i64 11, .int .i64 a, .int .i64 bb, .int .i64 cc, .string s, .string t] 44)).alloc (.cells #[.int .i64 0, .int .i64 0, .slice none 0 0, .slice none 0 0, .string ⟨#[]⟩, .slice none 0 0, .int .i64 0, .int .i64 0, .slice none 0 0] 54)) (w.heap.size + 1) #[.int .i64 0, .int .i64 0, .slice none 0 0, .slice none 0 0, .string ⟨#[]⟩, .slice none 0 0, .int .i64 0, .int .i64 0, .slice none 0 0] 54 := Has.new' _ _ _ _ (by simp)
  have HR := hide (R.quiet o1)
  have HKl := hide (show ∀ k, K k → k < w.heap.size from fun k h => (R.kA k h).2.2)
  have HAl := hide (show ∀ k, q.A k ∨ k = x → k < w.heap.size from fun k h => h.elim (R.Alt.1 k) (fun e => by rw [e]; exact R.Alt.2))
  have HA := hide A1
  have HB := hide B1
  have HO := hide o1
  have HT := hide hT
  clear R o1 A1 B1 hT
  unfold opX
  go_enter Tryz.func14, Tryz.ntmps14
  go_upto_region 1 with fail
  generalize ((w.alloc (.cells #[.int .i64 11, .int .i64 a, .int .i64 bb, .int .i64 cc, .string s, .string t] 44)).alloc (.cells #[.int .i64 0, .int .i64 0, .slice none 0 0, .slice none 0 0, .string ⟨#[]⟩, .slice none 0 0, .int .i64 0, .int .i64 0, .slice none 0 0] 54)) = w1 at *
  have ka1 := (unhide HA).lt
  have kb1 := (unhide HB).lt
  generalize hka : w.heap.size = ka at *
  have Hka := hide hka
  clear hka
  have a0 : w1.cell? ⟨ka, 0, none⟩ = some (.int .i64 11) := (unhide HA).cell 0
  have a1 : w1.cell? ⟨ka, 1, none⟩ = some (.int .i64 a) := (unhide HA).cell 1
  have a2 : w1.cell? ⟨ka, 2, none⟩ = some (.int .i64 bb) := (unhide HA).cell 2
  have a3 : w1.cell? ⟨ka, 3, none⟩ = some (.int .i64 cc) := (unhide HA).cell 3
  have a4 : w1.cell? ⟨ka, 4, none⟩ = some (.string s) := (unhide HA).cell 4
  have a5 : w1.cell? ⟨ka, 5, none⟩ = some (.string t) := (unhide HA).cell 5
  obtain ⟨key, hkey⟩ : ∃ key, fstP t = key := ⟨_, rfl⟩
  obtain ⟨kez, hkez⟩ : ∃ key, sndP t = key := ⟨_, rfl⟩
  obtain ⟨lb, hlb⟩ : ∃ lb : Bool, (bits BinOp.and IntKind.i64 cc 1 != 0) = lb := ⟨_, rfl⟩
  obtain ⟨ub, hub⟩ : ∃ ub : Bool, (bits BinOp.and IntKind.i64 cc 2 != 0) = ub := ⟨_, rfl⟩
  have C1 := lo_any 11 a bb cc s t (unhide HT) w1
  rw [hkey, hlb] at C1
  unfold opX bdA at C1
  have C1 := hide C1
  have Hk := hide (And.intro (And.intro hkey hkez) (And.intro hlb hub))
  clear hkey hkez hlb hub
  go_wp2_with fail
  refine (unhide C1).mono ?_
  rintro e w2 ⟨rfl, o2⟩
  have oA : Only (fun _ => False) w2 (w2.alloc (.cells #[.bool lb, .bool key.str, .int .i64 key.i, .string key.s] 113)) := (Only.refl _ _).alloc _
  have HL2 := hide (Has.new w2 #[.bool lb, .bool key.str, .int .i64 key.i, .string key.s] 113)
  have o3 := o2.trans oA (fun _ _ h => h)
  have HRa := hide ((unhide HR).quiet o3)
  have HAa := hide ((unhide HA).keep o3 (fun h => h))
  have HBa := hide ((unhide HB).keep o3 (fun h => h))
  have HOa := hide ((unhide HO).trans o3 (fun _ _ h => h))
  have s3 := o3.size
  clear C1 o2 oA o3 a0 a1 a2 a3 a4 a5
  go_upto_region 38 with fail
  generalize w2.alloc (.cells #[.bool lb, .bool key.str, .int .i64 key.i, .string key.s] 113) = w3 at *
  generalize w2.heap.size = kl at *
  have a0 : w3.cell? ⟨ka, 0, none⟩ = some (.int .i64 11) := (unhide HAa).cell 0
  have a1 : w3.cell? ⟨ka, 1, none⟩ = some (.int .i64 a) := (unhide HAa).cell 1
  have a2 : w3.cell? ⟨ka, 2, none⟩ = some (.int .i64 bb) := (unhide HAa).cell 2
  have a3 : w3.cell? ⟨ka, 3, none⟩ = some (.int .i64 cc) := (unhide HAa).cell 3
  have a4 : w3.cell? ⟨ka, 4, none⟩ = some (.string s) := (unhide HAa).cell 4
  have a5 : w3.cell? ⟨ka, 5, none⟩ = some (.string t) := (unhide HAa).cell 5
  have ka3 := (unhide HAa).lt
  have C1 := hi_any 11 a bb cc s t (unhide HT) w3
  rw [(unhide Hk).1.2, (unhide Hk).2.2] at C1
  unfold opX bdA at C1
  have C1 := hide C1
  go_wp2_with fail
  refine (unhide C1).mono ?_
  rintro e wa ⟨rfl, o2⟩
  have oA : Only (fun _ => False) wa (wa.alloc (.cells #[.bool ub, .bool kez.str, .int .i64 kez.i, .string kez.s] 113)) := (Only.refl _ _).alloc _
  have HU2 := hide (Has.new wa #[.bool ub, .bool kez.str, .int .i64 kez.i, .string kez.s] 113)
  have o3 := o2.trans oA (fun _ _ h => h)
  have HR2 := hide ((unhide HRa).quiet o3)
  have HA2 := hide ((unhide HAa).keep o3 (fun h => h))
  have HB2 := hide ((unhide HBa).keep o3 (fun h => h))
  have HL3 := hide ((unhide HL2).keep o3 (fun h => h))
  have HO2 := hide ((unhide HOa).trans o3 (fun _ _ h => h))
  have s3b := o3.size
  clear C1 o2 oA o3 a0 a1 a2 a3 a4 a5 HRa HAa HBa HOa HL2
  go_upto_region 39 with fail
  generalize wa.alloc (.cells #[.bool ub, .bool kez.str, .int .i64 kez.i, .string kez.s] 113) = wb at *
  generalize wa.heap.size = ku at *
  have a1 : wb.cell? ⟨ka, 1, none⟩ = some (.int .i64 a) := (unhide HA2).cell 1
  have a2 : wb.cell? ⟨ka, 2, none⟩ = some (.int .i64 bb) := (unhide HA2).cell 2
  have a4 : wb.cell? ⟨ka, 4, none⟩ = some (.string s) := (unhide HA2).cell 4
  have l0 : wb.cell? ⟨kl, 0, none⟩ = some (.bool lb) := (unhide HL3).cell 0
  have l1 : wb.cell? ⟨kl, 1, none⟩ = some (.bool key.str) := (unhide HL3).cell 1
  have l2 : wb.cell? ⟨kl, 2, none⟩ = some (.int .i64 key.i) := (unhide HL3).cell 2
  have l3 : wb.cell? ⟨kl, 3, none⟩ = some (.string key.s) := (unhide HL3).cell 3
  have u0 : wb.cell? ⟨ku, 0, none⟩ = some (.bool ub) := (unhide HU2).cell 0
  have u1 : wb.cell? ⟨ku, 1, none⟩ = some (.bool kez.str) := (unhide HU2).cell 1
  have u2 : wb.cell? ⟨ku, 2, none⟩ = some (.int .i64 kez.i) := (unhide HU2).cell 2
  have u3 : wb.cell? ⟨ku, 3, none⟩ = some (.string kez.s) := (unhide HU2).cell 3
  have kab := (unhide HA2).lt
  have C2 := q11_any (unhide HR2) a bb cc s t
  rw [(unhide Hk).1.1, (unhide Hk).1.2, (unhide Hk).2.1, (unhide Hk).2.2] at C2
  unfold bdA at C2
  have C2 := hide C2
  go_wp2_with fail
  refine (unhide C2).mono ?_
  rintro e w4 ⟨v, z, Z, rfl, hv, hl, hr8, M', r4, o4, hc4, hop⟩
  obtain ⟨va, vc, hsh⟩ := ownsRow_shape hv.own
  obtain ⟨rn, hrn⟩ : ∃ n, Z.length = n := ⟨_, rfl⟩
  have C3 := cloneRowsL_any hv hl hr8
  rw [hrn] at hsh
  subst hsh
  have C3 := hide C3
  have HB4 := hide ((unhide HB2).keep o4 (fun c => c.elim (fun h => by have := unhide HAl (ka + 1) (.inl (Gnd.S_A h)); omega) (fun h => by have := unhide HKl (ka + 1) h; omega)))
  have s4 := o4.size
  have HBv := hide (show ∀ k, ((Value.slice va rn vc).ownBlock = some k ∨ ∃ y ∈ Z, y.1.ownBlock = some k) → wb.heap.size ≤ k ∧ k < w4.heap.size from fun k h => by
    rcases h with h | ⟨y, hy, h⟩
    · exact ⟨hv.nb k h, ownsRow_lt hv.own k h⟩
    · exact ⟨(hv.row y hy).2 k h, (hv.row y hy).1.lt k h⟩)
  have HPO := hide (And.intro r4 (And.intro o4 (And.intro hc4 hop)))
  have HV := hide (And.intro hv (And.intro hl hr8))
  have Hrn := hide hrn
  clear C2 hv hl hr8 r4 o4 hc4 hop hrn a1 a2 a4 l0 l1 l2 l3 u0 u1 u2 u3
  go_wp2_with fail
  refine (unhide C3).mono ?_
  rintro e w5 ⟨zb, us, rfl, hul, O5, hur, hzb, hus, o5⟩
  have hml : (Z.map (·.2)).length = rn := by rw [List.length_map]; exact unhide Hrn
  rw [hml] at hul
  rw [hml] at O5
  rw [hml]
  have Hs45 := hide o5.size
  have HUz := hide (show (us.zip (Z.map (·.2))).length = us.length ∧ (us.zip (Z.map (·.2))).map (·.1) = us ∧ (us.zip (Z.map (·.2))).map (·.2) = Z.map (·.2) from ⟨by rw [List.length_zip, hml]; omega, List.map_fst_zip (by rw [hml]; omega), List.map_snd_zip (by rw [hml]; omega)⟩)
  have HUr := hide (show ∀ y ∈ us.zip (Z.map (·.2)), OwnV (w5.alloc (.cells #[.int .i64 z, .int .i64 0, .slice none 0 0, .slice (some ⟨zb, 0, none⟩) rn rn, .string ⟨#[]⟩, .slice none 0 0, .int .i64 0, .int .i64 0, .slice none 0 0] 54)) y.1 y.2 ∧ ∀ k, y.1.ownBlock = some k → w4.heap.size ≤ k from fun y hy => by
    obtain ⟨j, hj⟩ := List.getElem?_of_mem hy
    rw [List.getElem?_zip_eq_some] at hj
    exact ⟨(hur j y.1 y.2 hj.1 hj.2).keep ((Only.refl _ w5).alloc _) (fun _ _ h => h), hus y.1 (List.mem_of_getElem? hj.1)⟩)
  have oE : Only (fun _ => False) w5 (w5.alloc (.cells #[.int .i64 z, .int .i64 0, .slice none 0 0, .slice (some ⟨zb, 0, none⟩) rn rn, .string ⟨#[]⟩, .slice none 0 0, .int .i64 0, .int .i64 0, .slice none 0 0] 54)) := (Only.refl _ _).alloc _
  have HE := hide (Has.new w5 #[.int .i64 z, .int .i64 0, .slice none 0 0, .slice (some ⟨zb, 0, none⟩) rn rn, .string ⟨#[]⟩, .slice none 0 0, .int .i64 0, .int .i64 0, .slice none 0 0] 54)
  have s5 := o5.size
  have o46 := o5.trans oE (fun _ _ h => h)
  have HNB := hide ((unhide HB4).keep o46 (fun h => h))
  have HO46 := hide o46
  have HO5 := hide (And.intro (ownsRow_keep O5 oE (fun _ _ h => h)) hzb)
  have C4 := hide (spoilAllL_any ((unhide HV).1.quiet o46) (by have := (unhide HV).2.1; omega) (unhide HV).2.2)
  clear C3 o5 oE o46 O5 hur hus hul hml
  go_upto_region 41 with fail
  generalize w5.alloc (.cells #[.int .i64 z, .int .i64 0, .slice none 0 0, .slice (some ⟨zb, 0, none⟩) rn rn, .string ⟨#[]⟩, .slice none 0 0, .int .i64 0, .int .i64 0, .slice none 0 0] 54) = w6 at *
  have ke6 := (unhide HE).lt
  generalize hke : w5.heap.size = ke at *
  have Hke := hide hke
  clear hke
  go_wp2_with fail
  refine (unhide C4).mono ?_
  rintro e w7 ⟨rfl, o7⟩
  have hB7 : ∀ k, (fun k => (Value.slice va rn vc).ownBlock = some k ∨ ∃ y ∈ Z, y.1.ownBlock = some k) k → wb.heap.size ≤ k ∧ k < w4.heap.size := unhide HBv
  have NZ := (unhide HNB).keep o7 (fun h => by have := hB7 (ka + 1) h; omega)
  have E7 := (unhide HE).keep o7 (fun h => by have := hB7 ke h; have := unhide Hs45; omega)
  have HE7 := hide E7
  have HP := hide (PrP.obs (m := ⟨.slice none 0 0, .slice (some ⟨zb, 0, none⟩) rn rn, us.zip (Z.map (·.2)), .slice none 0 0, .slice none 0 0⟩) (unhide HR2) (unhide HPO).1 (unhide HPO).2.1 (unhide HPO).2.2.1 (unhide HPO).2.2.2 ((((unhide HO46).mono (T := fun k => (Value.slice va rn vc).ownBlock = some k ∨ ∃ y ∈ Z, y.1.ownBlock = some k) (fun _ _ h => h.elim)).trans o7 (fun _ _ h => h))) (fun k h => (hB7 k h).1) ⟨OwnV.nil _, by rw [(unhide HUz).1, (unhide HUz).2.1]; exact ownsRow_keep (unhide HO5).1 o7 (fun k hk h => by have h2 := hB7 k h; simp [Value.ownBlock] at hk; have := (unhide HO5).2; omega), (fun y hy => (unhide HUr y hy).1.keep o7 (fun k hk h => by have h2 := hB7 k h; have := (unhide HUr y hy).2 k hk; omega)), (unhide HUz).2.2, OwnC.nil _, World.ownsRow_nil _ _ _ _, ⟨by simp [An.z], by have := (unhide HV).2.1; show (Z.map (·.2)).length ≤ 1000; rw [List.length_map]; omega, (fun r hr => by have hr' : r ∈ Z.map (·.2) := hr; obtain ⟨y, hy, rfl⟩ := List.mem_map.mp hr'; exact (unhide HV).2.2 y hy), by simp [An.z], by simp [An.z]⟩⟩ (fun k h => by
    rcases h with h | h | ⟨y, hy, h⟩ | h | h
    · cases h
    · simp [Value.ownBlock] at h; have := (unhide HO5).2; omega
    · exact (unhide HUr y hy).2 k h
    · cases h
    · cases h))
  have HNZ := hide NZ
  have kz := NZ.lt
  have kE := E7.lt
  have e0 : w7.cell? ⟨ke, 0, none⟩ = some (.int .i64 z) := (unhide HE7).cell 0
  have e1 : w7.cell? ⟨ke, 1, none⟩ = some (.int .i64 0) := (unhide HE7).cell 1
  have e2 : w7.cell? ⟨ke, 2, none⟩ = some (.slice none 0 0) := (unhide HE7).cell 2
  have e3 : w7.cell? ⟨ke, 3, none⟩ = some (.slice (some ⟨zb, 0, none⟩) rn rn) := (unhide HE7).cell 3
  have e4 : w7.cell? ⟨ke, 4, none⟩ = some (.string ⟨#[]⟩) := (unhide HE7).cell 4
  have e5 : w7.cell? ⟨ke, 5, none⟩ = some (.slice none 0 0) := (unhide HE7).cell 5
  have e6 : w7.cell? ⟨ke, 6, none⟩ = some (.int .i64 0) := (unhide HE7).cell 6
  have e7 : w7.cell? ⟨ke, 7, none⟩ = some (.int .i64 0) := (unhide HE7).cell 7
  have e8 : w7.cell? ⟨ke, 8, none⟩ = some (.slice none 0 0) := (unhide HE7).cell 8
  have n0 : w7.cell? ⟨ka + 1, 0, none⟩ = some (.int .i64 0) := NZ.cell 0
  have f0 : w7.frozen? ⟨ka + 1, 0, none⟩ = false := NZ.free 0
  have n1 : w7.cell? ⟨ka + 1, 1, none⟩ = some (.int .i64 0) := NZ.cell 1
  have f1 : w7.frozen? ⟨ka + 1, 1, none⟩ = false := NZ.free 1
  have n2 : w7.cell? ⟨ka + 1, 2, none⟩ = some (.slice none 0 0) := NZ.cell 2
  have f2 : w7.frozen? ⟨ka + 1, 2, none⟩ = false := NZ.free 2
  have n3 : w7.cell? ⟨ka + 1, 3, none⟩ = some (.slice none 0 0) := NZ.cell 3
  have f3 : w7.frozen? ⟨ka + 1, 3, none⟩ = false := NZ.free 3
  have n4 : w7.cell? ⟨ka + 1, 4, none⟩ = some (.string ⟨#[]⟩) := NZ.cell 4
  have f4 : w7.frozen? ⟨ka + 1, 4, none⟩ = false := NZ.free 4
  have n5 : w7.cell? ⟨ka + 1, 5, none⟩ = some (.slice none 0 0) := NZ.cell 5
  have f5 : w7.frozen? ⟨ka + 1, 5, none⟩ = false := NZ.free 5
  have n6 : w7.cell? ⟨ka + 1, 6, none⟩ = some (.int .i64 0) := NZ.cell 6
  have f6 : w7.frozen? ⟨ka + 1, 6, none⟩ = false := NZ.free 6
  have n7 : w7.cell? ⟨ka + 1, 7, none⟩ = some (.int .i64 0) := NZ.cell 7
  have f7 : w7.frozen? ⟨ka + 1, 7, none⟩ = false := NZ.free 7
  have n8 : w7.cell? ⟨ka + 1, 8, none⟩ = some (.slice none 0 0) := NZ.cell 8
  have f8 : w7.frozen? ⟨ka + 1, 8, none⟩ = false := NZ.free 8
  have FF := hide (fun v0 v1 v2 v3 v4 v5 v6 v7 v8 => (unhide HP).fin (B := fun b => b = ka + 1) (unhide HO2) (only9 _ _ _ _ _ _ _ _ _ _ _ : Only _ _ ((((((((((w7.setCell ⟨ka + 1, 0, none⟩ v0).setCell ⟨ka + 1, 1, none⟩ v1).setCell ⟨ka + 1, 2, none⟩ v2).setCell ⟨ka + 1, 3, none⟩ v3).setCell ⟨ka + 1, 4, none⟩ v4).setCell ⟨ka + 1, 5, none⟩ v5).setCell ⟨ka + 1, 6, none⟩ v6).setCell ⟨ka + 1, 7, none⟩ v7).setCell ⟨ka + 1, 8, none⟩ v8))) (fun k h => by have h' : k = ka + 1 := h; have := unhide Hka; omega) (fun k h => by have := unhide HKl k h; have := unhide Hka; omega) (fun k h => by have := unhide HAl k h; have := unhide Hka; omega))
  have HG := hide (fun v0 v1 v2 v3 v4 v5 v6 v7 v8 => set9 (unhide HNZ) v0 v1 v2 v3 v4 v5 v6 v7 v8)
  clear C4 o7 NZ E7 hB7
  go_wp2_with fail
  exact bodyPost_ret (res1_an Tryz.results14 _ rfl (unhide HG _ _ _ _ _ _ _ _ _) rfl) rfl (unhide FF _ _ _ _ _ _ _ _ _)
set_option maxRecDepth 100000 in
set_option maxHeartbeats 2000000 in
theorem pr15_any (R : RX q w g x M K) (hrc : q.recs.length ≤ 300) (a bb cc : Int) (s t : ByteArray) (hT : t.size ≤ maxLen) : Calls Tryz.prog 14 #[.pointer (some ⟨g, 0, none⟩), opX 15 a bb cc s t] w (PrP q w g x M K 15 a bb cc s t) := by
  have o1 : Only (fun _ => False) w ((w.alloc (.cells #[.int .i64 15, .int .i64 a, .int .i64 bb, .int .i64 cc, .string s, .string t] 44)).alloc (.cells #[.int .i64 0, .int .i64 0, .slice none 0 0, .slice none 0 0, .string ⟨#[]⟩, .slice none 0 0, .int .i64 0, .int .i64 0, .slice none 0 0] 54)) := ((Only.refl _ _).alloc _).alloc _
  have A1 : Has ((w.alloc (.cells #[.int .i64 15, .int .i64 a, .int .i64 bb, .int .i64 cc, .string s, .string t] 44)).alloc (.cells #[.int .i64 0, .int .i64 0, .slice none 0 0, .slice none 0 0, .string ⟨#[]⟩, .slice none 0 0, .int .i64 0, .int .i64 0, .slice none 0 0] 54)) w.heap.size #[.int .i64 15, .int .i64 a, .int .i64 bb, .int .i64 cc, .string s, .string t] 44 := (Has.new w _ _).alloc _
  have B1 : Has ((w.alloc (.cells #[.int .i64 15, .int .i64 a, .int .i64 bb, .int .i64 cc, .string s, .string t] 44)).alloc (.cells #[.int .i64 0, .int .i64 0, .slice none 0 0, .slice none 0 0, .string ⟨#[]⟩, .slice none 0 0, .int .i64 0, .int .i64 0, .slice none 0 0] 54)) (w.heap.size + 1) #[.int .i64 0, .int .i64 0, .slice none 0 0, .slice none 0 0, .string ⟨#[]⟩, .slice none 0 0, .int .i64 0, .int .i64 0, .slice none 0 0] 54 := Has.new' _ _ _ _ (by simp)
  have HR := hide (R.quiet o1)
  have HKl := hide (show ∀ k, K k → k < w.heap.size from fun k h => (R.kA k h).2.2)
  have HAl := hide (show ∀ k, q.A k ∨ k = x → k < w.heap.size from fun k h => h.elim (R.Alt.1 k) (fun e => by rw [e]; exact R.Alt.2))
  have HA := hide A1
  have HB := hide B1
  have HO := hide o1
  have HT := hide hT
  clear R o1 A1 B1 hT
  unfold opX
  go_enter Tryz.func14, Tryz.ntmps14
  go_upto_region 1 with fail
  generalize ((w.alloc (.cells #[.int .i64 15, .int .i64 a, .int .i64 bb, .int .i64 cc, .string s, .string t] 44)).alloc (.cells #[.int .i64 0, .int .i64 0, .slice none 0 0, .slice none 0 0, .string ⟨#[]⟩, .slice none 0 0, .int .i64 0, .int .i64 0, .slice none 0 0] 54)) = w1 at *
  have ka1 := (unhide HA).lt
  have kb1 := (unhide HB).lt
  generalize hka : w.heap.size = ka at *
  have Hka := hide hka
  clear hka
  have a0 : w1.cell? ⟨ka, 0, none⟩ = some (.int .i64 15) := (unhide HA).cell 0
  have a4 : w1.cell? ⟨ka, 4, none⟩ = some (.string s) := (unhide HA).cell 4
  have HR2 := HR
  have HO2 := HO
  have C2 := hide (q15_any (unhide HR2) a bb cc s t)
  go_wp2_with fail
  refine (unhide C2).mono ?_
  rintro e wq ⟨nm, v, pk, ix, z, cols, rfl, hv, hw, hl, M', r4, o4, hc4, hop⟩
  obtain ⟨va, vc, hsh⟩ := hv.shape
  obtain ⟨rn, hrn⟩ : ∃ n, cols.length = n := ⟨_, rfl⟩
  rw [hrn] at hsh
  subst hsh
  have oS : Only (fun _ => False) wq (wq.alloc (.cells #[.string nm, .slice va rn vc, .int .i64 pk, .int .i64 ix] 51)) := (Only.refl _ _).alloc _
  have HSc := hide (Has.new wq #[.string nm, .slice va rn vc, .int .i64 pk, .int .i64 ix] 51)
  have HB4 := hide (((unhide HB).keep o4 (fun c => c.elim (fun h => by have := unhide HAl (ka + 1) (.inl (Gnd.S_A h)); omega) (fun h => by have := unhide HKl (ka + 1) h; omega))).keep oS (fun h => h))
  have s4 := o4.size
  have hvl := hv.lt
  have HBv := hide (show ∀ k, (Value.slice va rn vc).ownBlock = some k → w1.heap.size ≤ k ∧ k < (wq.alloc (.cells #[.string nm, .slice va rn vc, .int .i64 pk, .int .i64 ix] 51)).heap.size from fun k h => ⟨hw k h, by have := hvl k h; have := oS.size; omega⟩)
  have HPO := hide (And.intro (r4.quiet oS) (And.intro (o4.trans (oS.mono (T := fun k => q.S k ∨ K k) (fun _ _ h => h.elim)) (fun _ _ h => h)) (And.intro hc4 hop)))
  have HV := hide (And.intro (hv.keep oS (fun _ _ h => h)) hl)
  have Hrn := hide hrn
  have C3 := mcloneSchema_any (unhide HV).1 (by omega) nm pk ix
  unfold schA at C3
  rw [hrn] at C3
  have C3 := hide C3
  clear C2 hv hw hl r4 o4 hc4 hop a0 a4 hrn oS hvl
  go_upto_region 55 with fail
  generalize wq.alloc (.cells #[.string nm, .slice va rn vc, .int .i64 pk, .int .i64 ix] 51) = w4 at *
  generalize wq.heap.size = ks at *
  have c0 : w4.cell? ⟨ks, 0, none⟩ = some (.string nm) := (unhide HSc).cell 0
  have c1 : w4.cell? ⟨ks, 1, none⟩ = some (.slice va rn vc) := (unhide HSc).cell 1
  have c2 : w4.cell? ⟨ks, 2, none⟩ = some (.int .i64 pk) := (unhide HSc).cell 2
  have c3 : w4.cell? ⟨ks, 3, none⟩ = some (.int .i64 ix) := (unhide HSc).cell 3
  go_wp2_with fail
  refine (unhide C3).mono ?_
  rintro e w5 ⟨zb, rfl, O5, hzb, o5⟩
  have Hs45 := hide o5.size
  have HSc5 := hide (((unhide HSc).keep o5 (fun h => h)).keep ((Only.refl (fun _ => False) w5).alloc (.cells #[.int .i64 z, .int .i64 0, .slice none 0 0, .slice none 0 0, .string nm, .slice (some ⟨zb, 0, none⟩) rn rn, .int .i64 pk, .int .i64 ix, .slice none 0 0] 54)) (fun h => h))
  clear c0 c1 c2 c3
  have oE : Only (fun _ => False) w5 (w5.alloc (.cells #[.int .i64 z, .int .i64 0, .slice none 0 0, .slice none 0 0, .string nm, .slice (some ⟨zb, 0, none⟩) rn rn, .int .i64 pk, .int .i64 ix, .slice none 0 0] 54)) := (Only.refl _ _).alloc _
  have HE := hide (Has.new w5 #[.int .i64 z, .int .i64 0, .slice none 0 0, .slice none 0 0, .string nm, .slice (some ⟨zb, 0, none⟩) rn rn, .int .i64 pk, .int .i64 ix, .slice none 0 0] 54)
  have s5 := o5.size
  have o46 := o5.trans oE (fun _ _ h => h)
  have HNB := hide ((unhide HB4).keep o46 (fun h => h))
  have HO46 := hide o46
  have HO5 := hide (And.intro (O5.keep oE (fun _ _ h => h)) hzb)
  have C4 := hide (spoilCols_any (((unhide HV).1.keep o46 (fun _ _ h => h))) (by have := (unhide HV).2; omega))
  clear C3 o5 oE o46 O5
  go_upto_region 56 with fail
  generalize w5.alloc (.cells #[.int .i64 z, .int .i64 0, .slice none 0 0, .slice none 0 0, .string nm, .slice (some ⟨zb, 0, none⟩) rn rn, .int .i64 pk, .int .i64 ix, .slice none 0 0] 54) = w6 at *
  have ke6 := (unhide HE).lt
  generalize hke : w5.heap.size = ke at *
  have Hke := hide hke
  clear hke
  have c1 : w6.cell? ⟨ks, 1, none⟩ = some (.slice va rn vc) := (unhide HSc5).cell 1
  have ks6 := (unhide HSc5).lt
  go_wp2_with fail
  refine (unhide C4).mono ?_
  rintro e w7 ⟨rfl, o7⟩
  have hB7 : ∀ k, (fun k => (Value.slice va rn vc).ownBlock = some k) k → w1.heap.size ≤ k ∧ k < w4.heap.size := unhide HBv
  have NZ := (unhide HNB).keep o7 (fun h => by have := hB7 (ka + 1) h; omega)
  have E7 := (unhide HE).keep o7 (fun h => by have := hB7 ke h; have := unhide Hs45; omega)
  have HE7 := hide E7
  have HP := hide (PrP.obs (m := ⟨.slice none 0 0, .slice none 0 0, [], .slice (some ⟨zb, 0, none⟩) rn rn, .slice none 0 0⟩) (unhide HR2) (unhide HPO).1 (unhide HPO).2.1 (unhide HPO).2.2.1 (unhide HPO).2.2.2 ((((unhide HO46).mono (T := fun k => (Value.slice va rn vc).ownBlock = some k) (fun _ _ h => h.elim)).trans o7 (fun _ _ h => h))) (fun k h => (hB7 k h).1) ⟨OwnV.nil _, World.ownsRow_nil _ _ _ _, (fun y h => by cases h), rfl, (unhide HO5).1.keep o7 (fun k hk h => by have h2 := hB7 k h; simp [Value.ownBlock] at hk; have := (unhide HO5).2; omega), World.ownsRow_nil _ _ _ _, ⟨by simp [An.z], by simp [An.z], by simp [An.z], by have := (unhide HV).2; show cols.length ≤ 1000; omega, by simp [An.z]⟩⟩ (fun k h => by
    rcases h with h | h | ⟨y, hy, _⟩ | h | h
    · cases h
    · cases h
    · cases hy
    · simp [Value.ownBlock] at h; have := (unhide HO5).2; omega
    · cases h))
  have HNZ := hide NZ
  have kz := NZ.lt
  have kE := E7.lt
  have e0 : w7.cell? ⟨ke, 0, none⟩ = some (.int .i64 z) := (unhide HE7).cell 0
  have e1 : w7.cell? ⟨ke, 1, none⟩ = some (.int .i64 0) := (unhide HE7).cell 1
  have e2 : w7.cell? ⟨ke, 2, none⟩ = some (.slice none 0 0) := (unhide HE7).cell 2
  have e3 : w7.cell? ⟨ke, 3, none⟩ = some (.slice none 0 0) := (unhide HE7).cell 3
  have e4 : w7.cell? ⟨ke, 4, none⟩ = some (.string nm) := (unhide HE7).cell 4
  have e5 : w7.cell? ⟨ke, 5, none⟩ = some (.slice (some ⟨zb, 0, none⟩) rn rn) := (unhide HE7).cell 5
  have e6 : w7.cell? ⟨ke, 6, none⟩ = some (.int .i64 pk) := (unhide HE7).cell 6
  have e7 : w7.cell? ⟨ke, 7, none⟩ = some (.int .i64 ix) := (unhide HE7).cell 7
  have e8 : w7.cell? ⟨ke, 8, none⟩ = some (.slice none 0 0) := (unhide HE7).cell 8
  have n0 : w7.cell? ⟨ka + 1, 0, none⟩ = some (.int .i64 0) := NZ.cell 0
  have f0 : w7.frozen? ⟨ka + 1, 0, none⟩ = false := NZ.free 0
  have n1 : w7.cell? ⟨ka + 1, 1, none⟩ = some (.int .i64 0) := NZ.cell 1
  have f1 : w7.frozen? ⟨ka + 1, 1, none⟩ = false := NZ.free 1
  have n2 : w7.cell? ⟨ka + 1, 2, none⟩ = some (.slice none 0 0) := NZ.cell 2
  have f2 : w7.frozen? ⟨ka + 1, 2, none⟩ = false := NZ.free 2
  have n3 : w7.cell? ⟨ka + 1, 3, none⟩ = some (.slice none 0 0) := NZ.cell 3
  have f3 : w7.frozen? ⟨ka + 1, 3, none⟩ = false := NZ.free 3
  have n4 : w7.cell? ⟨ka + 1, 4, none⟩ = some (.string ⟨#[]⟩) := NZ.cell 4
  have f4 : w7.frozen? ⟨ka + 1, 4, none⟩ = false := NZ.free 4
  have n5 : w7.cell? ⟨ka + 1, 5, none⟩ = some (.slice none 0 0) := NZ.cell 5
  have f5 : w7.frozen? ⟨ka + 1, 5, none⟩ = false := NZ.free 5
  have n6 : w7.cell? ⟨ka + 1, 6, none⟩ = some (.int .i64 0) := NZ.cell 6
  have f6 : w7.frozen? ⟨ka + 1, 6, none⟩ = false := NZ.free 6
  have n7 : w7.cell? ⟨ka + 1, 7, none⟩ = some (.int .i64 0) := NZ.cell 7
  have f7 : w7.frozen? ⟨ka + 1, 7, none⟩ = false := NZ.free 7
  have n8 : w7.cell? ⟨ka + 1, 8, none⟩ = some (.slice none 0 0) := NZ.cell 8
  have f8 : w7.frozen? ⟨ka + 1, 8, none⟩ = false := NZ.free 8
  have FF := hide (fun v0 v1 v2 v3 v4 v5 v6 v7 v8 => (unhide HP).fin (B := fun b => b = ka + 1) (unhide HO2) (only9 _ _ _ _ _ _ _ _ _ _ _ : Only _ _ ((((((((((w7.setCell ⟨ka + 1, 0, none⟩ v0).setCell ⟨ka + 1, 1, none⟩ v1).setCell ⟨ka + 1, 2, none⟩ v2).setCell ⟨ka + 1, 3, none⟩ v3).setCell ⟨ka + 1, 4, none⟩ v4).setCell ⟨ka + 1, 5, none⟩ v5).setCell ⟨ka + 1, 6, none⟩ v6).setCell ⟨ka + 1, 7, none⟩ v7).setCell ⟨ka + 1, 8, none⟩ v8))) (fun k h => by have h' : k = ka + 1 := h; have := unhide Hka; omega) (fun k h => by have := unhide HKl k h; have := unhide Hka; omega) (fun k h => by have := unhide HAl k h; have := unhide Hka; omega))
  have HG := hide (fun v0 v1 v2 v3 v4 v5 v6 v7 v8 => set9 (unhide HNZ) v0 v1 v2 v3 v4 v5 v6 v7 v8)
  clear C4 o7 NZ E7 hB7
  go_wp2_with fail
  exact bodyPost_ret (res1_an Tryz.results14 _ rfl (unhide HG _ _ _ _ _ _ _ _ _) rfl) rfl (unhide FF _ _ _ _ _ _ _ _ _)
/-- PlayReal. -/
theorem playReal_any (R : RX q w g x M K) (hrc : q.recs.length ≤ 300) (kd a bb cc : Int) (s t : ByteArray) (hT : t.size ≤ maxLen) : Calls Tryz.prog 14 #[.pointer (some ⟨g, 0, none⟩), opX kd a bb cc s t] w (PrP q w g x M K kd a bb cc s t) := by
  by_cases h : kd < 1 ∨ 18 ≤ kd
  · exact prX_any R hrc kd h a bb cc s t hT
  · have : kd = 1 ∨ kd = 2 ∨ kd = 3 ∨ kd = 4 ∨ kd = 5 ∨ kd = 6 ∨ kd = 7 ∨ kd = 8 ∨ kd = 9 ∨ kd = 10 ∨ kd = 11 ∨ kd = 12 ∨ kd = 13 ∨ kd = 14 ∨ kd = 15 ∨ kd = 16 ∨ kd = 17 := by omega
    rcases this with rfl | rfl | rfl | rfl | rfl | rfl | rfl | rfl | rfl | rfl | rfl | rfl | rfl | rfl | rfl | rfl | rfl
    · exact pr1_any R hrc a bb cc s t hT
    · exact pr2_any R hrc a bb cc s t hT
    · exact pr3_any R hrc a bb cc s t hT
    · exact pr4_any R hrc a bb cc s t hT
    · exact pr5_any R hrc a bb cc s t hT
    · exact pr6_any R hrc a bb cc s t hT
    · exact pr7_any R hrc a bb cc s t hT
    · exact pr8_any R hrc a bb cc s t hT
    · exact pr9_any R hrc a bb cc s t hT
    · exact pr10_any R hrc a bb cc s t hT
    · exact pr11_any R hrc a bb cc s t hT
    · exact pr12_any R hrc a bb cc s t hT
    · exact pr13_any R hrc a bb cc s t hT
    · exact pr14_any R hrc a bb cc s t hT
    · exact pr15_any R hrc a bb cc s t hT
    · exact pr16_any R hrc a bb cc s t hT
    · exact pr17_any R hrc a bb cc s t hT
end
end Go.Proofs.Qxb6500414aGreat
