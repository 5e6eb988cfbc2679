/-
  OWN WORK. THE TXN LAW: PlayReal: the calls that answer numbers (written by tools/gen_xl4.py).
-/
import Derived.Test.Qxb6500414aGreatXL3
namespace Go.Proofs.Qxb6500414aGreat
open Go.RowKit Go.PlainAid
set_option linter.unusedSimpArgs false
set_option linter.unusedVariables false

section
variable {q : Gnd} {w : World} {g x : Nat} {M : Mu} {K : Nat → Prop}
set_option maxRecDepth 100000 in
set_option maxHeartbeats 2000000 in
theorem pr1_any (R : RX q w g x M K) (hrc : q.recs.length ≤ 300) (a bb cc : Int) (s t : ByteArray) (hT : t.size ≤ maxLen) : Calls Tryz.prog 14 #[.pointer (some ⟨g, 0, none⟩), opX 1 a bb cc s t] w (PrP q w g x M K 1 a bb cc s t) := by
  have o1 : Only (fun _ => False) w ((w.alloc (.cells #[.int .i64 1, .int .i64 a, .int .i64 bb, .int .i64 cc, .string s, .string t] 44)).alloc (.cells #[.int .i64 0, .int .i64 0, .slice none 0 0, .slice none 0 0, .string ⟨#[]⟩, .slice none 0 0, .int .i64 0, .int .i64 0, .slice none 0 0] 54)) := ((Only.refl _ _).alloc _).alloc _
  have A1 : Has ((w.alloc (.cells #[.int .i64 1, .int .i64 a, .int .i64 bb, .int .i64 cc, .string s, .string t] 44)).alloc (.cells #[.int .i64 0, .int .i64 0, .slice none 0 0, .slice none 0 0, .string ⟨#[]⟩, .slice none 0 0, .int .i64 0, .int .i64 0, .slice none 0 0] 54)) w.heap.size #[.int .i64 1, .int .i64 a, .int .i64 bb, .int .i64 cc, .string s, .string t] 44 := (Has.new w _ _).alloc _
  have B1 : Has ((w.alloc (.cells #[.int .i64 1, .int .i64 a, .int .i64 bb, .int .i64 cc, .string s, .string t] 44)).alloc (.cells #[.int .i64 0, .int .i64 0, .slice none 0 0, .slice none 0 0, .string ⟨#[]⟩, .slice none 0 0, .int .i64 0, .int .i64 0, .slice none 0 0] 54)) (w.heap.size + 1) #[.int .i64 0, .int .i64 0, .slice none 0 0, .slice none 0 0, .string ⟨#[]⟩, .slice none 0 0, .int .i64 0, .int .i64 0, .slice none 0 0] 54 := Has.new' _ _ _ _ (by simp)
  have HR := hide (R.quiet o1)
  have HKl := hide (show ∀ k, K k → k < w.heap.size from fun k h => (R.kA k h).2.2)
  have HAl := hide (show ∀ k, q.A k ∨ k = x → k < w.heap.size from fun k h => h.elim (R.Alt.1 k) (fun e => by rw [e]; exact R.Alt.2))
  have HA := hide A1
  have HB := hide B1
  have HO := hide o1
  have HT := hide hT
  clear R o1 A1 B1 hT
  unfold opX
  go_enter Tryz.func14, Tryz.ntmps14
  go_upto_region 1 with fail
  generalize ((w.alloc (.cells #[.int .i64 1, .int .i64 a, .int .i64 bb, .int .i64 cc, .string s, .string t] 44)).alloc (.cells #[.int .i64 0, .int .i64 0, .slice none 0 0, .slice none 0 0, .string ⟨#[]⟩, .slice none 0 0, .int .i64 0, .int .i64 0, .slice none 0 0] 54)) = w1 at *
  have ka1 := (unhide HA).lt
  have kb1 := (unhide HB).lt
  generalize hka : w.heap.size = ka at *
  have Hka := hide hka
  clear hka
  have a0 : w1.cell? ⟨ka, 0, none⟩ = some (.int .i64 1) := (unhide HA).cell 0
  have a1 : w1.cell? ⟨ka, 1, none⟩ = some (.int .i64 a) := (unhide HA).cell 1
  have C1 := hide (q1_any (unhide HR) a bb cc s t)
  go_wp2_with fail
  refine (unhide C1).mono ?_
  rintro e w2 ⟨z, rfl, hQ⟩
  have NZ := (unhide HB).keep hQ.only (fun c => c.elim (fun h => by have := unhide HAl (ka + 1) (.inl h); omega) (fun h => by have := unhide HKl (ka + 1) h; omega))
  have HNZ := hide NZ
  have HP := hide hQ
  have kz := NZ.lt
  have n0 : w2.cell? ⟨ka + 1, 0, none⟩ = some (.int .i64 0) := NZ.cell 0
  have f0 : w2.frozen? ⟨ka + 1, 0, none⟩ = false := NZ.free 0
  have n1 : w2.cell? ⟨ka + 1, 1, none⟩ = some (.int .i64 0) := NZ.cell 1
  have f1 : w2.frozen? ⟨ka + 1, 1, none⟩ = false := NZ.free 1
  have n2 : w2.cell? ⟨ka + 1, 2, none⟩ = some (.slice none 0 0) := NZ.cell 2
  have f2 : w2.frozen? ⟨ka + 1, 2, none⟩ = false := NZ.free 2
  have n3 : w2.cell? ⟨ka + 1, 3, none⟩ = some (.slice none 0 0) := NZ.cell 3
  have f3 : w2.frozen? ⟨ka + 1, 3, none⟩ = false := NZ.free 3
  have n4 : w2.cell? ⟨ka + 1, 4, none⟩ = some (.string ⟨#[]⟩) := NZ.cell 4
  have f4 : w2.frozen? ⟨ka + 1, 4, none⟩ = false := NZ.free 4
  have n5 : w2.cell? ⟨ka + 1, 5, none⟩ = some (.slice none 0 0) := NZ.cell 5
  have f5 : w2.frozen? ⟨ka + 1, 5, none⟩ = false := NZ.free 5
  have n6 : w2.cell? ⟨ka + 1, 6, none⟩ = some (.int .i64 0) := NZ.cell 6
  have f6 : w2.frozen? ⟨ka + 1, 6, none⟩ = false := NZ.free 6
  have n7 : w2.cell? ⟨ka + 1, 7, none⟩ = some (.int .i64 0) := NZ.cell 7
  have f7 : w2.frozen? ⟨ka + 1, 7, none⟩ = false := NZ.free 7
  have n8 : w2.cell? ⟨ka + 1, 8, none⟩ = some (.slice none 0 0) := NZ.cell 8
  have f8 : w2.frozen? ⟨ka + 1, 8, none⟩ = false := NZ.free 8
  have FF := hide (fun v0 v1 v2 v3 v4 v5 v6 v7 v8 => (unhide HP).fin (B := fun b => b = ka + 1) (unhide HO) (only9 _ _ _ _ _ _ _ _ _ _ _ : Only _ _ ((((((((((w2.setCell ⟨ka + 1, 0, none⟩ v0).setCell ⟨ka + 1, 1, none⟩ v1).setCell ⟨ka + 1, 2, none⟩ v2).setCell ⟨ka + 1, 3, none⟩ v3).setCell ⟨ka + 1, 4, none⟩ v4).setCell ⟨ka + 1, 5, none⟩ v5).setCell ⟨ka + 1, 6, none⟩ v6).setCell ⟨ka + 1, 7, none⟩ v7).setCell ⟨ka + 1, 8, none⟩ v8))) (fun k h => by have h' : k = ka + 1 := h; have := unhide Hka; omega) (fun k h => by have := unhide HKl k h; have := unhide Hka; omega) (fun k h => by have := unhide HAl k h; have := unhide Hka; omega))
  have HG := hide (fun v0 v1 v2 v3 v4 v5 v6 v7 v8 => set9 (unhide HNZ) v0 v1 v2 v3 v4 v5 v6 v7 v8)
  clear C1 hQ NZ HP a0 a1
  go_wp2_with fail
  exact bodyPost_ret (res1_an Tryz.results14 _ rfl (unhide HG _ _ _ _ _ _ _ _ _) rfl) rfl (unhide FF _ _ _ _ _ _ _ _ _)
set_option maxRecDepth 100000 in
set_option maxHeartbeats 2000000 in
theorem pr2_any (R : RX q w g x M K) (hrc : q.recs.length ≤ 300) (a bb cc : Int) (s t : ByteArray) (hT : t.size ≤ maxLen) : Calls Tryz.prog 14 #[.pointer (some ⟨g, 0, none⟩), opX 2 a bb cc s t] w (PrP q w g x M K 2 a bb cc s t) := by
  have o1 : Only (fun _ => False) w ((w.alloc (.cells #[.int .i64 2, .int .i64 a, .int .i64 bb, .int .i64 cc, .string s, .string t] 44)).alloc (.cells #[.int .i64 0, .int .i64 0, .slice none 0 0, .slice none 0 0, .string ⟨#[]⟩, .slice none 0 0, .int .i64 0, .int .i64 0, .slice none 0 0] 54)) := ((Only.refl _ _).alloc _).alloc _
  have A1 : Has ((w.alloc (.cells #[.int .i64 2, .int .i64 a, .int .i64 bb, .int .i64 cc, .string s, .string t] 44)).alloc (.cells #[.int .i64 0, .int .i64 0, .slice none 0 0, .slice none 0 0, .string ⟨#[]⟩, .slice none 0 0, .int .i64 0, .int .i64 0, .slice none 0 0] 54)) w.heap.size #[.int .i64 2, .int .i64 a, .int .i64 bb, .int .i64 cc, .string s, .string t] 44 := (Has.new w _ _).alloc _
  have B1 : Has ((w.alloc (.cells #[.int .i64 2, .int .i64 a, .int .i64 bb, .int .i64 cc, .string s, .string t] 44)).alloc (.cells #[.int .i64 0, .int .i64 0, .slice none 0 0, .slice none 0 0, .string ⟨#[]⟩, .slice none 0 0, .int .i64 0, .int .i64 0, .slice none 0 0] 54)) (w.heap.size + 1) #[.int .i64 0, .int .i64 0, .slice none 0 0, .slice none 0 0, .string ⟨#[]⟩, .slice none 0 0, .int .i64 0, .int .i64 0, .slice none 0 0] 54 := Has.new' _ _ _ _ (by simp)
  have HR := hide (R.quiet o1)
  have HKl := hide (show ∀ k, K k → k < w.heap.size from fun k h => (R.kA k h).2.2)
  have HAl := hide (show ∀ k, q.A k ∨ k = x → k < w.heap.size from fun k h => h.elim (R.Alt.1 k) (fun e => by rw [e]; exact R.Alt.2))
  have HA := hide A1
  have HB := hide B1
  have HO := hide o1
  have HT := hide hT
  clear R o1 A1 B1 hT
  unfold opX
  go_enter Tryz.func14, Tryz.ntmps14
  go_upto_region 1 with fail
  generalize ((w.alloc (.cells #[.int .i64 2, .int .i64 a, .int .i64 bb, .int .i64 cc, .string s, .string t] 44)).alloc (.cells #[.int .i64 0, .int .i64 0, .slice none 0 0, .slice none 0 0, .string ⟨#[]⟩, .slice none 0 0, .int .i64 0, .int .i64 0, .slice none 0 0] 54)) = w1 at *
  have ka1 := (unhide HA).lt
  have kb1 := (unhide HB).lt
  generalize hka : w.heap.size = ka at *
  have Hka := hide hka
  clear hka
  have a0 : w1.cell? ⟨ka, 0, none⟩ = some (.int .i64 2) := (unhide HA).cell 0
  have a1 : w1.cell? ⟨ka, 1, none⟩ = some (.int .i64 a) := (unhide HA).cell 1
  have C1 := hide (q2_any (unhide HR) hrc a bb cc s t)
  go_wp2_with fail
  refine (unhide C1).mono ?_
  rintro e w2 ⟨z, rfl, hQ⟩
  have NZ := (unhide HB).keep hQ.only (fun c => c.elim (fun h => by have := unhide HAl (ka + 1) (.inl h); omega) (fun h => by have := unhide HKl (ka + 1) h; omega))
  have HNZ := hide NZ
  have HP := hide hQ
  have kz := NZ.lt
  have n0 : w2.cell? ⟨ka + 1, 0, none⟩ = some (.int .i64 0) := NZ.cell 0
  have f0 : w2.frozen? ⟨ka + 1, 0, none⟩ = false := NZ.free 0
  have n1 : w2.cell? ⟨ka + 1, 1, none⟩ = some (.int .i64 0) := NZ.cell 1
  have f1 : w2.frozen? ⟨ka + 1, 1, none⟩ = false := NZ.free 1
  have n2 : w2.cell? ⟨ka + 1, 2, none⟩ = some (.slice none 0 0) := NZ.cell 2
  have f2 : w2.frozen? ⟨ka + 1, 2, none⟩ = false := NZ.free 2
  have n3 : w2.cell? ⟨ka + 1, 3, none⟩ = some (.slice none 0 0) := NZ.cell 3
  have f3 : w2.frozen? ⟨ka + 1, 3, none⟩ = false := NZ.free 3
  have n4 : w2.cell? ⟨ka + 1, 4, none⟩ = some (.string ⟨#[]⟩) := NZ.cell 4
  have f4 : w2.frozen? ⟨ka + 1, 4, none⟩ = false := NZ.free 4
  have n5 : w2.cell? ⟨ka + 1, 5, none⟩ = some (.slice none 0 0) := NZ.cell 5
  have f5 : w2.frozen? ⟨ka + 1, 5, none⟩ = false := NZ.free 5
  have n6 : w2.cell? ⟨ka + 1, 6, none⟩ = some (.int .i64 0) := NZ.cell 6
  have f6 : w2.frozen? ⟨ka + 1, 6, none⟩ = false := NZ.free 6
  have n7 : w2.cell? ⟨ka + 1, 7, none⟩ = some (.int .i64 0) := NZ.cell 7
  have f7 : w2.frozen? ⟨ka + 1, 7, none⟩ = false := NZ.free 7
  have n8 : w2.cell? ⟨ka + 1, 8, none⟩ = some (.slice none 0 0) := NZ.cell 8
  have f8 : w2.frozen? ⟨ka + 1, 8, none⟩ = false := NZ.free 8
  have FF := hide (fun v0 v1 v2 v3 v4 v5 v6 v7 v8 => (unhide HP).fin (B := fun b => b = ka + 1) (unhide HO) (only9 _ _ _ _ _ _ _ _ _ _ _ : Only _ _ ((((((((((w2.setCell ⟨ka + 1, 0, none⟩ v0).setCell ⟨ka + 1, 1, none⟩ v1).setCell ⟨ka + 1, 2, none⟩ v2).setCell ⟨ka + 1, 3, none⟩ v3).setCell ⟨ka + 1, 4, none⟩ v4).setCell ⟨ka + 1, 5, none⟩ v5).setCell ⟨ka + 1, 6, none⟩ v6).setCell ⟨ka + 1, 7, none⟩ v7).setCell ⟨ka + 1, 8, none⟩ v8))) (fun k h => by have h' : k = ka + 1 := h; have := unhide Hka; omega) (fun k h => by have := unhide HKl k h; have := unhide Hka; omega) (fun k h => by have := unhide HAl k h; have := unhide Hka; omega))
  have HG := hide (fun v0 v1 v2 v3 v4 v5 v6 v7 v8 => set9 (unhide HNZ) v0 v1 v2 v3 v4 v5 v6 v7 v8)
  clear C1 hQ NZ HP a0 a1
  go_wp2_with fail
  exact bodyPost_ret (res1_an Tryz.results14 _ rfl (unhide HG _ _ _ _ _ _ _ _ _) rfl) rfl (unhide FF _ _ _ _ _ _ _ _ _)
set_option maxRecDepth 100000 in
set_option maxHeartbeats 2000000 in
theorem pr3_any (R : RX q w g x M K) (hrc : q.recs.length ≤ 300) (a bb cc : Int) (s t : ByteArray) (hT : t.size ≤ maxLen) : Calls Tryz.prog 14 #[.pointer (some ⟨g, 0, none⟩), opX 3 a bb cc s t] w (PrP q w g x M K 3 a bb cc s t) := by
  have o1 : Only (fun _ => False) w ((w.alloc (.cells #[.int .i64 3, .int .i64 a, .int .i64 bb, .int .i64 cc, .string s, .string t] 44)).alloc (.cells #[.int .i64 0, .int .i64 0, .slice none 0 0, .slice none 0 0, .string ⟨#[]⟩, .slice none 0 0, .int .i64 0, .int .i64 0, .slice none 0 0] 54)) := ((Only.refl _ _).alloc _).alloc _
  have A1 : Has ((w.alloc (.cells #[.int .i64 3, .int .i64 a, .int .i64 bb, .int .i64 cc, .string s, .string t] 44)).alloc (.cells #[.int .i64 0, .int .i64 0, .slice none 0 0, .slice none 0 0, .string ⟨#[]⟩, .slice none 0 0, .int .i64 0, .int .i64 0, .slice none 0 0] 54)) w.heap.size #[.int .i64 3, .int .i64 a, .int .i64 bb, .int .i64 cc, .string s, .string t] 44 := (Has.new w _ _).alloc _
  have B1 : Has ((w.alloc (.cells #[.int .i64 3, .int .i64 a, .int .i64 bb, .int .i64 cc, .string s, .string t] 44)).alloc (.cells #[.int .i64 0, .int .i64 0, .slice none 0 0, .slice none 0 0, .string ⟨#[]⟩, .slice none 0 0, .int .i64 0, .int .i64 0, .slice none 0 0] 54)) (w.heap.size + 1) #[.int .i64 0, .int .i64 0, .slice none 0 0, .slice none 0 0, .string ⟨#[]⟩, .slice none 0 0, .int .i64 0, .int .i64 0, .slice none 0 0] 54 := Has.new' _ _ _ _ (by simp)
  have HR := hide (R.quiet o1)
  have HKl := hide (show ∀ k, K k → k < w.heap.size from fun k h => (R.kA k h).2.2)
  have HAl := hide (show ∀ k, q.A k ∨ k = x → k < w.heap.size from fun k h => h.elim (R.Alt.1 k) (fun e => by rw [e]; exact R.Alt.2))
  have HA := hide A1
  have HB := hide B1
  have HO := hide o1
  have HT := hide hT
  clear R o1 A1 B1 hT
  unfold opX
  go_enter Tryz.func14, Tryz.ntmps14
  go_upto_region 1 with fail
  generalize ((w.alloc (.cells #[.int .i64 3, .int .i64 a, .int .i64 bb, .int .i64 cc, .string s, .string t] 44)).alloc (.cells #[.int .i64 0, .int .i64 0, .slice none 0 0, .slice none 0 0, .string ⟨#[]⟩, .slice none 0 0, .int .i64 0, .int .i64 0, .slice none 0 0] 54)) = w1 at *
  have ka1 := (unhide HA).lt
  have kb1 := (unhide HB).lt
  generalize hka : w.heap.size = ka at *
  have Hka := hide hka
  clear hka
  have a0 : w1.cell? ⟨ka, 0, none⟩ = some (.int .i64 3) := (unhide HA).cell 0
  have a1 : w1.cell? ⟨ka, 1, none⟩ = some (.int .i64 a) := (unhide HA).cell 1
  have C1 := hide (q3_any (unhide HR) a bb cc s t)
  go_wp2_with fail
  refine (unhide C1).mono ?_
  rintro e w2 ⟨z, rfl, hQ⟩
  have NZ := (unhide HB).keep hQ.only (fun c => c.elim (fun h => by have := unhide HAl (ka + 1) (.inl h); omega) (fun h => by have := unhide HKl (ka + 1) h; omega))
  have HNZ := hide NZ
  have HP := hide hQ
  have kz := NZ.lt
  have n0 : w2.cell? ⟨ka + 1, 0, none⟩ = some (.int .i64 0) := NZ.cell 0
  have f0 : w2.frozen? ⟨ka + 1, 0, none⟩ = false := NZ.free 0
  have n1 : w2.cell? ⟨ka + 1, 1, none⟩ = some (.int .i64 0) := NZ.cell 1
  have f1 : w2.frozen? ⟨ka + 1, 1, none⟩ = false := NZ.free 1
  have n2 : w2.cell? ⟨ka + 1, 2, none⟩ = some (.slice none 0 0) := NZ.cell 2
  have f2 : w2.frozen? ⟨ka + 1, 2, none⟩ = false := NZ.free 2
  have n3 : w2.cell? ⟨ka + 1, 3, none⟩ = some (.slice none 0 0) := NZ.cell 3
  have f3 : w2.frozen? ⟨ka + 1, 3, none⟩ = false := NZ.free 3
  have n4 : w2.cell? ⟨ka + 1, 4, none⟩ = some (.string ⟨#[]⟩) := NZ.cell 4
  have f4 : w2.frozen? ⟨ka + 1, 4, none⟩ = false := NZ.free 4
  have n5 : w2.cell? ⟨ka + 1, 5, none⟩ = some (.slice none 0 0) := NZ.cell 5
  have f5 : w2.frozen? ⟨ka + 1, 5, none⟩ = false := NZ.free 5
  have n6 : w2.cell? ⟨ka + 1, 6, none⟩ = some (.int .i64 0) := NZ.cell 6
  have f6 : w2.frozen? ⟨ka + 1, 6, none⟩ = false := NZ.free 6
  have n7 : w2.cell? ⟨ka + 1, 7, none⟩ = some (.int .i64 0) := NZ.cell 7
  have f7 : w2.frozen? ⟨ka + 1, 7, none⟩ = false := NZ.free 7
  have n8 : w2.cell? ⟨ka + 1, 8, none⟩ = some (.slice none 0 0) := NZ.cell 8
  have f8 : w2.frozen? ⟨ka + 1, 8, none⟩ = false := NZ.free 8
  have FF := hide (fun v0 v1 v2 v3 v4 v5 v6 v7 v8 => (unhide HP).fin (B := fun b => b = ka + 1) (unhide HO) (only9 _ _ _ _ _ _ _ _ _ _ _ : Only _ _ ((((((((((w2.setCell ⟨ka + 1, 0, none⟩ v0).setCell ⟨ka + 1, 1, none⟩ v1).setCell ⟨ka + 1, 2, none⟩ v2).setCell ⟨ka + 1, 3, none⟩ v3).setCell ⟨ka + 1, 4, none⟩ v4).setCell ⟨ka + 1, 5, none⟩ v5).setCell ⟨ka + 1, 6, none⟩ v6).setCell ⟨ka + 1, 7, none⟩ v7).setCell ⟨ka + 1, 8, none⟩ v8))) (fun k h => by have h' : k = ka + 1 := h; have := unhide Hka; omega) (fun k h => by have := unhide HKl k h; have := unhide Hka; omega) (fun k h => by have := unhide HAl k h; have := unhide Hka; omega))
  have HG := hide (fun v0 v1 v2 v3 v4 v5 v6 v7 v8 => set9 (unhide HNZ) v0 v1 v2 v3 v4 v5 v6 v7 v8)
  clear C1 hQ NZ HP a0 a1
  go_wp2_with fail
  exact bodyPost_ret (res1_an Tryz.results14 _ rfl (unhide HG _ _ _ _ _ _ _ _ _) rfl) rfl (unhide FF _ _ _ _ _ _ _ _ _)
set_option maxRecDepth 100000 in
set_option maxHeartbeats 2000000 in
theorem pr5_any (R : RX q w g x M K) (hrc : q.recs.length ≤ 300) (a bb cc : Int) (s t : ByteArray) (hT : t.size ≤ maxLen) : Calls Tryz.prog 14 #[.pointer (some ⟨g, 0, none⟩), opX 5 a bb cc s t] w (PrP q w g x M K 5 a bb cc s t) := by
  have o1 : Only (fun _ => False) w ((w.alloc (.cells #[.int .i64 5, .int .i64 a, .int .i64 bb, .int .i64 cc, .string s, .string t] 44)).alloc (.cells #[.int .i64 0, .int .i64 0, .slice none 0 0, .slice none 0 0, .string ⟨#[]⟩, .slice none 0 0, .int .i64 0, .int .i64 0, .slice none 0 0] 54)) := ((Only.refl _ _).alloc _).alloc _
  have A1 : Has ((w.alloc (.cells #[.int .i64 5, .int .i64 a, .int .i64 bb, .int .i64 cc, .string s, .string t] 44)).alloc (.cells #[.int .i64 0, .int .i64 0, .slice none 0 0, .slice none 0 0, .string ⟨#[]⟩, .slice none 0 0, .int .i64 0, .int .i64 0, .slice none 0 0] 54)) w.heap.size #[.int .i64 5, .int .i64 a, .int .i64 bb, .int .i64 cc, .string s, .string t] 44 := (Has.new w _ _).alloc _
  have B1 : Has ((w.alloc (.cells #[.int .i64 5, .int .i64 a, .int .i64 bb, .int .i64 cc, .string s, .string t] 44)).alloc (.cells #[.int .i64 0, .int .i64 0, .slice none 0 0, .slice none 0 0, .string ⟨#[]⟩, .slice none 0 0, .int .i64 0, .int .i64 0, .slice none 0 0] 54)) (w.heap.size + 1) #[.int .i64 0, .int .i64 0, .slice none 0 0, .slice none 0 0, .string ⟨#[]⟩, .slice none 0 0, .int .i64 0, .int .i64 0, .slice none 0 0] 54 := Has.new' _ _ _ _ (by simp)
  have HR := hide (R.quiet o1)
  have HKl := hide (show ∀ k, K k → k < w.heap.size from fun k h => (R.kA k h).2.2)
  have HAl := hide (show ∀ k, q.A k ∨ k = x → k < w.heap.size from fun k h => h.elim (R.Alt.1 k) (fun e => by rw [e]; exact R.Alt.2))
  have HA := hide A1
  have HB := hide B1
  have HO := hide o1
  have HT := hide hT
  clear R o1 A1 B1 hT
  unfold opX
  go_enter Tryz.func14, Tryz.ntmps14
  go_upto_region 1 with fail
  generalize ((w.alloc (.cells #[.int .i64 5, .int .i64 a, .int .i64 bb, .int .i64 cc, .string s, .string t] 44)).alloc (.cells #[.int .i64 0, .int .i64 0, .slice none 0 0, .slice none 0 0, .string ⟨#[]⟩, .slice none 0 0, .int .i64 0, .int .i64 0, .slice none 0 0] 54)) = w1 at *
  have ka1 := (unhide HA).lt
  have kb1 := (unhide HB).lt
  generalize hka : w.heap.size = ka at *
  have Hka := hide hka
  clear hka
  have a0 : w1.cell? ⟨ka, 0, none⟩ = some (.int .i64 5) := (unhide HA).cell 0
  have a1 : w1.cell? ⟨ka, 1, none⟩ = some (.int .i64 a) := (unhide HA).cell 1
  have a4 : w1.cell? ⟨ka, 4, none⟩ = some (.string s) := (unhide HA).cell 4
  have C1 := hide (q5_any (unhide HR) hrc a bb cc s t)
  go_wp2_with fail
  refine (unhide C1).mono ?_
  rintro e w2 ⟨z, rfl, hQ⟩
  have NZ := (unhide HB).keep hQ.only (fun c => c.elim (fun h => by have := unhide HAl (ka + 1) (.inl h); omega) (fun h => by have := unhide HKl (ka + 1) h; omega))
  have HNZ := hide NZ
  have HP := hide hQ
  have kz := NZ.lt
  have n0 : w2.cell? ⟨ka + 1, 0, none⟩ = some (.int .i64 0) := NZ.cell 0
  have f0 : w2.frozen? ⟨ka + 1, 0, none⟩ = false := NZ.free 0
  have n1 : w2.cell? ⟨ka + 1, 1, none⟩ = some (.int .i64 0) := NZ.cell 1
  have f1 : w2.frozen? ⟨ka + 1, 1, none⟩ = false := NZ.free 1
  have n2 : w2.cell? ⟨ka + 1, 2, none⟩ = some (.slice none 0 0) := NZ.cell 2
  have f2 : w2.frozen? ⟨ka + 1, 2, none⟩ = false := NZ.free 2
  have n3 : w2.cell? ⟨ka + 1, 3, none⟩ = some (.slice none 0 0) := NZ.cell 3
  have f3 : w2.frozen? ⟨ka + 1, 3, none⟩ = false := NZ.free 3
  have n4 : w2.cell? ⟨ka + 1, 4, none⟩ = some (.string ⟨#[]⟩) := NZ.cell 4
  have f4 : w2.frozen? ⟨ka + 1, 4, none⟩ = false := NZ.free 4
  have n5 : w2.cell? ⟨ka + 1, 5, none⟩ = some (.slice none 0 0) := NZ.cell 5
  have f5 : w2.frozen? ⟨ka + 1, 5, none⟩ = false := NZ.free 5
  have n6 : w2.cell? ⟨ka + 1, 6, none⟩ = some (.int .i64 0) := NZ.cell 6
  have f6 : w2.frozen? ⟨ka + 1, 6, none⟩ = false := NZ.free 6
  have n7 : w2.cell? ⟨ka + 1, 7, none⟩ = some (.int .i64 0) := NZ.cell 7
  have f7 : w2.frozen? ⟨ka + 1, 7, none⟩ = false := NZ.free 7
  have n8 : w2.cell? ⟨ka + 1, 8, none⟩ = some (.slice none 0 0) := NZ.cell 8
  have f8 : w2.frozen? ⟨ka + 1, 8, none⟩ = false := NZ.free 8
  have FF := hide (fun v0 v1 v2 v3 v4 v5 v6 v7 v8 => (unhide HP).fin (B := fun b => b = ka + 1) (unhide HO) (only9 _ _ _ _ _ _ _ _ _ _ _ : Only _ _ ((((((((((w2.setCell ⟨ka + 1, 0, none⟩ v0).setCell ⟨ka + 1, 1, none⟩ v1).setCell ⟨ka + 1, 2, none⟩ v2).setCell ⟨ka + 1, 3, none⟩ v3).setCell ⟨ka + 1, 4, none⟩ v4).setCell ⟨ka + 1, 5, none⟩ v5).setCell ⟨ka + 1, 6, none⟩ v6).setCell ⟨ka + 1, 7, none⟩ v7).setCell ⟨ka + 1, 8, none⟩ v8))) (fun k h => by have h' : k = ka + 1 := h; have := unhide Hka; omega) (fun k h => by have := unhide HKl k h; have := unhide Hka; omega) (fun k h => by have := unhide HAl k h; have := unhide Hka; omega))
  have HG := hide (fun v0 v1 v2 v3 v4 v5 v6 v7 v8 => set9 (unhide HNZ) v0 v1 v2 v3 v4 v5 v6 v7 v8)
  clear C1 hQ NZ HP a0 a1 a4
  go_wp2_with fail
  exact bodyPost_ret (res1_an Tryz.results14 _ rfl (unhide HG _ _ _ _ _ _ _ _ _) rfl) rfl (unhide FF _ _ _ _ _ _ _ _ _)
set_option maxRecDepth 100000 in
set_option maxHeartbeats 2000000 in
theorem pr6_any (R : RX q w g x M K) (hrc : q.recs.length ≤ 300) (a bb cc : Int) (s t : ByteArray) (hT : t.size ≤ maxLen) : Calls Tryz.prog 14 #[.pointer (some ⟨g, 0, none⟩), opX 6 a bb cc s t] w (PrP q w g x M K 6 a bb cc s t) := by
  have o1 : Only (fun _ => False) w ((w.alloc (.cells #[.int .i64 6, .int .i64 a, .int .i64 bb, .int .i64 cc, .string s, .string t] 44)).alloc (.cells #[.int .i64 0, .int .i64 0, .slice none 0 0, .slice none 0 0, .string ⟨#[]⟩, .slice none 0 0, .int .i64 0, .int .i64 0, .slice none 0 0] 54)) := ((Only.refl _ _).alloc _).alloc _
  have A1 : Has ((w.alloc (.cells #[.int .i64 6, .int .i64 a, .int .i64 bb, .int .i64 cc, .string s, .string t] 44)).alloc (.cells #[.int .i64 0, .int .i64 0, .slice none 0 0, .slice none 0 0, .string ⟨#[]⟩, .slice none 0 0, .int .i64 0, .int .i64 0, .slice none 0 0] 54)) w.heap.size #[.int .i64 6, .int .i64 a, .int .i64 bb, .int .i64 cc, .string s, .string t] 44 := (Has.new w _ _).alloc _
  have B1 : Has ((w.alloc (.cells #[.int .i64 6, .int .i64 a, .int .i64 bb, .int .i64 cc, .string s, .string t] 44)).alloc (.cells #[.int .i64 0, .int .i64 0, .slice none 0 0, .slice none 0 0, .string ⟨#[]⟩, .slice none 0 0, .int .i64 0, .int .i64 0, .slice none 0 0] 54)) (w.heap.size + 1) #[.int .i64 0, .int .i64 0, .slice none 0 0, .slice none 0 0, .string ⟨#[]⟩, .slice none 0 0, .int .i64 0, .int .i64 0, .slice none 0 0] 54 := Has.new' _ _ _ _ (by simp)
  have HR := hide (R.quiet o1)
  have HKl := hide (show ∀ k, K k → k < w.heap.size from fun k h => (R.kA k h).2.2)
  have HAl := hide (show ∀ k, q.A k ∨ k = x → k < w.heap.size from fun k h => h.elim (R.Alt.1 k) (fun e => by rw [e]; exact R.Alt.2))
  have HA := hide A1
  have HB := hide B1
  have HO := hide o1
  have HT := hide hT
  clear R o1 A1 B1 hT
  unfold opX
  go_enter Tryz.func14, Tryz.ntmps14
  go_upto_region 1 with fail
  generalize ((w.alloc (.cells #[.int .i64 6, .int .i64 a, .int .i64 bb, .int .i64 cc, .string s, .string t] 44)).alloc (.cells #[.int .i64 0, .int .i64 0, .slice none 0 0, .slice none 0 0, .string ⟨#[]⟩, .slice none 0 0, .int .i64 0, .int .i64 0, .slice none 0 0] 54)) = w1 at *
  have ka1 := (unhide HA).lt
  have kb1 := (unhide HB).lt
  generalize hka : w.heap.size = ka at *
  have Hka := hide hka
  clear hka
  have a0 : w1.cell? ⟨ka, 0, none⟩ = some (.int .i64 6) := (unhide HA).cell 0
  have a1 : w1.cell? ⟨ka, 1, none⟩ = some (.int .i64 a) := (unhide HA).cell 1
  have a2 : w1.cell? ⟨ka, 2, none⟩ = some (.int .i64 bb) := (unhide HA).cell 2
  have a4 : w1.cell? ⟨ka, 4, none⟩ = some (.string s) := (unhide HA).cell 4
  have C1 := hide (q6_any (unhide HR) hrc a bb cc s t)
  go_wp2_with fail
  refine (unhide C1).mono ?_
  rintro e w2 ⟨z, rfl, hQ⟩
  have NZ := (unhide HB).keep hQ.only (fun c => c.elim (fun h => by have := unhide HAl (ka + 1) (.inl h); omega) (fun h => by have := unhide HKl (ka + 1) h; omega))
  have HNZ := hide NZ
  have HP := hide hQ
  have kz := NZ.lt
  have n0 : w2.cell? ⟨ka + 1, 0, none⟩ = some (.int .i64 0) := NZ.cell 0
  have f0 : w2.frozen? ⟨ka + 1, 0, none⟩ = false := NZ.free 0
  have n1 : w2.cell? ⟨ka + 1, 1, none⟩ = some (.int .i64 0) := NZ.cell 1
  have f1 : w2.frozen? ⟨ka + 1, 1, none⟩ = false := NZ.free 1
  have n2 : w2.cell? ⟨ka + 1, 2, none⟩ = some (.slice none 0 0) := NZ.cell 2
  have f2 : w2.frozen? ⟨ka + 1, 2, none⟩ = false := NZ.free 2
  have n3 : w2.cell? ⟨ka + 1, 3, none⟩ = some (.slice none 0 0) := NZ.cell 3
  have f3 : w2.frozen? ⟨ka + 1, 3, none⟩ = false := NZ.free 3
  have n4 : w2.cell? ⟨ka + 1, 4, none⟩ = some (.string ⟨#[]⟩) := NZ.cell 4
  have f4 : w2.frozen? ⟨ka + 1, 4, none⟩ = false := NZ.free 4
  have n5 : w2.cell? ⟨ka + 1, 5, none⟩ = some (.slice none 0 0) := NZ.cell 5
  have f5 : w2.frozen? ⟨ka + 1, 5, none⟩ = false := NZ.free 5
  have n6 : w2.cell? ⟨ka + 1, 6, none⟩ = some (.int .i64 0) := NZ.cell 6
  have f6 : w2.frozen? ⟨ka + 1, 6, none⟩ = false := NZ.free 6
  have n7 : w2.cell? ⟨ka + 1, 7, none⟩ = some (.int .i64 0) := NZ.cell 7
  have f7 : w2.frozen? ⟨ka + 1, 7, none⟩ = false := NZ.free 7
  have n8 : w2.cell? ⟨ka + 1, 8, none⟩ = some (.slice none 0 0) := NZ.cell 8
  have f8 : w2.frozen? ⟨ka + 1, 8, none⟩ = false := NZ.free 8
  have FF := hide (fun v0 v1 v2 v3 v4 v5 v6 v7 v8 => (unhide HP).fin (B := fun b => b = ka + 1) (unhide HO) (only9 _ _ _ _ _ _ _ _ _ _ _ : Only _ _ ((((((((((w2.setCell ⟨ka + 1, 0, none⟩ v0).setCell ⟨ka + 1, 1, none⟩ v1).setCell ⟨ka + 1, 2, none⟩ v2).setCell ⟨ka + 1, 3, none⟩ v3).setCell ⟨ka + 1, 4, none⟩ v4).setCell ⟨ka + 1, 5, none⟩ v5).setCell ⟨ka + 1, 6, none⟩ v6).setCell ⟨ka + 1, 7, none⟩ v7).setCell ⟨ka + 1, 8, none⟩ v8))) (fun k h => by have h' : k = ka + 1 := h; have := unhide Hka; omega) (fun k h => by have := unhide HKl k h; have := unhide Hka; omega) (fun k h => by have := unhide HAl k h; have := unhide Hka; omega))
  have HG := hide (fun v0 v1 v2 v3 v4 v5 v6 v7 v8 => set9 (unhide HNZ) v0 v1 v2 v3 v4 v5 v6 v7 v8)
  clear C1 hQ NZ HP a0 a1 a2 a4
  go_wp2_with fail
  exact bodyPost_ret (res1_an Tryz.results14 _ rfl (unhide HG _ _ _ _ _ _ _ _ _) rfl) rfl (unhide FF _ _ _ _ _ _ _ _ _)
set_option maxRecDepth 100000 in
set_option maxHeartbeats 2000000 in
theorem pr13_any (R : RX q w g x M K) (hrc : q.recs.length ≤ 300) (a bb cc : Int) (s t : ByteArray) (hT : t.size ≤ maxLen) : Calls Tryz.prog 14 #[.pointer (some ⟨g, 0, none⟩), opX 13 a bb cc s t] w (PrP q w g x M K 13 a bb cc s t) := by
  have o1 : Only (fun _ => False) w ((w.alloc (.cells #[.int .i64 13, .int .i64 a, .int .i64 bb, .int .i64 cc, .string s, .string t] 44)).alloc (.cells #[.int .i64 0, .int .i64 0, .slice none 0 0, .slice none 0 0, .string ⟨#[]⟩, .slice none 0 0, .int .i64 0, .int .i64 0, .slice none 0 0] 54)) := ((Only.refl _ _).alloc _).alloc _
  have A1 : Has ((w.alloc (.cells #[.int .i64 13, .int .i64 a, .int .i64 bb, .int .i64 cc, .string s, .string t] 44)).alloc (.cells #[.int .i64 0, .int .i64 0, .slice none 0 0, .slice none 0 0, .string ⟨#[]⟩, .slice none 0 0, .int .i64 0, .int .i64 0, .slice none 0 0] 54)) w.heap.size #[.int .i64 13, .int .i64 a, .int .i64 bb, .int .i64 cc, .string s, .string t] 44 := (Has.new w _ _).alloc _
  have B1 : Has ((w.alloc (.cells #[.int .i64 13, .int .i64 a, .int .i64 bb, .int .i64 cc, .string s, .string t] 44)).alloc (.cells #[.int .i64 0, .int .i64 0, .slice none 0 0, .slice none 0 0, .string ⟨#[]⟩, .slice none 0 0, .int .i64 0, .int .i64 0, .slice none 0 0] 54)) (w.heap.size + 1) #[.int .i64 0, .int .i64 0, .slice none 0 0, .slice none 0 0, .string ⟨#[]⟩, .slice none 0 0, .int .i64 0, .int .i64 0, .slice none 0 0] 54 := Has.new' _ _ _ _ (by simp)
  have HR := hide (R.quiet o1)
  have HKl := hide (show ∀ k, K k → k < w.heap.size from fun k h => (R.kA k h).2.2)
  have HAl := hide (show ∀ k, q.A k ∨ k = x → k < w.heap.size from fun k h => h.elim (R.Alt.1 k) (fun e => by rw [e]; exact R.Alt.2))
  have HA := hide A1
  have HB := hide B1
  have HO := hide o1
  have HT := hide hT
  clear R o1 A1 B1 hT
  unfold opX
  go_enter Tryz.func14, Tryz.ntmps14
  go_upto_region 1 with fail
  generalize ((w.alloc (.cells #[.int .i64 13, .int .i64 a, .int .i64 bb, .int .i64 cc, .string s, .string t] 44)).alloc (.cells #[.int .i64 0, .int .i64 0, .slice none 0 0, .slice none 0 0, .string ⟨#[]⟩, .slice none 0 0, .int .i64 0, .int .i64 0, .slice none 0 0] 54)) = w1 at *
  have ka1 := (unhide HA).lt
  have kb1 := (unhide HB).lt
  generalize hka : w.heap.size = ka at *
  have Hka := hide hka
  clear hka
  have a0 : w1.cell? ⟨ka, 0, none⟩ = some (.int .i64 13) := (unhide HA).cell 0
  have a1 : w1.cell? ⟨ka, 1, none⟩ = some (.int .i64 a) := (unhide HA).cell 1
  have a4 : w1.cell? ⟨ka, 4, none⟩ = some (.string s) := (unhide HA).cell 4
  have C1 := rlockOf_any (unhide HR) a s
  have HQ := hide (show PrQ q w1 g x M K 13 a bb cc s t (anN (if gdS a then M.lk a.toNat s else 0)) w1 from PrP.p (unhide HR).rp .lck (anNq _) rfl)
  obtain ⟨z, hz⟩ : ∃ z, (if gdS a then M.lk a.toNat s else 0) = z := ⟨_, rfl⟩
  rw [hz] at C1 HQ
  have C1 := hide C1
  have HNZ := HB
  have n0 : w1.cell? ⟨ka + 1, 0, none⟩ = some (.int .i64 0) := (unhide HB).cell 0
  have f0 : w1.frozen? ⟨ka + 1, 0, none⟩ = false := (unhide HB).free 0
  have n1 : w1.cell? ⟨ka + 1, 1, none⟩ = some (.int .i64 0) := (unhide HB).cell 1
  have f1 : w1.frozen? ⟨ka + 1, 1, none⟩ = false := (unhide HB).free 1
  have n2 : w1.cell? ⟨ka + 1, 2, none⟩ = some (.slice none 0 0) := (unhide HB).cell 2
  have f2 : w1.frozen? ⟨ka + 1, 2, none⟩ = false := (unhide HB).free 2
  have n3 : w1.cell? ⟨ka + 1, 3, none⟩ = some (.slice none 0 0) := (unhide HB).cell 3
  have f3 : w1.frozen? ⟨ka + 1, 3, none⟩ = false := (unhide HB).free 3
  have n4 : w1.cell? ⟨ka + 1, 4, none⟩ = some (.string ⟨#[]⟩) := (unhide HB).cell 4
  have f4 : w1.frozen? ⟨ka + 1, 4, none⟩ = false := (unhide HB).free 4
  have n5 : w1.cell? ⟨ka + 1, 5, none⟩ = some (.slice none 0 0) := (unhide HB).cell 5
  have f5 : w1.frozen? ⟨ka + 1, 5, none⟩ = false := (unhide HB).free 5
  have n6 : w1.cell? ⟨ka + 1, 6, none⟩ = some (.int .i64 0) := (unhide HB).cell 6
  have f6 : w1.frozen? ⟨ka + 1, 6, none⟩ = false := (unhide HB).free 6
  have n7 : w1.cell? ⟨ka + 1, 7, none⟩ = some (.int .i64 0) := (unhide HB).cell 7
  have f7 : w1.frozen? ⟨ka + 1, 7, none⟩ = false := (unhide HB).free 7
  have n8 : w1.cell? ⟨ka + 1, 8, none⟩ = some (.slice none 0 0) := (unhide HB).cell 8
  have f8 : w1.frozen? ⟨ka + 1, 8, none⟩ = false := (unhide HB).free 8
  have FF := hide (fun v0 v1 v2 v3 v4 v5 v6 v7 v8 => (unhide HQ).fin (B := fun b => b = ka + 1) (unhide HO) (only9 _ _ _ _ _ _ _ _ _ _ _ : Only _ _ ((((((((((w1.setCell ⟨ka + 1, 0, none⟩ v0).setCell ⟨ka + 1, 1, none⟩ v1).setCell ⟨ka + 1, 2, none⟩ v2).setCell ⟨ka + 1, 3, none⟩ v3).setCell ⟨ka + 1, 4, none⟩ v4).setCell ⟨ka + 1, 5, none⟩ v5).setCell ⟨ka + 1, 6, none⟩ v6).setCell ⟨ka + 1, 7, none⟩ v7).setCell ⟨ka + 1, 8, none⟩ v8))) (fun k h => by have h' : k = ka + 1 := h; have := unhide Hka; omega) (fun k h => by have := unhide HKl k h; have := unhide Hka; omega) (fun k h => by have := unhide HAl k h; have := unhide Hka; omega))
  have HG := hide (fun v0 v1 v2 v3 v4 v5 v6 v7 v8 => set9 (unhide HNZ) v0 v1 v2 v3 v4 v5 v6 v7 v8)
  clear hz
  go_wp2_with fail
  refine (unhide C1).mono ?_
  rintro e w2 ⟨rfl, rfl⟩
  clear C1 a0 a1 a4
  go_wp2_with fail
  exact bodyPost_ret (res1_an Tryz.results14 _ rfl (unhide HG _ _ _ _ _ _ _ _ _) rfl) rfl (unhide FF _ _ _ _ _ _ _ _ _)
set_option maxRecDepth 100000 in
set_option maxHeartbeats 2000000 in
theorem pr12_any (R : RX q w g x M K) (hrc : q.recs.length ≤ 300) (a bb cc : Int) (s t : ByteArray) (hT : t.size ≤ maxLen) : Calls Tryz.prog 14 #[.pointer (some ⟨g, 0, none⟩), opX 12 a bb cc s t] w (PrP q w g x M K 12 a bb cc s t) := by
  have o1 : Only (fun _ => False) w ((w.alloc (.cells #[.int .i64 12, .int .i64 a, .int .i64 bb, .int .i64 cc, .string s, .string t] 44)).alloc (.cells #[.int .i64 0, .int .i64 0, .slice none 0 0, .slice none 0 0, .string ⟨#[]⟩, .slice none 0 0, .int .i64 0, .int .i64 0, .slice none 0 0] 54)) := ((Only.refl _ _).alloc _).alloc _
  have A1 : Has ((w.alloc (.cells #[.int .i64 12, .int .i64 a, .int .i64 bb, .int .i64 cc, .string s, .string t] 44)).alloc (.cells #[.int .i64 0, .int .i64 0, .slice none 0 0, .slice none 0 0, .string ⟨#[]⟩, .slice none 0 0, .int .i64 0, .int .i64 0, .slice none 0 0] 54)) w.heap.size #[.int .i64 12, .int .i64 a, .int .i64 bb, .int .i64 cc, .string s, .string t] 44 := (Has.new w _ _).alloc _
  have B1 : Has ((w.alloc (.cells #[.int .i64 12, .int .i64 a, .int .i64 bb, .int .i64 cc, .string s, .string t] 44)).alloc (.cells #[.int .i64 0, .int .i64 0, .slice none 0 0, .slice none 0 0, .string ⟨#[]⟩, .slice none 0 0, .int .i64 0, .int .i64 0, .slice none 0 0] 54)) (w.heap.size + 1) #[.int .i64 0, .int .i64 0, .slice none 0 0, .slice none 0 0, .string ⟨#[]⟩, .slice none 0 0, .int .i64 0, .int .i64 0, .slice none 0 0] 54 := Has.new' _ _ _ _ (by simp)
  have HR := hide (R.quiet o1)
  have HKl := hide (show ∀ k, K k → k < w.heap.size from fun k h => (R.kA k h).2.2)
  have HAl := hide (show ∀ k, q.A k ∨ k = x → k < w.heap.size from fun k h => h.elim (R.Alt.1 k) (fun e => by rw [e]; exact R.Alt.2))
  have HA := hide A1
  have HB := hide B1
  have HO := hide o1
  have HT := hide hT
  clear R o1 A1 B1 hT
  unfold opX
  go_enter Tryz.func14, Tryz.ntmps14
  go_upto_region 1 with fail
  generalize ((w.alloc (.cells #[.int .i64 12, .int .i64 a, .int .i64 bb, .int .i64 cc, .string s, .string t] 44)).alloc (.cells #[.int .i64 0, .int .i64 0, .slice none 0 0, .slice none 0 0, .string ⟨#[]⟩, .slice none 0 0, .int .i64 0, .int .i64 0, .slice none 0 0] 54)) = w1 at *
  have ka1 := (unhide HA).lt
  have kb1 := (unhide HB).lt
  generalize hka : w.heap.size = ka at *
  have Hka := hide hka
  clear hka
  have a0 : w1.cell? ⟨ka, 0, none⟩ = some (.int .i64 12) := (unhide HA).cell 0
  have a1 : w1.cell? ⟨ka, 1, none⟩ = some (.int .i64 a) := (unhide HA).cell 1
  have C1 := ractive_any (unhide HR) a
  have HQ := hide (show PrQ q w1 g x M K 12 a bb cc s t (anN (if (decide (gdS a) && M.act a.toNat) = true then 1 else 0)) w1 from PrP.p (unhide HR).rp .act (anNq _) rfl)
  obtain ⟨b, hb⟩ : ∃ b : Bool, (decide (gdS a) && M.act a.toNat) = b := ⟨_, rfl⟩
  rw [hb] at C1 HQ
  have C2 := xbit_any b w1
  obtain ⟨z, hz⟩ : ∃ z : Int, (if b = true then 1 else 0) = z := ⟨_, rfl⟩
  rw [hz] at C2 HQ
  have C1 := hide C1
  have C2 := hide C2
  have HNZ := HB
  have n0 : w1.cell? ⟨ka + 1, 0, none⟩ = some (.int .i64 0) := (unhide HB).cell 0
  have f0 : w1.frozen? ⟨ka + 1, 0, none⟩ = false := (unhide HB).free 0
  have n1 : w1.cell? ⟨ka + 1, 1, none⟩ = some (.int .i64 0) := (unhide HB).cell 1
  have f1 : w1.frozen? ⟨ka + 1, 1, none⟩ = false := (unhide HB).free 1
  have n2 : w1.cell? ⟨ka + 1, 2, none⟩ = some (.slice none 0 0) := (unhide HB).cell 2
  have f2 : w1.frozen? ⟨ka + 1, 2, none⟩ = false := (unhide HB).free 2
  have n3 : w1.cell? ⟨ka + 1, 3, none⟩ = some (.slice none 0 0) := (unhide HB).cell 3
  have f3 : w1.frozen? ⟨ka + 1, 3, none⟩ = false := (unhide HB).free 3
  have n4 : w1.cell? ⟨ka + 1, 4, none⟩ = some (.string ⟨#[]⟩) := (unhide HB).cell 4
  have f4 : w1.frozen? ⟨ka + 1, 4, none⟩ = false := (unhide HB).free 4
  have n5 : w1.cell? ⟨ka + 1, 5, none⟩ = some (.slice none 0 0) := (unhide HB).cell 5
  have f5 : w1.frozen? ⟨ka + 1, 5, none⟩ = false := (unhide HB).free 5
  have n6 : w1.cell? ⟨ka + 1, 6, none⟩ = some (.int .i64 0) := (unhide HB).cell 6
  have f6 : w1.frozen? ⟨ka + 1, 6, none⟩ = false := (unhide HB).free 6
  have n7 : w1.cell? ⟨ka + 1, 7, none⟩ = some (.int .i64 0) := (unhide HB).cell 7
  have f7 : w1.frozen? ⟨ka + 1, 7, none⟩ = false := (unhide HB).free 7
  have n8 : w1.cell? ⟨ka + 1, 8, none⟩ = some (.slice none 0 0) := (unhide HB).cell 8
  have f8 : w1.frozen? ⟨ka + 1, 8, none⟩ = false := (unhide HB).free 8
  have FF := hide (fun v0 v1 v2 v3 v4 v5 v6 v7 v8 => (unhide HQ).fin (B := fun b => b = ka + 1) (unhide HO) (only9 _ _ _ _ _ _ _ _ _ _ _ : Only _ _ ((((((((((w1.setCell ⟨ka + 1, 0, none⟩ v0).setCell ⟨ka + 1, 1, none⟩ v1).setCell ⟨ka + 1, 2, none⟩ v2).setCell ⟨ka + 1, 3, none⟩ v3).setCell ⟨ka + 1, 4, none⟩ v4).setCell ⟨ka + 1, 5, none⟩ v5).setCell ⟨ka + 1, 6, none⟩ v6).setCell ⟨ka + 1, 7, none⟩ v7).setCell ⟨ka + 1, 8, none⟩ v8))) (fun k h => by have h' : k = ka + 1 := h; have := unhide Hka; omega) (fun k h => by have := unhide HKl k h; have := unhide Hka; omega) (fun k h => by have := unhide HAl k h; have := unhide Hka; omega))
  have HG := hide (fun v0 v1 v2 v3 v4 v5 v6 v7 v8 => set9 (unhide HNZ) v0 v1 v2 v3 v4 v5 v6 v7 v8)
  clear hz hb
  go_wp2_with fail
  refine (unhide C1).mono ?_
  rintro e w2 ⟨rfl, rfl⟩
  clear C1 a0 a1
  go_wp2_with fail
  refine (unhide C2).mono ?_
  rintro e w2 ⟨rfl, rfl⟩
  clear C2
  go_wp2_with fail
  exact bodyPost_ret (res1_an Tryz.results14 _ rfl (unhide HG _ _ _ _ _ _ _ _ _) rfl) rfl (unhide FF _ _ _ _ _ _ _ _ _)
set_option maxRecDepth 100000 in
set_option maxHeartbeats 2000000 in
theorem pr17_any (R : RX q w g x M K) (hrc : q.recs.length ≤ 300) (a bb cc : Int) (s t : ByteArray) (hT : t.size ≤ maxLen) : Calls Tryz.prog 14 #[.pointer (some ⟨g, 0, none⟩), opX 17 a bb cc s t] w (PrP q w g x M K 17 a bb cc s t) := by
  have o1 : Only (fun _ => False) w ((w.alloc (.cells #[.int .i64 17, .int .i64 a, .int .i64 bb, .int .i64 cc, .string s, .string t] 44)).alloc (.cells #[.int .i64 0, .int .i64 0, .slice none 0 0, .slice none 0 0, .string ⟨#[]⟩, .slice none 0 0, .int .i64 0, .int .i64 0, .slice none 0 0] 54)) := ((Only.refl _ _).alloc _).alloc _
  have A1 : Has ((w.alloc (.cells #[.int .i64 17, .int .i64 a, .int .i64 bb, .int .i64 cc, .string s, .string t] 44)).alloc (.cells #[.int .i64 0, .int .i64 0, .slice none 0 0, .slice none 0 0, .string ⟨#[]⟩, .slice none 0 0, .int .i64 0, .int .i64 0, .slice none 0 0] 54)) w.heap.size #[.int .i64 17, .int .i64 a, .int .i64 bb, .int .i64 cc, .string s, .string t] 44 := (Has.new w _ _).alloc _
  have B1 : Has ((w.alloc (.cells #[.int .i64 17, .int .i64 a, .int .i64 bb, .int .i64 cc, .string s, .string t] 44)).alloc (.cells #[.int .i64 0, .int .i64 0, .slice none 0 0, .slice none 0 0, .string ⟨#[]⟩, .slice none 0 0, .int .i64 0, .int .i64 0, .slice none 0 0] 54)) (w.heap.size + 1) #[.int .i64 0, .int .i64 0, .slice none 0 0, .slice none 0 0, .string ⟨#[]⟩, .slice none 0 0, .int .i64 0, .int .i64 0, .slice none 0 0] 54 := Has.new' _ _ _ _ (by simp)
  have HR := hide (R.quiet o1)
  have HKl := hide (show ∀ k, K k → k < w.heap.size from fun k h => (R.kA k h).2.2)
  have HAl := hide (show ∀ k, q.A k ∨ k = x → k < w.heap.size from fun k h => h.elim (R.Alt.1 k) (fun e => by rw [e]; exact R.Alt.2))
  have HA := hide A1
  have HB := hide B1
  have HO := hide o1
  have HT := hide hT
  clear R o1 A1 B1 hT
  unfold opX
  go_enter Tryz.func14, Tryz.ntmps14
  go_upto_region 1 with fail
  generalize ((w.alloc (.cells #[.int .i64 17, .int .i64 a, .int .i64 bb, .int .i64 cc, .string s, .string t] 44)).alloc (.cells #[.int .i64 0, .int .i64 0, .slice none 0 0, .slice none 0 0, .string ⟨#[]⟩, .slice none 0 0, .int .i64 0, .int .i64 0, .slice none 0 0] 54)) = w1 at *
  have ka1 := (unhide HA).lt
  have kb1 := (unhide HB).lt
  generalize hka : w.heap.size = ka at *
  have Hka := hide hka
  clear hka
  have a0 : w1.cell? ⟨ka, 0, none⟩ = some (.int .i64 17) := (unhide HA).cell 0
  obtain ⟨X, S, T, hx, la, cf, ok, sh, hk⟩ := (unhide HR).ex
  have C1 := xcheck_any hx la ok
  have HX := hide (fun w2 (h : XR q w2 g x X false S) (o : Only q.S w1 w2) => (unhide HR).look h la cf ok sh hk o)
  have C1 := hide C1
  clear hx la cf ok sh hk
  go_wp2_with fail
  refine (unhide C1).mono ?_
  rintro e w2 ⟨rfl, hx2, o2⟩
  have HQ := hide (show PrQ q w1 g x M K 17 a bb cc s t (anN 1) w2 from PrP.p ((unhide HX w2 hx2 o2).look_p o2) .chk (anNq _) rfl)
  have NZ := (unhide HB).keep (unhide HQ).only (fun c => c.elim (fun h => by have := unhide HAl (ka + 1) (.inl h); omega) (fun h => by have := unhide HKl (ka + 1) h; omega))
  have HNZ := hide NZ
  have kz := NZ.lt
  have C2 := hide (xbit_any true w2)
  have n0 : w2.cell? ⟨ka + 1, 0, none⟩ = some (.int .i64 0) := NZ.cell 0
  have f0 : w2.frozen? ⟨ka + 1, 0, none⟩ = false := NZ.free 0
  have n1 : w2.cell? ⟨ka + 1, 1, none⟩ = some (.int .i64 0) := NZ.cell 1
  have f1 : w2.frozen? ⟨ka + 1, 1, none⟩ = false := NZ.free 1
  have n2 : w2.cell? ⟨ka + 1, 2, none⟩ = some (.slice none 0 0) := NZ.cell 2
  have f2 : w2.frozen? ⟨ka + 1, 2, none⟩ = false := NZ.free 2
  have n3 : w2.cell? ⟨ka + 1, 3, none⟩ = some (.slice none 0 0) := NZ.cell 3
  have f3 : w2.frozen? ⟨ka + 1, 3, none⟩ = false := NZ.free 3
  have n4 : w2.cell? ⟨ka + 1, 4, none⟩ = some (.string ⟨#[]⟩) := NZ.cell 4
  have f4 : w2.frozen? ⟨ka + 1, 4, none⟩ = false := NZ.free 4
  have n5 : w2.cell? ⟨ka + 1, 5, none⟩ = some (.slice none 0 0) := NZ.cell 5
  have f5 : w2.frozen? ⟨ka + 1, 5, none⟩ = false := NZ.free 5
  have n6 : w2.cell? ⟨ka + 1, 6, none⟩ = some (.int .i64 0) := NZ.cell 6
  have f6 : w2.frozen? ⟨ka + 1, 6, none⟩ = false := NZ.free 6
  have n7 : w2.cell? ⟨ka + 1, 7, none⟩ = some (.int .i64 0) := NZ.cell 7
  have f7 : w2.frozen? ⟨ka + 1, 7, none⟩ = false := NZ.free 7
  have n8 : w2.cell? ⟨ka + 1, 8, none⟩ = some (.slice none 0 0) := NZ.cell 8
  have f8 : w2.frozen? ⟨ka + 1, 8, none⟩ = false := NZ.free 8
  have FF := hide (fun v0 v1 v2 v3 v4 v5 v6 v7 v8 => (unhide HQ).fin (B := fun b => b = ka + 1) (unhide HO) (only9 _ _ _ _ _ _ _ _ _ _ _ : Only _ _ ((((((((((w2.setCell ⟨ka + 1, 0, none⟩ v0).setCell ⟨ka + 1, 1, none⟩ v1).setCell ⟨ka + 1, 2, none⟩ v2).setCell ⟨ka + 1, 3, none⟩ v3).setCell ⟨ka + 1, 4, none⟩ v4).setCell ⟨ka + 1, 5, none⟩ v5).setCell ⟨ka + 1, 6, none⟩ v6).setCell ⟨ka + 1, 7, none⟩ v7).setCell ⟨ka + 1, 8, none⟩ v8))) (fun k h => by have h' : k = ka + 1 := h; have := unhide Hka; omega) (fun k h => by have := unhide HKl k h; have := unhide Hka; omega) (fun k h => by have := unhide HAl k h; have := unhide Hka; omega))
  have HG := hide (fun v0 v1 v2 v3 v4 v5 v6 v7 v8 => set9 (unhide HNZ) v0 v1 v2 v3 v4 v5 v6 v7 v8)
  clear C1 hx2 o2 NZ a0
  go_wp2_with fail
  refine (unhide C2).mono ?_
  rintro e w3 ⟨rfl, rfl⟩
  clear C2
  go_wp2_with fail
  exact bodyPost_ret (res1_an Tryz.results14 _ rfl (unhide HG _ _ _ _ _ _ _ _ _) rfl) rfl (unhide FF _ _ _ _ _ _ _ _ _)
end
end Go.Proofs.Qxb6500414aGreat
