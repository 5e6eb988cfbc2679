/-
  OWN WORK. TXN's MODEL: txnm.Mgr: Clone, After, Crashed (written by tools/gen_xn3.py).
-/
import Derived.Test.Qxb6500414aGreatXN2
namespace Go.Proofs.Qxb6500414aGreat
open Go.RowKit Go.PlainAid
set_option linter.unusedSimpArgs false
set_option linter.unusedVariables false

def NcP (w : World) (M : Mu) (U : Db) (e : Ending) (w' : World) : Prop := ∃ n H', e = .returned (.pointer (some ⟨n, 0, none⟩)) ∧ NX w' n M U none H' ∧ (∀ b, H' b → w.heap.size ≤ b) ∧ Only (fun _ => False) w w'
section
variable {w w' : World} {m : Nat} {M : Mu} {U : Db} {hist : Option Db} {H : Nat → Prop}
theorem NX.parts (h : NX w m M U hist H) : ∃ k bv hv got P O, Has w m (mgC k bv hv got) 152 ∧ MX w k M P ∧ MV w bv U O ∧ HisY w hv O hist ∧ (∀ b, P b → b < w.heap.size) ∧ (∀ b, O b → b < w.heap.size) := by
  obtain ⟨k, bv, hv, got, P, O, h1, h2, h3, h4, h5, h6⟩ := h.ex
  exact ⟨k, bv, hv, got, P, O, h1, h2, h3, h4, fun b hb => h.lt b (h5 b hb).2.1, fun b hb => h.lt b (h6 b hb).1⟩
/-- A Mgr of fresh parts. -/
theorem NX.mkN {lo n k : Nat} {bv : Value} {got : Int} {P O : Nat → Prop} (h1 : Has w n (mgC k bv (.slice none 0 0) got) 152) (h2 : MX w k M P) (h3 : MV w bv U O) (hP : ∀ b, P b → lo ≤ b ∧ b ≠ n) (hO : ∀ b, O b → lo ≤ b ∧ b ≠ n ∧ b < w.heap.size) (hPO : ∀ b, P b → ¬ O b) (hn : lo ≤ n) : ∃ H', NX w n M U none H' ∧ ∀ b, H' b → lo ≤ b := by
  refine ⟨fun b => b = n ∨ P b ∨ O b, ⟨⟨k, bv, .slice none 0 0, got, P, O, h1, h2, h3, rfl, fun b hb => ⟨hPO b hb, .inr (.inl hb), (hP b hb).2⟩, fun b hb => ⟨.inr (.inr hb), (hO b hb).2.1⟩⟩, .inl rfl, fun b hb => ?_⟩, fun b hb => ?_⟩
  · rcases hb with rfl | hb | hb
    · exact h1.lt
    · exact h2.lt b hb
    · exact (hO b hb).2.2
  · rcases hb with rfl | hb | hb
    · exact hn
    · exact (hP b hb).1
    · exact (hO b hb).1
set_option maxRecDepth 100000 in
set_option maxHeartbeats 4000000 in
theorem xnclone_any (h : NX w m M U none H) : Calls Tryz.prog 26 #[.pointer (some ⟨m, 0, none⟩)] w (NcP w M U) := by
  have N0 : Has (w.alloc (.cells #[.pointer none, .slice none 0 0, .slice none 0 0, .int .i64 0] 152)) w.heap.size #[.pointer none, .slice none 0 0, .slice none 0 0, .int .i64 0] 152 := Has.new _ _ _
  have oo : Only (fun _ => False) w (w.alloc (.cells #[.pointer none, .slice none 0 0, .slice none 0 0, .int .i64 0] 152)) := (Only.refl _ w).alloc _
  have mlw := h.ml
  obtain ⟨k, bv, hv, got, P, O, h1, h2, h3, h4, h5, h6⟩ := h.parts
  have ehv : hv = .slice none 0 0 := h4
  subst ehv
  have h1 := h1.keep oo (fun e => e)
  have h2 := h2.quiet oo
  have h3 := h3.keep oo (fun _ _ e => e)
  have c0 : (w.alloc (.cells #[.pointer none, .slice none 0 0, .slice none 0 0, .int .i64 0] 152)).cell? ⟨m, 0, none⟩ = some (.pointer (some ⟨k, 0, none⟩)) := by rw [h1.cell]; rfl
  have HH := hide (And.intro N0 (And.intro oo (And.intro h1 (And.intro h6 h3))))
  have kl := h2.kl
  have ml := h1.lt
  have C1 := hide (xmclone_any h2)
  clear h N0 oo h1 h2 h3 h4 h5 h6
  go_enter Tryz.func26, Tryz.ntmps26
  go_upto_region 2 with fail
  generalize w.alloc (.cells #[.pointer none, .slice none 0 0, .slice none 0 0, .int .i64 0] 152) = w0 at *
  generalize hn : w.heap.size = n at *
  have HN := hide hn
  clear hn
  have nl0 := (unhide HH).1.lt
  go_wp2_with fail
  refine (unhide C1).mono ?_
  rintro e w1 ⟨k2, P2, rfl, X2, hP2, o1⟩
  clear C1 c0
  have q1 := (unhide HH).1.keep o1 (fun e => e)
  have c0 := q1.cell 0
  have f0 := q1.free 0
  simp at c0
  have m1 : Has (w1.setCell ⟨n, 0, none⟩ (.pointer (some ⟨k2, 0, none⟩))) n (mgC k2 (.slice none 0 0) (.slice none 0 0) 0) 152 := q1.setCell 0 (.pointer (some ⟨k2, 0, none⟩))
  have p1 : Only (fun b => b = n) w1 (w1.setCell ⟨n, 0, none⟩ (.pointer (some ⟨k2, 0, none⟩))) := only1 _ _
  have nP2 : ∀ b, P2 b → b ≠ n := fun b hb => by have := hP2 b hb; omega
  have X3 := X2.keep p1 (fun b hb e => nP2 b hb e)
  have Q1 : Only (fun b => b = n) w0 (w1.setCell ⟨n, 0, none⟩ (.pointer (some ⟨k2, 0, none⟩))) := (o1.mono (fun _ _ e => e.elim)).trans p1 (fun _ _ e => e)
  have HM1 := hide (And.intro m1 (And.intro X3 (And.intro Q1 (And.intro hP2 nP2))))
  have nl1 := q1.lt
  clear q1 m1 p1 X2 X3 Q1 hP2 nP2 o1
  go_upto_region 3 with fail
  generalize w1.setCell ⟨n, 0, none⟩ (.pointer (some ⟨k2, 0, none⟩)) = b1 at *
  clear c0 f0 nl1
  have mn : m ≠ n := by have := unhide HN; omega
  have hN := unhide HN
  have g1 := (unhide HH).2.2.1.keep (unhide HM1).2.2.1 (fun e => mn e)
  have V1 : MV b1 bv U O := (unhide HH).2.2.2.2.keep (unhide HM1).2.2.1 (fun b hb e => by have := (unhide HH).2.2.2.1 b hb; have e' : b = n := e; omega)
  have C2 := hide (vclone_any (dk := m) (o := 1) (by rw [g1.cell]; rfl) V1)
  have ml1 := g1.lt
  have nl1 := (unhide HM1).1.lt
  clear g1 V1 hN
  go_wp2_with fail
  refine (unhide C2).mono ?_
  rintro e w2 ⟨g, z, Q, rfl, V2, hQ, o2⟩
  clear C2
  have q2 := (unhide HM1).1.keep o2 (fun e => e)
  have c1 := q2.cell 1
  have f1 := q2.free 1
  simp [mgC] at c1
  have m2 : Has (w2.setCell ⟨n, 1, none⟩ (.slice (some ⟨g, 0, none⟩) z z)) n (mgC k2 (.slice (some ⟨g, 0, none⟩) z z) (.slice none 0 0) 0) 152 := q2.setCell 1 (.slice (some ⟨g, 0, none⟩) z z)
  have p2 : Only (fun b => b = n) w2 (w2.setCell ⟨n, 1, none⟩ (.slice (some ⟨g, 0, none⟩) z z)) := only1 _ _
  have nQ : ∀ b, Q b → b ≠ n := fun b hb => by have := hQ b hb; omega
  have X3 := ((unhide HM1).2.1.quiet o2).keep p2 (fun b hb e => (unhide HM1).2.2.2.2 b hb e)
  have V3 := V2.keep p2 (fun b hb e => nQ b hb e)
  have Q2 : Only (fun b => b = n) w0 (w2.setCell ⟨n, 1, none⟩ (.slice (some ⟨g, 0, none⟩) z z)) := (unhide HM1).2.2.1.trans ((o2.mono (fun _ _ e => e.elim)).trans p2 (fun _ _ e => e)) (fun _ _ e => e)
  have hPQ : ∀ b, P2 b → ¬ Q b := fun b h1 h2 => by have := hQ b h2; have := (unhide HM1).2.1.lt b h1; omega
  have z12 := (unhide HM1).2.2.1.size
  have HM2 := hide (And.intro m2 (And.intro X3 (And.intro V3 (And.intro Q2 (And.intro (show ∀ b, Q b → w0.heap.size ≤ b from fun b hb => by have := hQ b hb; omega) (And.intro nQ (And.intro hPQ (show ∀ b, Q b → b < w2.heap.size from fun b hb => (hQ b hb).2))))))))
  have nl2 := q2.lt
  have z2 : (w2.setCell ⟨n, 1, none⟩ (.slice (some ⟨g, 0, none⟩) z z)).heap.size = w2.heap.size := by simp
  clear q2 m2 p2 V2 V3 X3 Q2 hPQ hQ nQ o2
  go_upto_region 4 with fail
  generalize w2.setCell ⟨n, 1, none⟩ (.slice (some ⟨g, 0, none⟩) z z) = b2 at *
  clear c1 f1 nl2 nl1 ml1
  have g2 := (unhide HH).2.2.1.keep (unhide HM2).2.2.2.1 (fun e => mn e)
  have d3 : b2.cell? ⟨m, 3, none⟩ = some (.int .i64 got) := by rw [g2.cell]; rfl
  have e3 : b2.cell? ⟨n, 3, none⟩ = some (.int .i64 0) := by rw [(unhide HM2).1.cell]; rfl
  have f3 := (unhide HM2).1.free 3
  have ml2 := g2.lt
  have nl2 := (unhide HM2).1.lt
  have m3 : Has (b2.setCell ⟨n, 3, none⟩ (.int .i64 got)) n (mgC k2 (.slice (some ⟨g, 0, none⟩) z z) (.slice none 0 0) got) 152 := (unhide HM2).1.setCell 3 (.int .i64 got)
  have p3 : Only (fun b => b = n) b2 (b2.setCell ⟨n, 3, none⟩ (.int .i64 got)) := only1 _ _
  have HP := hide (show ∃ H', NX (b2.setCell ⟨n, 3, none⟩ (.int .i64 got)) n M U none H' ∧ (∀ b, H' b → w.heap.size ≤ b) ∧ Only (fun _ => False) w (b2.setCell ⟨n, 3, none⟩ (.int .i64 got)) from by
    obtain ⟨_, X3, V3, Q2, hQ1, nQ, hPQ, hQ2⟩ := unhide HM2
    have hN := unhide HN
    have w0s := (unhide HH).2.1.size
    have s3 := p3.size
    obtain ⟨H', hX, hl⟩ := NX.mkN (lo := n) m3 (X3.keep p3 (fun b hb e => (unhide HM1).2.2.2.2 b hb e)) (V3.keep p3 (fun b hb e => nQ b hb e)) (fun b hb => ⟨by have := (unhide HM1).2.2.2.1 b hb; omega, (unhide HM1).2.2.2.2 b hb⟩) (fun b hb => ⟨by have := hQ1 b hb; omega, nQ b hb, by have := hQ2 b hb; omega⟩) hPQ (Nat.le_refl n)
    exact ⟨H', hX, fun b hb => by have := hl b hb; omega, (unhide HH).2.1.fresh (Q2.trans p3 (fun _ _ e => e)) (by omega)⟩)
  have g3 := g2.keep p3 (fun e => mn e)
  have d2 : (b2.setCell ⟨n, 3, none⟩ (.int .i64 got)).cell? ⟨m, 2, none⟩ = some (.slice none 0 0) := by rw [g3.cell]; rfl
  have ml3 := g3.lt
  clear g2 g3 m3 p3 HM1 HM2 HH
  go_upto_region 6 with fail
  generalize b2.setCell ⟨n, 3, none⟩ (.int .i64 got) = b3 at *
  clear d3 e3 f3
  go_loopw [4] (fun iv wr => iv = .int .i64 0 ∧ wr = b3) (fun _ _ => 0)
  case atStart => exact ⟨rfl, rfl⟩
  case round =>
    obtain ⟨rfl, rfl⟩ := hrel
    go_wp2_with fail
    go_ret
    obtain ⟨H', Z, hH, o⟩ := unhide HP
    exact ⟨n, H', rfl, Z, hH, o⟩
theorem MmS.z0 {v : Value} {l : List GE} {D : Db} (hl : l.map (·.t) = D) (hD : DOk D) : MmS (Mm.z.setV 0 v l) (Mu0 D) := by
  refine ⟨by rw [Mm.setV_db, if_pos rfl]; exact hl, fun j hj => ?_, fun s hs => rfl, fun s i t hs hi => rfl, fun s nm hs _ => rfl, fun s hs h => (by cases h), fun s i hs hi _ => rfl, fun s hs => ?_⟩
  · rw [Mm.setV_db]
    by_cases c : j = 0
    · rw [if_pos c, hl]; exact hD
    · rw [if_neg c]; exact DOk.nil
  · show D = mixD (fun _ => 0) _ D
    rw [mix_zero (fun nm => by omega)]
set_option maxRecDepth 100000 in
set_option maxHeartbeats 4000000 in
theorem xnafter_none (h : NX w m M U none H) : Calls Tryz.prog 112 #[.pointer (some ⟨m, 0, none⟩), .int .i64 0] w (NcP w (Mu0 U) U) := by
  have N0 := (MMt.new w).quiet ((Only.refl (fun _ => False) (w.alloc (.cells #[.slice none 0 0, .bool false, .bool false, .bool false, .bool false, .int .i64 0, .int .i64 0, .int .i64 0, .int .i64 0, .int .i64 0, .int .i64 0, .int .i64 0, .int .i64 0, .int .i64 0, .int .i64 0, .int .i64 0, .int .i64 0, .slice none 0 0, .slice none 0 0, .slice none 0 0, .slice none 0 0] 149))).alloc (.cells #[.pointer (some ⟨w.heap.size, 0, none⟩), .slice none 0 0, .slice none 0 0, .int .i64 0] 152))
  have N1 : Has ((w.alloc (.cells #[.slice none 0 0, .bool false, .bool false, .bool false, .bool false, .int .i64 0, .int .i64 0, .int .i64 0, .int .i64 0, .int .i64 0, .int .i64 0, .int .i64 0, .int .i64 0, .int .i64 0, .int .i64 0, .int .i64 0, .int .i64 0, .slice none 0 0, .slice none 0 0, .slice none 0 0, .slice none 0 0] 149)).alloc (.cells #[.pointer (some ⟨w.heap.size, 0, none⟩), .slice none 0 0, .slice none 0 0, .int .i64 0] 152)) (w.heap.size + 1) (mgC w.heap.size (.slice none 0 0) (.slice none 0 0) 0) 152 := Has.new' _ _ _ _ (by simp)
  have oo : Only (fun _ => False) w ((w.alloc (.cells #[.slice none 0 0, .bool false, .bool false, .bool false, .bool false, .int .i64 0, .int .i64 0, .int .i64 0, .int .i64 0, .int .i64 0, .int .i64 0, .int .i64 0, .int .i64 0, .int .i64 0, .int .i64 0, .int .i64 0, .int .i64 0, .slice none 0 0, .slice none 0 0, .slice none 0 0, .slice none 0 0] 149)).alloc (.cells #[.pointer (some ⟨w.heap.size, 0, none⟩), .slice none 0 0, .slice none 0 0, .int .i64 0] 152)) := ((Only.refl _ w).alloc _).alloc _
  have mlw := h.ml
  obtain ⟨k, bv, hv, got, P, O, h1, h2, h3, h4, h5, h6⟩ := h.parts
  have ehv : hv = .slice none 0 0 := h4
  subst ehv
  have c3 : w.cell? ⟨m, 2, none⟩ = some (.slice none 0 0) := by rw [h1.cell]; rfl
  have h1 := h1.keep oo (fun e => e)
  have ml := h1.lt
  have HH := hide (And.intro N0 (And.intro N1 (And.intro oo (And.intro h1 (And.intro h6 h3)))))
  clear h N0 N1 oo h1 h2 h3 h4 h5 h6
  go_enter Tryz.func112, Tryz.ntmps112
  go_upto_region 7 with fail
  generalize (w.alloc (.cells #[.slice none 0 0, .bool false, .bool false, .bool false, .bool false, .int .i64 0, .int .i64 0, .int .i64 0, .int .i64 0, .int .i64 0, .int .i64 0, .int .i64 0, .int .i64 0, .int .i64 0, .int .i64 0, .int .i64 0, .int .i64 0, .slice none 0 0, .slice none 0 0, .slice none 0 0, .slice none 0 0] 149)).alloc (.cells #[.pointer (some ⟨w.heap.size, 0, none⟩), .slice none 0 0, .slice none 0 0, .int .i64 0] 152) = w0 at *
  generalize hn : w.heap.size = n at *
  have HN := hide hn
  clear hn
  have d1 : Only (fun _ => False) w0 w0.drew := (Only.refl _ w0).drew
  have C1 : Calls Tryz.prog 88 #[.pointer (some ⟨m, 1, none⟩)] w0.drew fun e w3 => ∃ (g z : Nat), e = .returned (.agg #[.slice (some ⟨g, 0, none⟩) z z]) ∧ w3.cell? ⟨n + 1, 0, none⟩ = some (.pointer (some ⟨n, 0, none⟩)) ∧ w3.cell? ⟨n, 0, none⟩ = some (.slice none 0 0) ∧ w3.frozen? ⟨n, 0, none⟩ = false ∧ n < w3.heap.size ∧ n + 1 < w3.heap.size ∧
      Hid (∃ l, MMt (w3.setCell ⟨n, 0, none⟩ (.slice (some ⟨g, 0, none⟩) z z)) n (Mm.z.setV 0 (.slice (some ⟨g, 0, none⟩) z z) l) ∧ l.map (·.t) = U ∧ DOk U ∧ (∀ b, MLm (.slice (some ⟨g, 0, none⟩) z z) l b ∨ MLi l b → w0.heap.size ≤ b) ∧ Only (fun b => b = n) w0 (w3.setCell ⟨n, 0, none⟩ (.slice (some ⟨g, 0, none⟩) z z))) := by
    obtain ⟨N0, N1, oo, h1, h6, h3⟩ := unhide HH
    obtain ⟨l0, hM0, ht0, hD0, hb0⟩ := h3.keep oo (fun _ _ e => e)
    refine (mdbClone_any (dk := m) (o := 1) (v := bv) (by rw [((h1.keep d1 (fun e => e))).cell]; rfl) (hM0.quiet d1)).mono ?_
    rintro e w3 ⟨g, z, l, rfl, hM, ht, hf, o3⟩
    have o13 := d1.trans o3 (fun _ _ e => e)
    have k3 := N1.keep o13 (fun e => e)
    have n3 := N0.quiet o13
    have nl := N0.has.lt
    have o4 : Only (fun b => b = n) w3 (w3.setCell ⟨n, 0, none⟩ (.slice (some ⟨g, 0, none⟩) z z)) := only1 _ _
    have o5 : Only (fun b => b = n) w0 (w3.setCell ⟨n, 0, none⟩ (.slice (some ⟨g, 0, none⟩) z z)) := (o13.mono (fun _ _ e => e.elim)).trans o4 (fun _ _ e => e)
    have hf2 : ∀ b, MLm (.slice (some ⟨g, 0, none⟩) z z) l b ∨ MLi l b → w0.heap.size ≤ b := fun b hb => Nat.le_trans d1.size (hf b hb)
    refine ⟨g, z, rfl, by rw [k3.cell]; rfl, n3.c0, n3.fr 0, n3.has.lt, k3.lt, hide ⟨l, ?_, ht.trans ht0, hD0, hf2, o5⟩⟩
    exact N0.setV (j := 0) (by omega) o5 (fun b hb => .inl hb) (n3.has.setCell _ _) (hM.keep o4 (fun b hb e => by have := hf2 b (.inl hb); have e' : b = n := e; omega) (fun b hb e => by have := hf2 b (.inr hb); have e' : b = n := e; omega)) (fun b hb => .inr (hf2 b (.inl hb)))
  have C1 := hide C1
  have c6 : w0.cell? ⟨n + 1, 0, none⟩ = some (.pointer (some ⟨n, 0, none⟩)) := by rw [(unhide HH).2.1.cell]; rfl
  have nl0 := (unhide HH).1.has.lt
  have nl1 := (unhide HH).2.1.lt
  clear d1
  go_region_with (go_at_call 88; refine (unhide C1).mono ?_; rintro e w3 ⟨g, z, rfl, k6, k0, kf, kl, kl1, HF⟩)
  all_goals
    clear C1
    go_upto_region 8 with fail
    generalize w3.setCell ⟨n, 0, none⟩ (.slice (some ⟨g, 0, none⟩) z z) = b1 at *
    clear c6 k6 k0 kf kl kl1
    obtain ⟨N0, N1, oo, h1, h6, h3⟩ := unhide HH
    obtain ⟨l, hZ, ht, hD, hf, o5⟩ := unhide HF
    have hN := unhide HN
    have VV := (h3.keep oo (fun _ _ e => e)).keep o5 (fun b hb e => by have := h6 b hb; have e' : b = n := e; omega)
    have C2 := hide (vclone_any (dk := m) (o := 1) (v := bv) (by rw [((h1.keep o5 (fun e => by have e' : m = n := e; omega))).cell]; rfl) VV)
    have k1 := N1.keep o5 (fun e => by have e' : n + 1 = n := e; omega)
    have nl1 := k1.lt
    have HQ := hide (And.intro hZ (And.intro ht (And.intro hD (And.intro hf (And.intro o5 k1)))))
    clear HF hZ ht hD hf o5 k1 VV N0 N1 oo h1 h6 h3 hN
    go_wp2_with fail
    refine (unhide C2).mono ?_
    rintro e w4 ⟨g2, z2, Q, rfl, V2, hQ, o6⟩
    clear C2
    have k4 := (unhide HQ).2.2.2.2.2.keep o6 (fun e => e)
    have c1 := k4.cell 1
    have f1 := k4.free 1
    have nl4 := k4.lt
    simp [mgC] at c1
    have m4 : Has (w4.setCell ⟨n + 1, 1, none⟩ (.slice (some ⟨g2, 0, none⟩) z2 z2)) (n + 1) (mgC n (.slice (some ⟨g2, 0, none⟩) z2 z2) (.slice none 0 0) 0) 152 := k4.setCell 1 (.slice (some ⟨g2, 0, none⟩) z2 z2)
    have p4 : Only (fun b => b = n + 1) w4 (w4.setCell ⟨n + 1, 1, none⟩ (.slice (some ⟨g2, 0, none⟩) z2 z2)) := only1 _ _
    have HP := hide (show ∃ H', NX (w4.setCell ⟨n + 1, 1, none⟩ (.slice (some ⟨g2, 0, none⟩) z2 z2)) (n + 1) (Mu0 U) U none H' ∧ (∀ b, H' b → w.heap.size ≤ b) ∧ Only (fun _ => False) w (w4.setCell ⟨n + 1, 1, none⟩ (.slice (some ⟨g2, 0, none⟩) z2 z2)) from by
      obtain ⟨N0, N1, oo, h1, h6, h3⟩ := unhide HH
      obtain ⟨hZ, ht, hD, hf, o5, k1⟩ := unhide HQ
      have hN := unhide HN
      have w0s := oo.size
      have s5 := o5.size
      have s6 := o6.size
      have s4 := p4.size
      have nl0 := N0.has.lt
      have nl1' := N1.lt
      have hZA : ∀ b, (Mm.z.setV 0 (.slice (some ⟨g, 0, none⟩) z z) l).A n b → b = n ∨ w0.heap.size ≤ b := fun b hb => by
        rcases Mm.setV_A hb with c | c
        · rcases c with (c | ⟨_, _, c⟩) | ⟨_, _, c⟩
          · exact .inl c
          · rcases c with c | ⟨_, c, _⟩
            · cases c
            · cases c
          · obtain ⟨_, c, _⟩ := c
            cases c
        · exact .inr (hf b c)
      have hZ4 := (hZ.quiet o6).keep p4 (fun b hb e => by have e' : b = n + 1 := e; rcases hZA b hb with c | c <;> omega)
      have X4 : MX (w4.setCell ⟨n + 1, 1, none⟩ (.slice (some ⟨g2, 0, none⟩) z2 z2)) n (Mu0 U) (fun b => (Mm.z.setV 0 (.slice (some ⟨g, 0, none⟩) z z) l).A n b) := ⟨⟨_, hZ4, MmS.z0 ht hD, fun b hb => hb⟩, fun b hb => hZ4.lt b hb⟩
      obtain ⟨H', hX, hl⟩ := NX.mkN (lo := n) m4 X4 (V2.keep p4 (fun b hb e => by have := hQ b hb; have e' : b = n + 1 := e; omega)) (fun b hb => by rcases hZA b hb with c | c <;> constructor <;> omega) (fun b hb => by have := hQ b hb; refine ⟨by omega, by omega, by omega⟩) (fun b hb hq => by have := hQ b hq; have := hZ.lt b hb; omega) (by omega)
      refine ⟨H', hX, fun b hb => by have := hl b hb; omega, ?_⟩
      exact ((oo.fresh o5 (by omega)).trans o6 (fun _ _ e => e)).fresh p4 (by omega))
    clear k4 m4 p4 V2 hQ o6 HQ HH
    go_wp2_with fail
    go_ret
    obtain ⟨H', Z, hH, o⟩ := unhide HP
    exact ⟨n + 1, H', rfl, Z, hH, o⟩
set_option maxRecDepth 100000 in
set_option maxHeartbeats 4000000 in
theorem xnafter_some {X : Db} (h : NX w m M U (some X) H) : Calls Tryz.prog 112 #[.pointer (some ⟨m, 0, none⟩), .int .i64 1] w (NcP w (Mu0 X) X) := by
  have N0 := (MMt.new w).quiet ((Only.refl (fun _ => False) (w.alloc (.cells #[.slice none 0 0, .bool false, .bool false, .bool false, .bool false, .int .i64 0, .int .i64 0, .int .i64 0, .int .i64 0, .int .i64 0, .int .i64 0, .int .i64 0, .int .i64 0, .int .i64 0, .int .i64 0, .int .i64 0, .int .i64 0, .slice none 0 0, .slice none 0 0, .slice none 0 0, .slice none 0 0] 149))).alloc (.cells #[.pointer (some ⟨w.heap.size, 0, none⟩), .slice none 0 0, .slice none 0 0, .int .i64 0] 152))
  have N1 : Has ((w.alloc (.cells #[.slice none 0 0, .bool false, .bool false, .bool false, .bool false, .int .i64 0, .int .i64 0, .int .i64 0, .int .i64 0, .int .i64 0, .int .i64 0, .int .i64 0, .int .i64 0, .int .i64 0, .int .i64 0, .int .i64 0, .int .i64 0, .slice none 0 0, .slice none 0 0, .slice none 0 0, .slice none 0 0] 149)).alloc (.cells #[.pointer (some ⟨w.heap.size, 0, none⟩), .slice none 0 0, .slice none 0 0, .int .i64 0] 152)) (w.heap.size + 1) (mgC w.heap.size (.slice none 0 0) (.slice none 0 0) 0) 152 := Has.new' _ _ _ _ (by simp)
  have oo : Only (fun _ => False) w ((w.alloc (.cells #[.slice none 0 0, .bool false, .bool false, .bool false, .bool false, .int .i64 0, .int .i64 0, .int .i64 0, .int .i64 0, .int .i64 0, .int .i64 0, .int .i64 0, .int .i64 0, .int .i64 0, .int .i64 0, .int .i64 0, .int .i64 0, .slice none 0 0, .slice none 0 0, .slice none 0 0, .slice none 0 0] 149)).alloc (.cells #[.pointer (some ⟨w.heap.size, 0, none⟩), .slice none 0 0, .slice none 0 0, .int .i64 0] 152)) := ((Only.refl _ w).alloc _).alloc _
  have mlw := h.ml
  obtain ⟨k, bv, hv, got, P, O, h1, h2, h3, h4, h5, h6⟩ := h.parts
  obtain ⟨vx, q1, q2, q3⟩ := h4
  obtain ⟨gb, cap, ehv, cg⟩ : ∃ gb cap, hv = .slice (some ⟨gb, 0, none⟩) 1 cap ∧ w.cell? ⟨gb, 0, none⟩ = some vx := by
    rcases q1.2 with ⟨_, hn⟩ | ⟨g, cap, cur, e, _⟩
    · cases hn
    · refine ⟨g, cap, e, ?_⟩
      have := World.ownsRow.cells q1 (g := g) (by rw [e]; rfl) 0 vx rfl
      rw [addr_add] at this
      exact this
  have gw : gb < w.heap.size := h6 gb (q3 gb (by rw [ehv]; rfl))
  subst ehv
  have c3 : w.cell? ⟨m, 2, none⟩ = some (.slice (some ⟨gb, 0, none⟩) 1 cap) := by rw [h1.cell]; rfl
  have HCG := hide cg
  have HGW := hide gw
  clear h3
  have h3 := q2
  have hgr := cell_keep cg oo (fun e => e)
  clear q1 q2 q3
  have h1 := h1.keep oo (fun e => e)
  have ml := h1.lt
  have HH := hide (And.intro N0 (And.intro N1 (And.intro oo (And.intro h1 (And.intro h6 h3)))))
  clear h N0 N1 oo h1 h2 h3 h5 h6 hgr cg gw
  go_enter Tryz.func112, Tryz.ntmps112
  go_upto_region 7 with fail
  generalize (w.alloc (.cells #[.slice none 0 0, .bool false, .bool false, .bool false, .bool false, .int .i64 0, .int .i64 0, .int .i64 0, .int .i64 0, .int .i64 0, .int .i64 0, .int .i64 0, .int .i64 0, .int .i64 0, .int .i64 0, .int .i64 0, .int .i64 0, .slice none 0 0, .slice none 0 0, .slice none 0 0, .slice none 0 0] 149)).alloc (.cells #[.pointer (some ⟨w.heap.size, 0, none⟩), .slice none 0 0, .slice none 0 0, .int .i64 0] 152) = w0 at *
  generalize hn : w.heap.size = n at *
  have HN := hide hn
  clear hn
  have d1 : Only (fun _ => False) w0 w0.drew := (Only.refl _ w0).drew
  have C1 : Calls Tryz.prog 88 #[.pointer (some ⟨gb, 0, none⟩)] w0.drew fun e w3 => ∃ (g z : Nat), e = .returned (.agg #[.slice (some ⟨g, 0, none⟩) z z]) ∧ w3.cell? ⟨n + 1, 0, none⟩ = some (.pointer (some ⟨n, 0, none⟩)) ∧ w3.cell? ⟨n, 0, none⟩ = some (.slice none 0 0) ∧ w3.frozen? ⟨n, 0, none⟩ = false ∧ n < w3.heap.size ∧ n + 1 < w3.heap.size ∧
      Hid (∃ l, MMt (w3.setCell ⟨n, 0, none⟩ (.slice (some ⟨g, 0, none⟩) z z)) n (Mm.z.setV 0 (.slice (some ⟨g, 0, none⟩) z z) l) ∧ l.map (·.t) = X ∧ DOk X ∧ (∀ b, MLm (.slice (some ⟨g, 0, none⟩) z z) l b ∨ MLi l b → w0.heap.size ≤ b) ∧ Only (fun b => b = n) w0 (w3.setCell ⟨n, 0, none⟩ (.slice (some ⟨g, 0, none⟩) z z))) := by
    obtain ⟨N0, N1, oo, h1, h6, h3⟩ := unhide HH
    obtain ⟨l0, hM0, ht0, hD0, hb0⟩ := h3.keep oo (fun _ _ e => e)
    refine (mdbClone_any (dk := gb) (o := 0) (v := vx) (cell_keep (cell_keep (unhide HCG) oo (fun e => e)) d1 (fun e => e)) (hM0.quiet d1)).mono ?_
    rintro e w3 ⟨g, z, l, rfl, hM, ht, hf, o3⟩
    have o13 := d1.trans o3 (fun _ _ e => e)
    have k3 := N1.keep o13 (fun e => e)
    have n3 := N0.quiet o13
    have nl := N0.has.lt
    have o4 : Only (fun b => b = n) w3 (w3.setCell ⟨n, 0, none⟩ (.slice (some ⟨g, 0, none⟩) z z)) := only1 _ _
    have o5 : Only (fun b => b = n) w0 (w3.setCell ⟨n, 0, none⟩ (.slice (some ⟨g, 0, none⟩) z z)) := (o13.mono (fun _ _ e => e.elim)).trans o4 (fun _ _ e => e)
    have hf2 : ∀ b, MLm (.slice (some ⟨g, 0, none⟩) z z) l b ∨ MLi l b → w0.heap.size ≤ b := fun b hb => Nat.le_trans d1.size (hf b hb)
    refine ⟨g, z, rfl, by rw [k3.cell]; rfl, n3.c0, n3.fr 0, n3.has.lt, k3.lt, hide ⟨l, ?_, ht.trans ht0, hD0, hf2, o5⟩⟩
    exact N0.setV (j := 0) (by omega) o5 (fun b hb => .inl hb) (n3.has.setCell _ _) (hM.keep o4 (fun b hb e => by have := hf2 b (.inl hb); have e' : b = n := e; omega) (fun b hb e => by have := hf2 b (.inr hb); have e' : b = n := e; omega)) (fun b hb => .inr (hf2 b (.inl hb)))
  have C1 := hide C1
  have c6 : w0.cell? ⟨n + 1, 0, none⟩ = some (.pointer (some ⟨n, 0, none⟩)) := by rw [(unhide HH).2.1.cell]; rfl
  have nl0 := (unhide HH).1.has.lt
  have nl1 := (unhide HH).2.1.lt
  clear d1
  go_region_with (go_at_call 88; refine (unhide C1).mono ?_; rintro e w3 ⟨g, z, rfl, k6, k0, kf, kl, kl1, HF⟩)
  all_goals
    clear C1
    go_upto_region 8 with fail
    generalize w3.setCell ⟨n, 0, none⟩ (.slice (some ⟨g, 0, none⟩) z z) = b1 at *
    clear c6 k6 k0 kf kl kl1
    obtain ⟨N0, N1, oo, h1, h6, h3⟩ := unhide HH
    obtain ⟨l, hZ, ht, hD, hf, o5⟩ := unhide HF
    have hN := unhide HN
    have VV := (h3.keep oo (fun _ _ e => e)).keep o5 (fun b hb e => by have := h6 b hb; have e' : b = n := e; omega)
    have C2 := hide (vclone_any (dk := gb) (o := 0) (v := vx) (cell_keep (cell_keep (unhide HCG) oo (fun e => e)) o5 (fun e => by have e' : gb = n := e; have := unhide HGW; omega)) VV)
    have k1 := N1.keep o5 (fun e => by have e' : n + 1 = n := e; omega)
    have nl1 := k1.lt
    have HQ := hide (And.intro hZ (And.intro ht (And.intro hD (And.intro hf (And.intro o5 k1)))))
    clear HF hZ ht hD hf o5 k1 VV N0 N1 oo h1 h6 h3 hN
    go_wp2_with fail
    refine (unhide C2).mono ?_
    rintro e w4 ⟨g2, z2, Q, rfl, V2, hQ, o6⟩
    clear C2
    have k4 := (unhide HQ).2.2.2.2.2.keep o6 (fun e => e)
    have c1 := k4.cell 1
    have f1 := k4.free 1
    have nl4 := k4.lt
    simp [mgC] at c1
    have m4 : Has (w4.setCell ⟨n + 1, 1, none⟩ (.slice (some ⟨g2, 0, none⟩) z2 z2)) (n + 1) (mgC n (.slice (some ⟨g2, 0, none⟩) z2 z2) (.slice none 0 0) 0) 152 := k4.setCell 1 (.slice (some ⟨g2, 0, none⟩) z2 z2)
    have p4 : Only (fun b => b = n + 1) w4 (w4.setCell ⟨n + 1, 1, none⟩ (.slice (some ⟨g2, 0, none⟩) z2 z2)) := only1 _ _
    have HP := hide (show ∃ H', NX (w4.setCell ⟨n + 1, 1, none⟩ (.slice (some ⟨g2, 0, none⟩) z2 z2)) (n + 1) (Mu0 X) X none H' ∧ (∀ b, H' b → w.heap.size ≤ b) ∧ Only (fun _ => False) w (w4.setCell ⟨n + 1, 1, none⟩ (.slice (some ⟨g2, 0, none⟩) z2 z2)) from by
      obtain ⟨N0, N1, oo, h1, h6, h3⟩ := unhide HH
      obtain ⟨hZ, ht, hD, hf, o5, k1⟩ := unhide HQ
      have hN := unhide HN
      have w0s := oo.size
      have s5 := o5.size
      have s6 := o6.size
      have s4 := p4.size
      have nl0 := N0.has.lt
      have nl1' := N1.lt
      have hZA : ∀ b, (Mm.z.setV 0 (.slice (some ⟨g, 0, none⟩) z z) l).A n b → b = n ∨ w0.heap.size ≤ b := fun b hb => by
        rcases Mm.setV_A hb with c | c
        · rcases c with (c | ⟨_, _, c⟩) | ⟨_, _, c⟩
          · exact .inl c
          · rcases c with c | ⟨_, c, _⟩
            · cases c
            · cases c
          · obtain ⟨_, c, _⟩ := c
            cases c
        · exact .inr (hf b c)
      have hZ4 := (hZ.quiet o6).keep p4 (fun b hb e => by have e' : b = n + 1 := e; rcases hZA b hb with c | c <;> omega)
      have X4 : MX (w4.setCell ⟨n + 1, 1, none⟩ (.slice (some ⟨g2, 0, none⟩) z2 z2)) n (Mu0 X) (fun b => (Mm.z.setV 0 (.slice (some ⟨g, 0, none⟩) z z) l).A n b) := ⟨⟨_, hZ4, MmS.z0 ht hD, fun b hb => hb⟩, fun b hb => hZ4.lt b hb⟩
      obtain ⟨H', hX, hl⟩ := NX.mkN (lo := n) m4 X4 (V2.keep p4 (fun b hb e => by have := hQ b hb; have e' : b = n + 1 := e; omega)) (fun b hb => by rcases hZA b hb with c | c <;> constructor <;> omega) (fun b hb => by have := hQ b hb; refine ⟨by omega, by omega, by omega⟩) (fun b hb hq => by have := hQ b hq; have := hZ.lt b hb; omega) (by omega)
      refine ⟨H', hX, fun b hb => by have := hl b hb; omega, ?_⟩
      exact ((oo.fresh o5 (by omega)).trans o6 (fun _ _ e => e)).fresh p4 (by omega))
    clear k4 m4 p4 V2 hQ o6 HQ HH
    go_wp2_with fail
    go_ret
    obtain ⟨H', Z, hH, o⟩ := unhide HP
    exact ⟨n + 1, H', rfl, Z, hH, o⟩
def lastY (hist : Option Db) (U : Db) : Db := hist.getD U
set_option maxRecDepth 100000 in
theorem xncrashed_any (h : NX w m M U hist H) : Calls Tryz.prog 34 #[.pointer (some ⟨m, 0, none⟩)] w (NcP w (Mu0 (lastY hist U)) (lastY hist U)) := by
  obtain ⟨k, bv, hv, got, P, O, h1, h2, h3, h5, _⟩ := h.ex
  have c5 : w.cell? ⟨m, 2, none⟩ = some hv := by rw [h1.cell]; rfl
  obtain ⟨x, n, cap, ehv, hn⟩ := h5.shape
  have ml := h.ml
  subst ehv
  cases hist with
  | none =>
    have hn0 : n = 0 := hn
    clear hn
    subst hn0
    have C1 := hide (xnafter_none h)
    clear h1 h2 h3 h5
    show Calls _ _ _ _ (NcP w (Mu0 U) U)
    go_enter Tryz.func34, Tryz.ntmps34
    go_wp2_with fail
    refine (unhide C1).mono ?_
    intro e w1 hp
    have FF := hide hp
    obtain ⟨n, H', rfl, _⟩ := hp
    go_wp2_with fail
    go_ret
    exact unhide FF
  | some X =>
    have hn0 : n = 1 := hn
    clear hn
    subst hn0
    have C1 := hide (xnafter_some h)
    clear h1 h2 h3 h5
    show Calls _ _ _ _ (NcP w (Mu0 X) X)
    go_enter Tryz.func34, Tryz.ntmps34
    go_wp2_with fail
    refine (unhide C1).mono ?_
    intro e w1 hp
    have FF := hide hp
    obtain ⟨n, H', rfl, _⟩ := hp
    go_wp2_with fail
    go_ret
    exact unhide FF
end
end Go.Proofs.Qxb6500414aGreat
