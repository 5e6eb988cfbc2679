/-
  OWN WORK. TXN's MODEL: txnm.Mgr in memory; New, Mark; the coats of Multi's calls that record nothing (written by tools/gen_xn0.py).
-/
import Derived.Test.Qxb6500414aGreatXM7
import Derived.Test.Qxb6500414aGreatXMu0
namespace Go.Proofs.Qxb6500414aGreat
open Go.RowKit Go.PlainAid
set_option linter.unusedSimpArgs false
set_option linter.unusedVariables false

/-- A database in a value, its blocks within O. -/
def MV (w : World) (v : Value) (D : Db) (O : Nat → Prop) : Prop := ∃ l, ML w v l ∧ l.map (·.t) = D ∧ DOk D ∧ ∀ k, MLm v l k ∨ MLi l k → O k
section
variable {w w' : World} {v : Value} {D : Db} {O O' B : Nat → Prop}
theorem MV.keep (h : MV w v D O) (ho : Only B w w') (hB : ∀ k, O k → ¬ B k) : MV w' v D O := by
  obtain ⟨l, h1, h2, h3, h4⟩ := h
  exact ⟨l, h1.keep ho (fun k hk => hB k (h4 k (.inl hk))) (fun k hk => hB k (h4 k (.inr hk))), h2, h3, h4⟩
theorem MV.mono (h : MV w v D O) (hO : ∀ k, O k → O' k) : MV w v D O' := by
  obtain ⟨l, h1, h2, h3, h4⟩ := h
  exact ⟨l, h1, h2, h3, fun k hk => hO k (h4 k hk)⟩
theorem MV.nil (w : World) : MV w (.slice none 0 0) [] O := ⟨[], ML.nil w, rfl, DOk.nil, fun k hk => by
  rcases hk with (hk | ⟨e, he, _⟩) | ⟨e, he, _⟩
  · simp [Value.ownBlock] at hk
  · simp at he
  · simp at he⟩
theorem MV.ok (h : MV w v D O) : DOk D := by obtain ⟨l, _, _, h3, _⟩ := h; exact h3
theorem MV.shape (h : MV w v D O) : ∃ a n cap, v = .slice a n cap := by
  obtain ⟨l, h1, _⟩ := h
  obtain ⟨a, cap, e⟩ := h1.shape
  exact ⟨a, _, cap, e⟩
end
/-- What a clone leaves. -/
def VcP (w : World) (D : Db) (x : Ending) (w' : World) : Prop := ∃ (g n : Nat) (P : Nat → Prop), x = .returned (.agg #[.slice (some ⟨g, 0, none⟩) n n]) ∧ MV w' (.slice (some ⟨g, 0, none⟩) n n) D P ∧ (∀ k, P k → w.heap.size ≤ k ∧ k < w'.heap.size) ∧ Only (fun _ => False) w w'
theorem vclone_any {w : World} {v : Value} {D : Db} {O : Nat → Prop} {dk o : Nat} (c0 : w.cell? ⟨dk, o, none⟩ = some v) (h : MV w v D O) : Calls Tryz.prog 88 #[.pointer (some ⟨dk, o, none⟩)] w (VcP w D) := by
  obtain ⟨l, h1, h2, h3, h4⟩ := h
  refine (mdbClone_any c0 h1).mono ?_
  rintro e w' ⟨g, n, l', rfl, M, ht, hn, o1⟩
  exact ⟨g, n, fun k => MLm (.slice (some ⟨g, 0, none⟩) n n) l' k ∨ MLi l' k, rfl, ⟨l', M, by rw [ht, h2], h3, fun k hk => hk⟩, fun k hk => ⟨hn k hk, M.lt k hk⟩, o1⟩
/-- The record of commits: none, or one. -/
def HisY (w : World) (hv : Value) (O : Nat → Prop) : Option Db → Prop
  | none => hv = .slice none 0 0
  | some X => ∃ v, w.ownsRow 0 37 1 hv 1 [v] ∧ MV w v X O ∧ ∀ k, hv.ownBlock = some k → O k
section
variable {w w' : World} {hist : Option Db}
theorem HisY.keep {B O : Nat → Prop} {hv : Value} (h : HisY w hv O hist) (ho : Only B w w') (hB : ∀ k, O k → ¬ B k) : HisY w' hv O hist := by
  cases hist with
  | none => exact h
  | some X =>
    obtain ⟨v, h1, h2, h3⟩ := h
    exact ⟨v, ownsRow_keep h1 ho (fun k hk => hB k (h3 k hk)), h2.keep ho hB, h3⟩
theorem HisY.mono {O O' : Nat → Prop} {hv : Value} (h : HisY w hv O hist) (hO : ∀ k, O k → O' k) : HisY w hv O' hist := by
  cases hist with
  | none => exact h
  | some X =>
    obtain ⟨v, h1, h2, h3⟩ := h
    exact ⟨v, h1, h2.mono hO, fun k hk => hO k (h3 k hk)⟩
theorem HisY.shape {O : Nat → Prop} {hv : Value} (h : HisY w hv O hist) : ∃ x n cap, hv = .slice x n cap ∧ n = hist.toList.length := by
  cases hist with
  | none => exact ⟨none, 0, 0, h, rfl⟩
  | some X =>
    obtain ⟨v, h1, _⟩ := h
    obtain ⟨x, cap, e⟩ := ownsRow_shape h1
    exact ⟨x, 1, cap, e, rfl⟩
end
def mgC (k : Nat) (bv hv : Value) (got : Int) : Array Value := #[.pointer (some ⟨k, 0, none⟩), bv, hv, .int .i64 got]
/-- The model: what it shows (M), what was committed at the mark (U), the record; H: all its blocks. -/
structure NX (w : World) (m : Nat) (M : Mu) (U : Db) (hist : Option Db) (H : Nat → Prop) : Prop where
  ex : ∃ k bv hv got P O, Has w m (mgC k bv hv got) 152 ∧ MX w k M P ∧ MV w bv U O ∧ HisY w hv O hist ∧ (∀ b, P b → ¬ O b ∧ H b ∧ b ≠ m) ∧ (∀ b, O b → H b ∧ b ≠ m)
  hm : H m
  lt : ∀ b, H b → b < w.heap.size
section
variable {w w' : World} {m : Nat} {M M' : Mu} {U : Db} {hist : Option Db} {H : Nat → Prop}
theorem NX.keep {B : Nat → Prop} (h : NX w m M U hist H) (ho : Only B w w') (hB : ∀ b, H b → ¬ B b) : NX w' m M U hist H := by
  obtain ⟨k, bv, hv, got, P, O, h1, h2, h3, h4, h5, h6⟩ := h.ex
  exact ⟨⟨k, bv, hv, got, P, O, h1.keep ho (hB m h.hm), h2.keep ho (fun b hb => hB b (h5 b hb).2.1), h3.keep ho (fun b hb => hB b (h6 b hb).1), h4.keep ho (fun b hb => hB b (h6 b hb).1), h5, h6⟩, h.hm, fun b hb => Nat.lt_of_lt_of_le (h.lt b hb) ho.size⟩
theorem NX.quiet (h : NX w m M U hist H) (ho : Only (fun _ => False) w w') : NX w' m M U hist H := h.keep ho (fun _ _ e => e)
theorem NX.mono {H' : Nat → Prop} (h : NX w m M U hist H) (hH : ∀ b, H b → H' b) (hl : ∀ b, H' b → b < w.heap.size) : NX w m M U hist H' := by
  obtain ⟨k, bv, hv, got, P, O, h1, h2, h3, h4, h5, h6⟩ := h.ex
  exact ⟨⟨k, bv, hv, got, P, O, h1, h2, h3, h4, fun b hb => ⟨(h5 b hb).1, hH b (h5 b hb).2.1, (h5 b hb).2.2⟩, fun b hb => ⟨hH b (h6 b hb).1, (h6 b hb).2⟩⟩, hH m h.hm, hl⟩
theorem NX.ml (h : NX w m M U hist H) : m < w.heap.size := h.lt m h.hm
/-- Its Multi, which may turn. -/
theorem NX.turn (h : NX w m M U hist H) : ∃ k P, MX w k M P ∧ w.cell? ⟨m, 0, none⟩ = some (.pointer (some ⟨k, 0, none⟩)) ∧ (∀ b, P b → H b) ∧ ∀ {M' : Mu} {P' B : Nat → Prop} {w' : World}, MX w' k M' P' → (∀ b, P' b → P b ∨ w.heap.size ≤ b) → Only B w w' → (∀ b, B b → P b) → NX w' m M' U hist (Ext H w w') ∧ Only H w w' := by
  obtain ⟨k, bv, hv, got, P, O, h1, h2, h3, h4, h5, h6⟩ := h.ex
  refine ⟨k, P, h2, by rw [h1.cell]; rfl, fun b hb => (h5 b hb).2.1, ?_⟩
  intro M' P' B w' X hP' oB hB
  have oo : Only P w w' := oB.mono (fun b _ c => hB b c)
  have nO : ∀ b, O b → ¬ P b := fun b hb c => (h5 b c).1 hb
  refine ⟨⟨⟨k, bv, hv, got, P', O, h1.keep oo (fun c => (h5 m c).2.2 rfl), X, h3.keep oo nO, h4.keep oo nO, fun b hb => ?_, fun b hb => ⟨.inl (h6 b hb).1, (h6 b hb).2⟩⟩, .inl h.hm, Ext.in h.lt oo.size⟩, oo.mono (fun b _ c => (h5 b c).2.1)⟩
  rcases hP' b hb with c | c
  · exact ⟨(h5 b c).1, .inl (h5 b c).2.1, (h5 b c).2.2⟩
  · exact ⟨fun d => (by have := h.lt b (h6 b d).1; omega), .inr ⟨c, X.lt b hb⟩, fun d => (by have := h.ml; omega)⟩
theorem Ext.old {P : Nat → Prop} {b : Nat} (h : Ext P w w' b) : P b ∨ w.heap.size ≤ b := h.imp id (fun c => c.1)
theorem NX.self (h : NX w m M U hist H) : NX w m M U hist (Ext H w w) ∧ Only H w w := ⟨h.mono (fun b hb => .inl hb) (Ext.in h.lt (Nat.le_refl _)), Only.refl _ _⟩
theorem MmS.z : MmS Mm.z (Mu0 []) := ⟨rfl, fun j hj => DOk.nil, fun s hs => rfl, fun s i t hs hi => (by cases hi), fun s nm hs _ => rfl, fun s hs h => (by cases h), fun s i hs hi _ => rfl, fun s hs => rfl⟩
set_option maxRecDepth 100000 in
set_option maxHeartbeats 4000000 in
theorem xnnew_any (w : World) : Calls Tryz.prog 24 #[] w fun e w' => ∃ n H', e = .returned (.pointer (some ⟨n, 0, none⟩)) ∧ NX w' n (Mu0 []) [] none H' ∧ (∀ b, H' b → w.heap.size ≤ b) ∧ Only (fun _ => False) w w' := by
  have N0 := MMt.new w
  have oo : Only (fun _ => False) w (w.alloc (.cells #[.slice none 0 0, .bool false, .bool false, .bool false, .bool false, .int .i64 0, .int .i64 0, .int .i64 0, .int .i64 0, .int .i64 0, .int .i64 0, .int .i64 0, .int .i64 0, .int .i64 0, .int .i64 0, .int .i64 0, .int .i64 0, .slice none 0 0, .slice none 0 0, .slice none 0 0, .slice none 0 0] 149)) := (Only.refl _ w).alloc _
  have HP := hide (show ∃ H', NX ((w.alloc (.cells #[.slice none 0 0, .bool false, .bool false, .bool false, .bool false, .int .i64 0, .int .i64 0, .int .i64 0, .int .i64 0, .int .i64 0, .int .i64 0, .int .i64 0, .int .i64 0, .int .i64 0, .int .i64 0, .int .i64 0, .int .i64 0, .slice none 0 0, .slice none 0 0, .slice none 0 0, .slice none 0 0] 149)).alloc (.cells #[.pointer (some ⟨w.heap.size, 0, none⟩), .slice none 0 0, .slice none 0 0, .int .i64 0] 152)) (w.heap.size + 1) (Mu0 []) [] none H' ∧ (∀ b, H' b → w.heap.size ≤ b) ∧ Only (fun _ => False) w ((w.alloc (.cells #[.slice none 0 0, .bool false, .bool false, .bool false, .bool false, .int .i64 0, .int .i64 0, .int .i64 0, .int .i64 0, .int .i64 0, .int .i64 0, .int .i64 0, .int .i64 0, .int .i64 0, .int .i64 0, .int .i64 0, .int .i64 0, .slice none 0 0, .slice none 0 0, .slice none 0 0, .slice none 0 0] 149)).alloc (.cells #[.pointer (some ⟨w.heap.size, 0, none⟩), .slice none 0 0, .slice none 0 0, .int .i64 0] 152)) from by
    have w1s : (w.alloc (.cells #[.slice none 0 0, .bool false, .bool false, .bool false, .bool false, .int .i64 0, .int .i64 0, .int .i64 0, .int .i64 0, .int .i64 0, .int .i64 0, .int .i64 0, .int .i64 0, .int .i64 0, .int .i64 0, .int .i64 0, .int .i64 0, .slice none 0 0, .slice none 0 0, .slice none 0 0, .slice none 0 0] 149)).heap.size = w.heap.size + 1 := by simp
    generalize w.alloc (.cells #[.slice none 0 0, .bool false, .bool false, .bool false, .bool false, .int .i64 0, .int .i64 0, .int .i64 0, .int .i64 0, .int .i64 0, .int .i64 0, .int .i64 0, .int .i64 0, .int .i64 0, .int .i64 0, .int .i64 0, .int .i64 0, .slice none 0 0, .slice none 0 0, .slice none 0 0, .slice none 0 0] 149) = w1 at *
    have o1 : Only (fun _ => False) w1 (w1.alloc (.cells #[.pointer (some ⟨w.heap.size, 0, none⟩), .slice none 0 0, .slice none 0 0, .int .i64 0] 152)) := (Only.refl _ w1).alloc _
    have B : Has (w1.alloc (.cells #[.pointer (some ⟨w.heap.size, 0, none⟩), .slice none 0 0, .slice none 0 0, .int .i64 0] 152)) (w.heap.size + 1) (mgC w.heap.size (.slice none 0 0) (.slice none 0 0) 0) 152 := Has.new' _ _ _ _ (by omega)
    have hA : ∀ b, Mm.z.A w.heap.size b → b = w.heap.size := fun b hb => by
      rcases hb with (c | ⟨_, _, c⟩) | ⟨_, _, c⟩
      · exact c
      · rcases c with c | ⟨_, c, _⟩
        · cases c
        · cases c
      · obtain ⟨_, c, _⟩ := c
        cases c
    have bl := B.lt
    refine ⟨fun b => b = w.heap.size ∨ b = w.heap.size + 1, ⟨⟨w.heap.size, _, _, 0, fun b => b = w.heap.size, fun _ => False, B, ⟨⟨Mm.z, N0.quiet o1, MmS.z, hA⟩, fun b hb => by omega⟩, MV.nil _, rfl, fun b hb => ⟨fun e => e, .inl hb, by omega⟩, fun b hb => hb.elim⟩, .inr rfl, fun b hb => by omega⟩, fun b hb => by omega, oo.trans o1 (fun _ _ e => e)⟩)
  clear N0 oo
  go_enter Tryz.func24, Tryz.ntmps24
  go_wp2_with fail
  go_ret
  obtain ⟨H', h1, h2, h3⟩ := unhide HP
  exact ⟨_, H', rfl, h1, h2, h3⟩
set_option maxRecDepth 100000 in
set_option maxHeartbeats 4000000 in
theorem xnmark_any (h : NX w m M U hist H) : Calls Tryz.prog 25 #[.pointer (some ⟨m, 0, none⟩)] w fun e w' => e = .returned (.tuple #[]) ∧ NX w' m M M.com none (Ext H w w') ∧ Only (fun b => b = m) w w' := by
  obtain ⟨k, bv, hv, got, P, O, h1, h2, h3, h4, h5, h6⟩ := h.ex
  have c0 : w.cell? ⟨m, 0, none⟩ = some (.pointer (some ⟨k, 0, none⟩)) := by rw [h1.cell]; rfl
  obtain ⟨Z, hZ, hS, hA⟩ := h2.ex
  have C1 := hide (mdbClone_any (dk := k) (o := 0) hZ.c0 (hZ.ml 0 (by omega)))
  have kl := h2.kl
  have ml := h.ml
  obtain ⟨ba, bn, bc, hbv⟩ := h3.shape
  obtain ⟨ha, hn, hc, hhv, _⟩ := h4.shape
  have hcom : (Z.l 0).map (·.t) = M.com := hS.com
  have hok := hS.cok
  have HH := hide (And.intro h (And.intro h1 (And.intro h2 (And.intro h5 (And.intro hcom (And.intro hok (And.intro hbv hhv)))))))
  clear h h1 h2 h3 h4 h5 h6 hZ hS hA hcom hok hbv hhv
  go_enter Tryz.func25, Tryz.ntmps25
  go_wp2_with fail
  refine (unhide C1).mono ?_
  rintro e w1 ⟨g, n, l', rfl, hM, ht, hf, o1⟩
  clear C1
  obtain ⟨h, h1, h2, h5, hcom, hok, hbv, hhv⟩ := unhide HH
  have m1 := h1.keep o1 (fun e => e)
  have q1 := m1.cell 1
  have q2 := m1.cell 2
  have q3 := m1.cell 3
  have f1 := m1.free 1
  have f2 := m1.free 2
  have f3 := m1.free 3
  have ml1 := m1.lt
  simp [mgC] at q1 q2 q3
  rw [hbv] at q1
  rw [hhv] at q2
  have m2 := ((m1.setCell 1 (.slice (some ⟨g, 0, none⟩) n n)).setCell 2 (.slice none 0 0)).setCell 3 (.int .i64 0)
  have o2 : Only (fun b => b = m) w1 (((w1.setCell ⟨m, 1, none⟩ (.slice (some ⟨g, 0, none⟩) n n)).setCell ⟨m, 2, none⟩ (.slice none 0 0)).setCell ⟨m, 3, none⟩ (.int .i64 0)) := ((only1 (p := m) _ _).trans (only1 (p := m) _ _) (fun _ _ h => h)).trans (only1 (p := m) _ _) (fun _ _ h => h)
  have HP := hide (show NX (((w1.setCell ⟨m, 1, none⟩ (.slice (some ⟨g, 0, none⟩) n n)).setCell ⟨m, 2, none⟩ (.slice none 0 0)).setCell ⟨m, 3, none⟩ (.int .i64 0)) m M M.com none (Ext H w (((w1.setCell ⟨m, 1, none⟩ (.slice (some ⟨g, 0, none⟩) n n)).setCell ⟨m, 2, none⟩ (.slice none 0 0)).setCell ⟨m, 3, none⟩ (.int .i64 0))) ∧ Only (fun b => b = m) w (((w1.setCell ⟨m, 1, none⟩ (.slice (some ⟨g, 0, none⟩) n n)).setCell ⟨m, 2, none⟩ (.slice none 0 0)).setCell ⟨m, 3, none⟩ (.int .i64 0)) from by
    have oo : Only (fun b => b = m) w _ := (o1.mono (fun _ _ e => e.elim)).trans o2 (fun _ _ e => e)
    have mlw := h.ml
    have M3 := hM.keep o2 (fun b hb e => by have := hf b (.inl hb); have e' : b = m := e; omega) (fun b hb e => by have := hf b (.inr hb); have e' : b = m := e; omega)
    refine ⟨⟨⟨k, _, _, 0, P, fun b => MLm (.slice (some ⟨g, 0, none⟩) n n) l' b ∨ MLi l' b, m2, h2.keep oo (fun b hb e => (h5 b hb).2.2 e), ⟨l', M3, by rw [ht]; exact hcom, hok, fun b hb => hb⟩, rfl, fun b hb => ⟨fun c => ?_, .inl (h5 b hb).2.1, (h5 b hb).2.2⟩, fun b hb => ⟨.inr ⟨hf b hb, M3.lt b hb⟩, fun e => ?_⟩⟩, .inl h.hm, Ext.in h.lt oo.size⟩, oo⟩
    · have := hf b c; have := h2.lt b hb; omega
    · have := hf b hb; omega)
  clear HH h h1 h2 h5 hM ht hf o1 m1 m2 o2 hcom hok hbv hhv
  go_wp2_with fail
  go_end0
  exact ⟨rfl, unhide HP⟩
end
end Go.Proofs.Qxb6500414aGreat
