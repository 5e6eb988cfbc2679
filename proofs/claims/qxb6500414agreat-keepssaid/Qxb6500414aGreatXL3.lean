/-
  OWN WORK. THE TXN LAW: the real calls as the law plays them: each with its answer.
-/
import Derived.Test.Qxb6500414aGreatXL2
namespace Go.Proofs.Qxb6500414aGreat
open Go.RowKit Go.PlainAid
set_option linter.unusedSimpArgs false
set_option linter.unusedVariables false

section
variable {q : Gnd} {w w0 w' w1 wF : World} {g x : Nat} {M M' : Mu} {K : Nat → Prop} {kd a bb cc : Int} {s t : ByteArray} {an : An} {m : AnM} {e : Ending}
theorem PrP.only (h : PrP q w g x M K kd a bb cc s t e w') : Only (fun k => q.A k ∨ K k) w w' := by
  obtain ⟨M', an, m, he, hop, hA, hb, hh⟩ := h
  rcases hh with ⟨K', r, hk, hs, hc, ho⟩ | ⟨h1, h2, h3, rs, com, wa, wb, K', r, hw, hi, hk, ho⟩
  · exact ho.mono (fun k _ h => h.imp Gnd.S_A id)
  · exact ho
/-- The law's own blocks, made ahead of the call, have turned. -/
theorem PrP.fin {B : Nat → Prop} (h : PrP q w1 g x M K kd a bb cc s t e w') (o0 : Only (fun _ => False) w w1) (ho : Only B w' wF) (hB : ∀ k, B k → w.heap.size ≤ k ∧ k < w1.heap.size) (hKl : ∀ k, K k → k < w.heap.size) (hAl : ∀ k, q.A k ∨ k = x → k < w.heap.size) : PrP q w g x M K kd a bb cc s t e wF := by
  obtain ⟨M', an, m, he, hop, hA, hb, hh⟩ := h
  have s0 := o0.size
  refine ⟨M', an, m, he, hop, hA.keep ho (fun k h c => by have := hb k h; have := hB k c; omega), fun k h => by have := hb k h; omega, ?_⟩
  have hBx : ∀ k, k = x → ¬ B k := fun k h c => by have := hAl k (.inr h); have := hB k c; omega
  rcases hh with ⟨K', r, hk, hs, hc, h1⟩ | ⟨h1, h2, h3, rs, com, wa, wb, K', r, hw, hi, hk, h4⟩
  · refine .inl ⟨K', r.keep ho (fun k h c => ?_), fun k h => (hk k h).imp id (fun c => by omega), hs, hc, ?_⟩
    · rcases h with h | h | h
      · have := hAl k (.inl h); have := hB k c; omega
      · exact hBx k h c
      · rcases hk k h with h | h
        · have := hKl k h; have := hB k c; omega
        · have := hB k c; omega
    · exact Only.late ((o0.mono (fun _ _ e => e.elim)).trans h1 (fun _ _ h => h)) ho (fun k h => (hB k h).1)
  · refine .inr ⟨h1, h2, h3, rs, com, wa, wb, K', r.keep ho (fun k h c => ?_), by omega, hi, fun k h => (hk k h).imp id (fun c => by omega), ?_⟩
    · rcases h with h | h | h
      · rcases Gnd.done_A h with h | h
        · have := hAl k (.inl h); have := hB k c; omega
        · have := hB k c; omega
      · exact hBx k h c
      · rcases hk k h with h | h
        · have := hKl k h; have := hB k c; omega
        · have := hB k c; omega
    · exact Only.late ((o0.mono (fun _ _ e => e.elim)).trans h4 (fun _ _ h => h)) ho (fun k h => (hB k h).1)
theorem anEq (e : Int) : ∃ e' n, anE e = { An.z with e := e', n := n } := ⟨e, 0, rfl⟩
theorem anNq (n : Int) : ∃ e' n', anN n = { An.z with e := e', n := n' } := ⟨0, n, rfl⟩
/-- An answer of numbers, played. -/
def PrQ (q : Gnd) (w : World) (g x : Nat) (M : Mu) (K : Nat → Prop) (kd a bb cc : Int) (s t : ByteArray) (an : An) (w' : World) : Prop := PrP q w g x M K kd a bb cc s t (.returned (.agg (anC AnM.z an))) w'
theorem RX.rp (R : RX q w g x M K) : Rp q w g x M K w := ⟨K, R, fun k h => .inl h, Only.refl _ _⟩
theorem q1_any (R : RX q w g x M K) (a bb cc : Int) (s t : ByteArray) : Calls Tryz.prog 41 #[.pointer (some ⟨g, 0, none⟩), .int .i64 a] w fun e w' => ∃ z, e = .returned (.int .i64 z) ∧ PrQ q w g x M K 1 a bb cc s t (anE z) w' :=
  (rbegin_any R a).mono (by
    rintro e w1 (⟨z, he, h0, hz, hp⟩ | ⟨he, hg, ha, hp⟩)
    · exact ⟨z, he, PrP.p hp (.bgN z hz) (anEq z) rfl⟩
    · exact ⟨0, he, PrP.p hp (.bgY hg ha) (anEq 0) rfl⟩)
theorem q2_any (R : RX q w g x M K) (hrc : q.recs.length ≤ 300) (a bb cc : Int) (s t : ByteArray) : Calls Tryz.prog 42 #[.pointer (some ⟨g, 0, none⟩), .int .i64 a] w fun e w' => ∃ z, e = .returned (.int .i64 z) ∧ PrQ q w g x M K 2 a bb cc s t (anE z) w' :=
  (rcommit_any R hrc a).mono (by
    rintro e w1 (⟨z, he, h0, hz, hp⟩ | ⟨he, ha, ⟨hp, hc⟩ | hp⟩)
    · subst hz
      exact ⟨_, he, PrP.p hp (.coN h0) (anEq _) rfl⟩
    · exact ⟨0, he, PrP.p hp (.coY ha) (anEq 0) hc⟩
    · exact ⟨0, he, PrP.c hp (.coY ha) (.inl rfl)⟩)
theorem q3_any (R : RX q w g x M K) (a bb cc : Int) (s t : ByteArray) : Calls Tryz.prog 43 #[.pointer (some ⟨g, 0, none⟩), .int .i64 a] w fun e w' => ∃ z, e = .returned (.int .i64 z) ∧ PrQ q w g x M K 3 a bb cc s t (anE z) w' :=
  (rroll_any R a).mono (by
    rintro e w1 (⟨z, he, h0, hz, hp⟩ | ⟨he, ha, hp⟩)
    · subst hz
      exact ⟨_, he, PrP.p hp (.roN h0) (anEq _) rfl⟩
    · exact ⟨0, he, PrP.p hp (.roY ha) (anEq 0) rfl⟩)
theorem q_sc {kd : Int} {Rz : Db × Int} (hk : cmK kd) (hop : ∀ M' an, MuSc M a Rz M' an → MuOp M a bb cc s t kd M' an) (h : (∃ z, e = .returned (.int .i64 z) ∧ z ≠ 0 ∧ (M.AlZ a z ∨ (M.AlZ a 0 ∧ z = Rz.2)) ∧ Rp q w g x M K w1) ∨ (e = .returned (.int .i64 0) ∧ M.AlZ a 0 ∧ Rz.2 = 0 ∧ Rc q w g x (M.schema Rz.1) K w1)) : ∃ z, e = .returned (.int .i64 z) ∧ PrQ q w g x M K kd a bb cc s t (anE z) w1 := by
  rcases h with ⟨z, he, h0, hz, hp⟩ | ⟨he, ha, hz, hp⟩
  · exact ⟨z, he, PrP.p hp (hop _ _ (.inl ⟨z, h0, hz, rfl, rfl⟩)) (anEq z) rfl⟩
  · exact ⟨0, he, PrP.c hp (hop _ _ (.inr ⟨ha, hz, rfl, rfl⟩)) hk⟩
theorem q4_any (R : RX q w g x M K) (hrc : q.recs.length ≤ 300) (a bb cc : Int) (s t : ByteArray) {cv : Value} (hc : OwnC w cv (colsP t)) (hcq : ∀ k, cv.ownBlock = some k → ¬ q.S k) (hc4 : (colsP t).length ≤ 100) : Calls Tryz.prog 45 #[.pointer (some ⟨g, 0, none⟩), .int .i64 a, .string s, cv, .int .i64 bb] w fun e w' => ∃ z, e = .returned (.int .i64 z) ∧ PrQ q w g x M K 4 a bb cc s t (anE z) w' :=
  (rcreateT_any R hrc a s hc hcq hc4 bb).mono (fun e w1 h => q_sc (.inr (.inl rfl)) (fun M' an h => .crt M' an h) h)
theorem q5_any (R : RX q w g x M K) (hrc : q.recs.length ≤ 300) (a bb cc : Int) (s t : ByteArray) : Calls Tryz.prog 47 #[.pointer (some ⟨g, 0, none⟩), .int .i64 a, .string s] w fun e w' => ∃ z, e = .returned (.int .i64 z) ∧ PrQ q w g x M K 5 a bb cc s t (anE z) w' :=
  (rdropT_any R hrc a s).mono (fun e w1 h => q_sc (.inr (.inr (.inl rfl))) (fun M' an h => .drp M' an h) h)
theorem q6_any (R : RX q w g x M K) (hrc : q.recs.length ≤ 300) (a bb cc : Int) (s t : ByteArray) : Calls Tryz.prog 48 #[.pointer (some ⟨g, 0, none⟩), .int .i64 a, .string s, .int .i64 bb] w fun e w' => ∃ z, e = .returned (.int .i64 z) ∧ PrQ q w g x M K 6 a bb cc s t (anE z) w' :=
  (rcreateI_any R hrc a s bb).mono (fun e w1 h => q_sc (.inr (.inr (.inr rfl))) (fun M' an h => .cix M' an h) h)
theorem q_wr {kd : Int} {f : Db → Db × Int} (hop : ∀ M' an, MuWr M a s f M' an → MuOp M a bb cc s t kd M' an) (h : RwP q w g x M K a s f e w1) : ∃ z, e = .returned (.int .i64 z) ∧ PrQ q w g x M K kd a bb cc s t (anE z) w1 := by
  rcases h with ⟨z, he, h0, hz, hp⟩ | ⟨z, he, ha, hz, hp⟩
  · exact ⟨z, he, PrP.p hp (hop _ _ (.inl ⟨z, h0, hz, rfl, rfl⟩)) (anEq z) rfl⟩
  · subst hz
    exact ⟨_, he, PrP.p hp (hop _ _ (.inr ⟨ha, rfl, rfl⟩)) (anEq _) rfl⟩
theorem q7_any (R : RX q w g x M K) (a bb cc : Int) (s t : ByteArray) {ra : Option Addr} {rn rc : Nat} (hr : OwnV w (.slice ra rn rc) (rowP t)) (hrq : ∀ k, (Value.slice ra rn rc).ownBlock = some k → ¬ q.S k) (hr4 : (rowP t).length ≤ 100) : Calls Tryz.prog 50 #[.pointer (some ⟨g, 0, none⟩), .int .i64 a, .string s, .slice ra rn rc] w fun e w' => ∃ z, e = .returned (.int .i64 z) ∧ PrQ q w g x M K 7 a bb cc s t (anE z) w' :=
  (rinsert_any R a s hr hrq hr4 (rowP_wf t)).mono (fun e w1 h => q_wr (fun M' an h => .ins M' an h) h)
theorem q8_any (R : RX q w g x M K) (a bb cc : Int) (s t : ByteArray) {ra : Option Addr} {rn rc : Nat} (hr : OwnV w (.slice ra rn rc) (rowP t)) (hrq : ∀ k, (Value.slice ra rn rc).ownBlock = some k → ¬ q.S k) (hr4 : (rowP t).length ≤ 100) : Calls Tryz.prog 52 #[.pointer (some ⟨g, 0, none⟩), .int .i64 a, .string s, .slice ra rn rc] w fun e w' => ∃ z, e = .returned (.int .i64 z) ∧ PrQ q w g x M K 8 a bb cc s t (anE z) w' :=
  (rupdate_any R a s hr hrq hr4 (rowP_wf t)).mono (fun e w1 h => q_wr (fun M' an h => .upd M' an h) h)
theorem q9_any (R : RX q w g x M K) (a bb cc : Int) (s t : ByteArray) : Calls Tryz.prog 54 #[.pointer (some ⟨g, 0, none⟩), .int .i64 a, .string s, vlA (fstP t)] w fun e w' => ∃ z, e = .returned (.int .i64 z) ∧ PrQ q w g x M K 9 a bb cc s t (anE z) w' :=
  (rdelete_any R a s (fstP t) (fstP_wf t)).mono (fun e w1 h => q_wr (fun M' an h => .del M' an h) h)
/-- The last store: an answer's nine cells. -/
theorem set9 {w : World} {k : Nat} {T : TypeId} {a0 a1 a2 a3 a4 a5 a6 a7 a8 : Value} (h : Has w k #[a0, a1, a2, a3, a4, a5, a6, a7, a8] T) (v0 v1 v2 v3 v4 v5 v6 v7 v8 : Value) : Has (((((((((w.setCell ⟨k, 0, none⟩ v0).setCell ⟨k, 1, none⟩ v1).setCell ⟨k, 2, none⟩ v2).setCell ⟨k, 3, none⟩ v3).setCell ⟨k, 4, none⟩ v4).setCell ⟨k, 5, none⟩ v5).setCell ⟨k, 6, none⟩ v6).setCell ⟨k, 7, none⟩ v7).setCell ⟨k, 8, none⟩ v8) k #[v0, v1, v2, v3, v4, v5, v6, v7, v8] T := by
  have := ((((((((h.setCell 0 v0).setCell 1 v1).setCell 2 v2).setCell 3 v3).setCell 4 v4).setCell 5 v5).setCell 6 v6).setCell 7 v7).setCell 8 v8
  simp only [List.setIfInBounds_toArray, List.set_cons_zero, List.set_cons_succ] at this
  exact this
theorem only9 (w : World) (k : Nat) (v0 v1 v2 v3 v4 v5 v6 v7 v8 : Value) : Only (fun b => b = k) w (((((((((w.setCell ⟨k, 0, none⟩ v0).setCell ⟨k, 1, none⟩ v1).setCell ⟨k, 2, none⟩ v2).setCell ⟨k, 3, none⟩ v3).setCell ⟨k, 4, none⟩ v4).setCell ⟨k, 5, none⟩ v5).setCell ⟨k, 6, none⟩ v6).setCell ⟨k, 7, none⟩ v7).setCell ⟨k, 8, none⟩ v8) :=
  ((((((((only1 (p := k) _ _).trans (only1 (p := k) _ _) (fun _ _ h => h)).trans (only1 (p := k) _ _) (fun _ _ h => h)).trans (only1 (p := k) _ _) (fun _ _ h => h)).trans (only1 (p := k) _ _) (fun _ _ h => h)).trans (only1 (p := k) _ _) (fun _ _ h => h)).trans (only1 (p := k) _ _) (fun _ _ h => h)).trans (only1 (p := k) _ _) (fun _ _ h => h)).trans (only1 (p := k) _ _) (fun _ _ h => h)
end
end Go.Proofs.Qxb6500414aGreat
