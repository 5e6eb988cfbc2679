/-
  OWN WORK. QUERY: laws for a region that draws its order and stores a value into a row.
-/
import Derived.Test.Qxb6500412aGreatS33
import Derived.Test.Qxb6500412aGreatJG4
namespace Go.Proofs.Qxb6500412aGreat
open Go.RowKit Go.PlainAid
set_option linter.unusedSimpArgs false
set_option linter.unusedVariables false

/-- In a region that draws: the one operation that may come next stores. -/
theorem storeH_any {ops : Array Oper} {o : Oper} {a : Act} {w w1 : World} {Q : Exit → Act → World → Prop} {md : Region.Mode} {S : World → Prop} {fuel : Nat} {listed : Array Bool} (i : Nat) (hr : Region.ready md ops listed = [i]) (hi : ops[i]? = some o) (hd : o.dst = none) (hgd : o.guard = none) (ty : TypeId) (x y : Operand) (ho : o.op = .store ty x y) (ad : Addr) (v : Value) (hx : a.eval x = .pointer (some ad)) (hy : a.eval y = v) (hrun : (storeVar ty ad v).run Tryz.prog w = .ok () w1)
    (hS : S w1) (hK : wpAnyH Tryz.prog md ops Q S fuel (listed.setIfInBounds i true) a w1) : wpAnyH Tryz.prog md ops Q S (fuel + 1) listed a w := by
  refine wpAnyH_ready hr (by simp) (AllReadyH.cons hi (fun K' hK' => ?_) AllReadyH.nil)
  have hw : Region.wanted o (yielded ops a.tmps) = true := by simp [Region.wanted, hgd]
  rw [if_pos hw]
  unfold Oper.wp execOp
  simp only [ho, hx, hy, Instr.storeAt, Instr.sureAddr, Sem.run_bind, Sem.run_pure, Result.andThen_ok, hrun]
  exact hK'.out _ _ hS (fun _ => by rw [hd]; exact hK)
/-- A value put into a row's cells. -/
def setVl (w : World) (g i : Nat) (y : Vl) : World := ((w.setCell ⟨g, i * 3, none⟩ (.bool y.str)).setCell ⟨g, i * 3 + 1, none⟩ (.int .i64 y.i)).setCell ⟨g, i * 3 + 2, none⟩ (.string y.s)
theorem only_setVl (w : World) (g i : Nat) (y : Vl) : Only (fun k => k = g) w (setVl w g i y) := ((only1 _ _).trans (only1 _ _) (fun _ _ h => h)).trans (only1 _ _) (fun _ _ h => h)
theorem OwnV.setv {w : World} {g n cap i : Nat} {l : List Vl} (h : OwnV w (.slice (some ⟨g, 0, none⟩) n cap) l) (hi : i < l.length) (y : Vl) : OwnV (setVl w g i y) (.slice (some ⟨g, 0, none⟩) n cap) (l.set i y) := by
  have hn : n = l.length := by obtain ⟨_, _, e⟩ := h.shape; cases e; rfl
  subst hn
  have h1 := gbrowset (i := i * 3 + 2) (gbrowset (i := i * 3 + 1) (gbrowset (i := i * 3) h (.bool y.str)) (.int .i64 y.i)) (.string y.s)
  rw [← vcs_set l i y] at h1
  unfold OwnV
  rw [List.length_set]
  exact h1
theorem run_store_val {w : World} {g o : Nat} {o0 o1 o2 : Value} (h0 : w.cell? ⟨g, o, none⟩ = some o0) (h1 : w.cell? ⟨g, o + 1, none⟩ = some o1) (h2 : w.cell? ⟨g, o + 2, none⟩ = some o2) (f0 : w.frozen? ⟨g, o, none⟩ = false) (f1 : w.frozen? ⟨g, o + 1, none⟩ = false) (f2 : w.frozen? ⟨g, o + 2, none⟩ = false) (a : Bool) (b : Int) (c : ByteArray) : (storeVar 152 ⟨g, o, none⟩ (.agg #[.bool a, .int .i64 b, .string c])).run Tryz.prog w = .ok () (((w.setCell ⟨g, o, none⟩ (.bool a)).setCell ⟨g, o + 1, none⟩ (.int .i64 b)).setCell ⟨g, o + 2, none⟩ (.string c)) := by
  have hl := cell_lt h0
  go_simp
theorem OwnV.storev {w : World} {g n cap i : Nat} {l : List Vl} (h : OwnV w (.slice (some ⟨g, 0, none⟩) n cap) l) (hi : i < l.length) (y : Vl) : (storeVar 152 ⟨g, i * 3, none⟩ (.agg #[.bool y.str, .int .i64 y.i, .string y.s])).run Tryz.prog w = .ok () (setVl w g i y) := by
  obtain ⟨x, hx⟩ := getE hi
  obtain ⟨g', e, c0, c1, c2⟩ := h.at_ hx
  cases e
  have hn : n = l.length := by obtain ⟨_, _, e⟩ := h.shape; cases e; rfl
  subst hn
  exact run_store_val c0 c1 c2 (gownFree h _) (gownFree h _) (gownFree h _) _ _ _
end Go.Proofs.Qxb6500412aGreat
