/-
  OWN WORK. QUERY: holds; the comparisons in memory; the plain span and plan.
-/
import Derived.Test.Qxb6500412aGreatS18
namespace Go.Proofs.Qxb6500412aGreat
open Go.RowKit Go.PlainAid
set_option linter.unusedSimpArgs false
set_option linter.unusedVariables false

def opL (op : Int) : Bool := decide (op % 2 = 1)
def opE (op : Int) : Bool := decide (op / 2 % 2 = 1)
def opG (op : Int) : Bool := decide (op / 4 % 2 = 1)
/-- The comparison op allows what Cmp answered. -/
def holdB (c op : Int) : Bool := (decide (c < 0) && opL op) || (decide (c = 0) && opE op) || (decide (c > 0) && opG op)
def okOp (op : Int) : Prop := 0 ≤ op ∧ op < 8
theorem okOp.cases_ {op : Int} (h : okOp op) : op = 0 ∨ op = 1 ∨ op = 2 ∨ op = 3 ∨ op = 4 ∨ op = 5 ∨ op = 6 ∨ op = 7 := by
  obtain ⟨h1, h2⟩ := h
  omega
set_option maxRecDepth 100000 in
set_option maxHeartbeats 4000000 in
theorem sqholds_any (c op : Int) (ho : okOp op) (w : World) : Calls Tryz.prog 314 #[.int .i64 c, .int .i64 op] w fun e w' => e = .returned (.bool (holdB c op)) ∧ w = w' := by
  rcases Int.lt_trichotomy c 0 with h | h | h
  · have a1 : decide (c < 0) = true := decide_eq_true h
    have a2 : (c == 0) = false := by simp; omega
    have a3 : decide (c > 0) = false := decide_eq_false (by omega)
    have a4 : ¬ (0 < c) := by omega
    have e : holdB c op = opL op := by unfold holdB; simp [a1, a3]; intro h1; omega
    rw [e]
    unfold opL
    rcases ho.cases_ with rfl | rfl | rfl | rfl | rfl | rfl | rfl | rfl
    all_goals
      clear e ho
      go_enter Tryz.func314, Tryz.ntmps314
      go_wp2_with fail
      go_ret
      exact ⟨by rfl, rfl⟩
  · subst h
    have e : holdB 0 op = opE op := by unfold holdB; simp
    rw [e]
    unfold opE
    rcases ho.cases_ with rfl | rfl | rfl | rfl | rfl | rfl | rfl | rfl
    all_goals
      clear e ho
      go_enter Tryz.func314, Tryz.ntmps314
      go_wp2_with fail
      go_ret
      exact ⟨by rfl, rfl⟩
  · have a1 : decide (c < 0) = false := decide_eq_false (by omega)
    have a2 : (c == 0) = false := by simp; omega
    have a3 : decide (c > 0) = true := decide_eq_true h
    have a4 : ¬ (c < 0) := by omega
    have e : holdB c op = opG op := by unfold holdB; simp [a1, a3]; intro h1; omega
    rw [e]
    unfold opG
    rcases ho.cases_ with rfl | rfl | rfl | rfl | rfl | rfl | rfl | rfl
    all_goals
      clear e ho
      go_enter Tryz.func314, Tryz.ntmps314
      go_wp2_with fail
      go_ret
      exact ⟨by rfl, rfl⟩
/-- Comparisons in memory. -/
def OwnM (w : World) (v : Value) (l : List Cm) : Prop := w.ownsRow 0 300 5 v l.length (cmcs l)
section
variable {w w' : World} {v : Value} {l : List Cm}
theorem OwnM.keep {B : Nat → Prop} (h : OwnM w v l) (ho : Only B w w') (hB : ∀ k, v.ownBlock = some k → ¬ B k) : OwnM w' v l := ownsRow_keep h ho hB
theorem OwnM.quiet (h : OwnM w v l) (ho : Only (fun _ => False) w w') : OwnM w' v l := h.keep ho (fun _ _ e => e)
theorem OwnM.shape (h : OwnM w v l) : ∃ a cap, v = .slice a l.length cap := ownsRow_shape h
theorem cmcs_get : ∀ (l : List Cm) (i : Nat) (c : Cm), l[i]? = some c → ∀ j, j < 5 → (cmcs l)[i * 5 + j]? = (cmC c)[j]?
  | [], i, c, h, j, hj => by simp at h
  | x :: l, 0, c, h, j, hj => by
    simp only [List.getElem?_cons_zero, Option.some.injEq] at h
    subst h
    show (cmC x ++ cmcs l)[0 * 5 + j]? = _
    rw [List.getElem?_append_left (by simp [cmC]; omega)]
    congr 1
    omega
  | x :: l, i + 1, c, h, j, hj => by
    show (cmC x ++ cmcs l)[(i + 1) * 5 + j]? = _
    have e : (i + 1) * 5 + j = (cmC x).length + (i * 5 + j) := by simp [cmC]; omega
    rw [e, List.getElem?_append_right (by omega), Nat.add_sub_cancel_left]
    exact cmcs_get l i c h j hj
theorem OwnM.at_ {a : Option Addr} {n cap : Nat} (h : OwnM w (.slice a n cap) l) {i : Nat} {c : Cm} (hx : l[i]? = some c) : ∃ g, a = some ⟨g, 0, none⟩ ∧ w.cell? ⟨g, i * 5, none⟩ = some (.string c.col) ∧ w.cell? ⟨g, i * 5 + 1, none⟩ = some (.int .i64 c.op) ∧ w.cell? ⟨g, i * 5 + 2, none⟩ = some (.bool c.lit.str) ∧ w.cell? ⟨g, i * 5 + 3, none⟩ = some (.int .i64 c.lit.i) ∧ w.cell? ⟨g, i * 5 + 4, none⟩ = some (.string c.lit.s) := by
  have hi := (List.getElem?_eq_some_iff.1 hx).1
  rcases h.2 with ⟨he, h0⟩ | ⟨g, cap', cur, he, _⟩
  · omega
  · obtain ⟨rfl, _⟩ : a = some ⟨g, 0, none⟩ ∧ True := by
      have := he
      simp at this
      exact ⟨this.1, trivial⟩
    refine ⟨g, rfl, ?_⟩
    have hc := World.ownsRow.cells h (g := g) (by first | exact rfl | simp [Value.ownBlock])
    have a0 : (cmcs l)[i * 5]? = some (.string c.col) := by have := cmcs_get l i c hx 0 (by omega); simpa [cmC] using this
    have a1 : (cmcs l)[i * 5 + 1]? = some (.int .i64 c.op) := by have := cmcs_get l i c hx 1 (by omega); simpa [cmC] using this
    have a2 : (cmcs l)[i * 5 + 2]? = some (.bool c.lit.str) := by have := cmcs_get l i c hx 2 (by omega); simpa [cmC] using this
    have a3 : (cmcs l)[i * 5 + 3]? = some (.int .i64 c.lit.i) := by have := cmcs_get l i c hx 3 (by omega); simpa [cmC] using this
    have a4 : (cmcs l)[i * 5 + 4]? = some (.string c.lit.s) := by have := cmcs_get l i c hx 4 (by omega); simpa [cmC] using this
    have b0 := hc _ _ a0
    have b1 := hc _ _ a1
    have b2 := hc _ _ a2
    have b3 := hc _ _ a3
    have b4 := hc _ _ a4
    rw [addr_add] at b0 b1 b2 b3 b4
    exact ⟨b0, b1, b2, b3, b4⟩
end
/-- A bound: given or not. -/
abbrev Qb := Bool × Vl
def qb0 : Qb := (false, ⟨false, 0, ⟨#[]⟩⟩)
structure Qs where
  n : Nat
  lo : Qb
  hi : Qb
  eq : Qb
def Qs.z : Qs := ⟨0, qb0, qb0, qb0⟩
def spE (c : Cm) (e : Qb) : Qb := if decide (c.op = 2) && !e.1 then (true, c.lit) else e
def spLo (c : Cm) (e : Qb) : Qb := if !opL c.op && (!e.1 || decide (vcmp c.lit e.2 > 0)) then (true, c.lit) else e
def spHi (c : Cm) (e : Qb) : Qb := if !opG c.op && (!e.1 || decide (vcmp c.lit e.2 < 0)) then (true, c.lit) else e
def spB (cols : List Cl) (col : Int) (c : Cm) : Bool := useB c && decide (qcol cols c.col = col)
def spS (cols : List Cl) (col : Int) (s : Qs) (c : Cm) : Qs := if spB cols col c then ⟨s.n + 1, spLo c s.lo, spHi c s.hi, spE c s.eq⟩ else s
/-- The usable comparisons on a column. -/
def spanD (cols : List Cl) (l : List Cm) (col : Int) : Qs := l.foldl (spS cols col) Qs.z
theorem spS_n (cols : List Cl) (col : Int) (s : Qs) (c : Cm) : (spS cols col s c).n ≤ s.n + 1 := by
  unfold spS
  split <;> simp
structure Qp where
  kind : Int
  col : Int
  lo : Qb
  hi : Qb
/-- The road to the rows. -/
def planD (cols : List Cl) (pk ix : Int) (l : List Cm) : Qp :=
  if (spanD cols l pk).eq.1 = true then ⟨1, pk, (spanD cols l pk).eq, (spanD cols l pk).eq⟩
  else if 0 < (spanD cols l pk).n then ⟨2, pk, (spanD cols l pk).lo, (spanD cols l pk).hi⟩
  else if 0 ≤ ix ∧ 0 < (spanD cols l ix).n then ⟨3, ix, (spanD cols l ix).lo, (spanD cols l ix).hi⟩
  else ⟨4, pk, qb0, qb0⟩
end Go.Proofs.Qxb6500412aGreat
