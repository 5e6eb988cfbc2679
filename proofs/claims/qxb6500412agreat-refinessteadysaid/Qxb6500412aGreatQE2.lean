/-
  OWN WORK. QUERY's MODEL: check (written by tools/gen_qe2.py).
-/
import Derived.Test.Qxb6500412aGreatQE1
import Derived.Test.Qxb6500412aGreatQM9
import Derived.Test.Qxb6500412aGreatS27
namespace Go.Proofs.Qxb6500412aGreat
open Go.RowKit Go.PlainAid
set_option linter.unusedSimpArgs false
set_option linter.unusedVariables false

def tyM (cols : List Cl) (names : List ByteArray) (vals : List Vl) : Bool := (names.zip vals).any (fun p => p.2.str != colS cols (qcol cols p.1))
def ordN (cols : List Cl) (o : ByteArray) : Bool := decide (o ≠ ⟨#[]⟩) && noC cols o
/-- check, as the model has it. -/
def mchk (cols : List Cl) (pk : Int) (m : Ms) : Int :=
  if m.names.any (noC cols) = true then 14 else if m.wh.any (fun c => noC cols c.col) = true then 14 else if ordN cols m.order = true then 14
  else if m.kind = 9 ∧ m.names.any (fun x => decide (qcol cols x = pk)) = true then 18
  else if m.kind = 9 ∧ tyM cols m.names m.vals = true then 15
  else if m.wh.any (fun c => c.lit.str != colS cols (qcol cols c.col)) = true then 15
  else if m.kind = 9 ∧ m.vals.any (fun v => decide (7 < v.s.size)) = true then 16 else 0
section
variable {cols : List Cl} {pk : Int}
theorem any_cong {α : Type} {l : List α} {p q : α → Bool} (h : ∀ x ∈ l, p x = q x) : l.any p = l.any q := by
  induction l with
  | nil => rfl
  | cons x l ih => rw [List.any_cons, List.any_cons, h x (by simp), ih (fun y hy => h y (by simp [hy]))]
theorem zip_map2 {α β γ : Type} (f : α → β) (g : α → γ) (l : List α) (p : β × γ → Bool) : ((l.map f).zip (l.map g)).any p = l.any (fun x => p (f x, g x)) := by
  induction l with
  | nil => rfl
  | cons x l ih => simp only [List.map_cons, List.zip_cons_cons, List.any_cons, ih]
theorem any_f {α : Type} {l : List α} {p : α → Bool} (h : l.any p = false) {x : α} (hx : x ∈ l) : p x = false := by
  cases hp : p x with
  | false => rfl
  | true => rw [List.any_eq_true.2 ⟨x, hx, hp⟩] at h; cases h
theorem mchk_eq (st : St) (h9 : st.kind = 9 → st.list = [] ∧ st.lits = []) (hn : st.kind ≠ 9 → st.sets = []) : mchk cols pk (Ms.of st) = chkD cols pk st := by
  have hno := ckD_no (cols := cols) (pk := pk) st
  have hpk := ckD_pk (cols := cols) (pk := pk) st
  have hty := ckD_ty (cols := cols) (pk := pk) st
  have hln := ckD_ln (cols := cols) (pk := pk) st
  have hN : (Ms.of st).names.any (noC cols) = (st.list.any (noC cols) || st.sets.any (fun c => noC cols c.col)) := by
    show (st.list ++ st.sets.map (·.col)).any (noC cols) = _
    rw [List.any_append, List.any_map]
    rfl
  have hno2 : (ckD cols pk st).no = (((Ms.of st).names.any (noC cols) || (Ms.of st).wh.any (fun c => noC cols c.col)) || ordN cols st.order) := by
    rw [hno, hN]
    show _ = ((_ || st.wh.any (fun c => noC cols c.col)) || _)
    unfold ordN
    cases (decide (st.order ≠ ⟨#[]⟩) && noC cols st.order) <;> cases st.list.any (noC cols) <;> cases st.sets.any (fun c => noC cols c.col) <;> cases st.wh.any (fun c => noC cols c.col) <;> rfl
  unfold chkD ckE
  rw [hno2, hpk, hty, hln]
  unfold mchk
  have e1 : (Ms.of st).order = st.order := rfl
  have e2 : (Ms.of st).kind = st.kind := rfl
  rw [e1, e2]
  cases a1 : (Ms.of st).names.any (noC cols) with
  | true => rfl
  | false =>
  cases a2 : (Ms.of st).wh.any (fun c => noC cols c.col) with
  | true => rfl
  | false =>
  cases a3 : ordN cols st.order with
  | true => rfl
  | false =>
  have w0 : ∀ c ∈ st.wh, noC cols c.col = false := fun c hc => any_f a2 hc
  have s0 : ∀ c ∈ st.sets, noC cols c.col = false := fun c hc => by
    rw [hN] at a1
    rw [Bool.or_eq_false_iff] at a1
    exact any_f a1.2 hc
  have hw : (Ms.of st).wh.any (fun c => c.lit.str != colS cols (qcol cols c.col)) = st.wh.any (tyB cols) := any_cong (fun c hc => by unfold tyB; rw [w0 c hc]; rfl)
  rw [hw]
  by_cases hk : st.kind = 9
  · obtain ⟨l0, l1⟩ := h9 hk
    have n0 : (Ms.of st).names = st.sets.map (·.col) := by show st.list ++ _ = _; rw [l0]; rfl
    have v0 : (Ms.of st).vals = st.sets.map (·.lit) := by show st.lits ++ _ = _; rw [l1]; rfl
    have p1 : (Ms.of st).names.any (fun x => decide (qcol cols x = pk)) = st.sets.any (pkB cols pk) := by
      rw [n0, List.any_map]
      exact any_cong (fun c hc => by unfold pkB; rw [s0 c hc]; rfl)
    have p2 : tyM cols (Ms.of st).names (Ms.of st).vals = st.sets.any (tyB cols) := by
      unfold tyM
      rw [n0, v0, zip_map2]
      exact any_cong (fun c hc => by unfold tyB; rw [s0 c hc]; rfl)
    have p3 : (Ms.of st).vals.any (fun v => decide (7 < v.s.size)) = st.sets.any (lnB cols) := by
      rw [v0, List.any_map]
      exact any_cong (fun c hc => by unfold lnB; rw [s0 c hc]; rfl)
    rw [p1, p2, p3]
    cases st.sets.any (pkB cols pk) <;> cases st.sets.any (tyB cols) <;> cases st.wh.any (tyB cols) <;> cases st.sets.any (lnB cols) <;> simp [hk]
  · have z := hn hk
    rw [z]
    simp only [List.any_nil, Bool.false_or, hk, false_and]
    cases st.wh.any (tyB cols) <;> simp
end
/-- The schema's and the statement's copies, the lists. -/
structure CkmI (w : World) (H : Nat) (sc sv : Array Value) (cv : Value) (cols : List Cl) (v4 v5 v7 : Value) (m : Ms) (wr : World) : Prop where
  sc : Has wr H sc 79
  sv : Has wr (H + 1) sv 253
  oc : OwnC wr cv cols
  o4 : wr.ownsRow 0 9 1 v4 m.names.length (m.names.map Value.string)
  o5 : OwnV wr v5 m.vals
  o7 : OwnSm wr v7 m.wh
  on : Only (fun _ => False) w wr
theorem CkmI.quiet {w wr wx : World} {H : Nat} {sc sv : Array Value} {cv : Value} {cols : List Cl} {v4 v5 v7 : Value} {m : Ms} (h : CkmI w H sc sv cv cols v4 v5 v7 m wr) (o : Only (fun _ => False) wr wx) : CkmI w H sc sv cv cols v4 v5 v7 m wx :=
  ⟨h.sc.keep o (fun e => e), h.sv.keep o (fun e => e), h.oc.keep o (fun _ _ e => e), ownsRow_keep h.o4 o (fun _ _ e => e), h.o5.keep o (fun _ _ e => e), h.o7.quiet o, h.on.trans o (fun _ _ e => e)⟩
theorem take_f {α : Type} {l : List α} {p : α → Bool} {i : Nat} {x : α} (hx : l[i]? = some x) (h : ∀ y ∈ l.take i, p y = false) (hp : p x = false) : ∀ y ∈ l.take (i + 1), p y = false := by
  intro y hy
  rw [List.take_add_one, hx] at hy
  rcases List.mem_append.1 hy with h1 | h1
  · exact h y h1
  · rw [List.mem_singleton.1 h1]; exact hp
theorem all_f {α : Type} {l : List α} {p : α → Bool} {i : Nat} (hi : i = l.length) (h : ∀ y ∈ l.take i, p y = false) : l.any p = false := by
  rw [hi, List.take_length] at h
  rw [List.any_eq_false]
  intro x hx
  rw [h x hx]
  decide
theorem hit_t {α : Type} {l : List α} {p : α → Bool} {i : Nat} {x : α} (hx : l[i]? = some x) (hp : p x = true) : l.any p = true := List.any_eq_true.2 ⟨x, List.mem_of_getElem? hx, hp⟩
end Go.Proofs.Qxb6500412aGreat
