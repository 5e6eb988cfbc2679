/-
  OWN WORK. QUERY's MODEL: parse: fields set, lists grown, loops (written by tools/gen_qm11.py).
-/
import Derived.Test.Qxb6500412aGreatQM10
import Derived.Test.Qxb6500412aGreatQM1
import Derived.Test.Qxb6500412aGreatERg
namespace Go.Proofs.Qxb6500412aGreat
open Go.RowKit Go.PlainAid
set_option linter.unusedSimpArgs false
set_option linter.unusedVariables false

section
variable {lo : Nat} {w w' w2 : World} {kr ks : Nat} {tv : Value} {l : List Tk} {P P' P2 : Ps} {m m' m2 : Ms} {S : Sq}
theorem MQR.at_ (h : MQR lo w kr ks tv l P m) {i : Nat} (hi : i < 12) : ∃ v, w.cell? ⟨ks, i, none⟩ = some v ∧ w.frozen? ⟨ks, i, none⟩ = false ∧ ks < w.heap.size := by
  obtain ⟨S, h1, h2, h3⟩ := h.sq
  exact ⟨_, h1.cl hi, h1.fr i, h1.lt⟩
theorem MqP.trans (h : MqP lo kr ks tv l P' m' w w') (h2 : MqP lo kr ks tv l P2 m2 w' w2) : MqP lo kr ks tv l P2 m2 w w2 := ⟨h2.1, h.2.trans h2.2 (fun _ _ e => e)⟩
theorem MQR.parP (h : MQR lo w kr ks tv l P m) (hp : MRp kr tv l P' w w') (hg : P'.2 = true → P.2 = true) : MqP lo kr ks tv l P' m w w' := ⟨h.par hp hg, hp.2.mono (fun b _ e => by have e' : b = kr := e; rw [e']; exact h.lr)⟩
/-- A field set. -/
theorem MQR.set (h : MQR lo w kr ks tv l P m) {i : Nat} {v : Value} (hi : ¬ smj i) (hv : v.oneCell' = true) (hs : ∀ S, P.2 = true → SmOf S m → SmOf (S.setC i v) m') : MqP lo kr ks tv l P m' w (w.setCell ⟨ks, i, none⟩ v) := by
  obtain ⟨S, h1, h2, h3⟩ := h.sq
  have o : Only (fun b => b = ks) w (w.setCell ⟨ks, i, none⟩ v) := only1 _ _
  exact ⟨h.sen h1 (h1.setC hi v hv) (fun c => hs S c (h2 c)) (fun j hj => h3 j hj) (o.mono (fun b _ e => .inl e)), o.mono (fun b _ e => by have e' : b = ks := e; rw [e']; exact h.klt.2.2)⟩
theorem SmOf.kind_ {v : Int} (h : SmOf S m) : SmOf (S.setC 0 (.int .i64 v)) { m with kind := v } := ⟨rfl, h.k1, h.x2, h.k3, h.x4, h.x5, h.k6, h.x7, h.k8, h.k9, h.k10, h.k11⟩
theorem SmOf.table_ {v : ByteArray} (h : SmOf S m) : SmOf (S.setC 1 (.string v)) { m with table := v } := ⟨h.k0, rfl, h.x2, h.k3, h.x4, h.x5, h.k6, h.x7, h.k8, h.k9, h.k10, h.k11⟩
theorem SmOf.pk_ {v : Int} (h : SmOf S m) : SmOf (S.setC 3 (.int .i64 v)) { m with pk := v } := ⟨h.k0, h.k1, h.x2, rfl, h.x4, h.x5, h.k6, h.x7, h.k8, h.k9, h.k10, h.k11⟩
theorem SmOf.star_ {v : Bool} (h : SmOf S m) : SmOf (S.setC 6 (.bool v)) { m with star := v } := ⟨h.k0, h.k1, h.x2, h.k3, h.x4, h.x5, rfl, h.x7, h.k8, h.k9, h.k10, h.k11⟩
theorem SmOf.order_ {v : ByteArray} (h : SmOf S m) : SmOf (S.setC 8 (.string v)) { m with order := v } := ⟨h.k0, h.k1, h.x2, h.k3, h.x4, h.x5, h.k6, h.x7, rfl, h.k9, h.k10, h.k11⟩
theorem SmOf.desc_ {v : Bool} (h : SmOf S m) : SmOf (S.setC 9 (.bool v)) { m with desc := v } := ⟨h.k0, h.k1, h.x2, h.k3, h.x4, h.x5, h.k6, h.x7, h.k8, rfl, h.k10, h.k11⟩
theorem SmOf.hasL_ {v : Bool} (h : SmOf S m) : SmOf (S.setC 10 (.bool v)) { m with hasL := v } := ⟨h.k0, h.k1, h.x2, h.k3, h.x4, h.x5, h.k6, h.x7, h.k8, h.k9, rfl, h.k11⟩
theorem SmOf.lim_ {v : Int} (h : SmOf S m) : SmOf (S.setC 11 (.int .i64 v)) { m with lim := v } := ⟨h.k0, h.k1, h.x2, h.k3, h.x4, h.x5, h.k6, h.x7, h.k8, h.k9, h.k10, rfl⟩
theorem SmOf.defs_ {q : List Cl} {c : Cl} {v : Value} {n : Nat} (h : SmOf S m) (hq : m.defs = q) (hn : n = q.length + 1) : SmOf (S.setL 2 v (S.xs 2 ++ [.string c.1, .bool c.2]) n) { m with defs := q ++ [c] } := by
  refine ⟨h.k0, h.k1, ⟨?_, ?_⟩, h.k3, h.x4, h.x5, h.k6, h.x7, h.k8, h.k9, h.k10, h.k11⟩
  · show S.xs 2 ++ _ = ccs (q ++ [c])
    rw [h.x2.1, hq, ccs_app]
    rfl
  · show n = (q ++ [c]).length
    rw [hn]; simp
theorem SmOf.names_ {q : List ByteArray} {c : ByteArray} {v : Value} {n : Nat} (h : SmOf S m) (hq : m.names = q) (hn : n = q.length + 1) : SmOf (S.setL 4 v (S.xs 4 ++ [.string c]) n) { m with names := q ++ [c] } := by
  refine ⟨h.k0, h.k1, h.x2, h.k3, ⟨?_, ?_⟩, h.x5, h.k6, h.x7, h.k8, h.k9, h.k10, h.k11⟩
  · show S.xs 4 ++ _ = List.map Value.string (q ++ [c])
    rw [h.x4.1, hq, List.map_append]
    rfl
  · show n = (q ++ [c]).length
    rw [hn]; simp
theorem SmOf.vals_ {q : List Vl} {c : Vl} {v : Value} {n : Nat} (h : SmOf S m) (hq : m.vals = q) (hn : n = q.length + 1) : SmOf (S.setL 5 v (S.xs 5 ++ [.bool c.str, .int .i64 c.i, .string c.s]) n) { m with vals := q ++ [c] } := by
  refine ⟨h.k0, h.k1, h.x2, h.k3, h.x4, ⟨?_, ?_⟩, h.k6, h.x7, h.k8, h.k9, h.k10, h.k11⟩
  · show S.xs 5 ++ _ = vcs (q ++ [c])
    rw [h.x5.1, hq, vcs_app]
    rfl
  · show n = (q ++ [c]).length
    rw [hn]; simp
/-- A list's length as its cell shows it. -/
def CellN (w : World) (ks j n : Nat) : Prop := ∃ c a cap, Has w ks c 253 ∧ c[j]? = some (.slice a n cap)
theorem CellN.keep {j n : Nat} {B : Nat → Prop} (h : CellN w ks j n) (ho : Only B w w') (hk : ¬ B ks) : CellN w' ks j n := by
  obtain ⟨c, a, cap, h1, h2⟩ := h
  exact ⟨c, a, cap, h1.keep ho hk, h2⟩
theorem CellN.set {j n i : Nat} {v : Value} (h : CellN w ks j n) (hi : i ≠ j) : CellN (w.setCell ⟨ks, i, none⟩ v) ks j n := by
  obtain ⟨c, a, cap, h1, h2⟩ := h
  refine ⟨_, a, cap, h1.setCell i v, ?_⟩
  rw [Array.getElem?_setIfInBounds_ne hi]
  exact h2
theorem CellN.of {j : Nat} (h : SMM lo w ks S) (hj : smj j) : CellN w ks j (S.ln j) := by
  obtain ⟨a, cap, e⟩ := ownsRow_shape (h.own j hj)
  refine ⟨_, a, cap, h.has, ?_⟩
  rw [tabV_get _ _ _ (smj_lt hj), e]
theorem CellN.ln {j n : Nat} (h : CellN w ks j n) (hM : SMM lo w ks S) (hj : smj j) : S.ln j = n := by
  obtain ⟨c, a, cap, h1, h2⟩ := h
  obtain ⟨a', cap', e⟩ := ownsRow_shape (hM.own j hj)
  have e2 := hM.cl (smj_lt hj)
  have e3 : w.cell? ⟨ks, j, none⟩ = some (.slice a n cap) := by rw [Has.cell h1, h2]
  rw [e2, e] at e3
  cases e3
  rfl
/-- A list grown behind a call of the reader. -/
theorem MQR.app {j n : Nat} {wm w5 : World} {a : Option Addr} {cap cap3 gg : Nat} {es : List Value} (hQ : MQR lo w kr ks tv l P m) (hM : SMM lo w ks S) (hln : ∀ j, smj j → S.ln j ≤ 1000) (hh : MRp kr tv l P2 w w2) (hj : smj j) (hcell : S.cell j = .slice a n cap) (hn : n + 1 ≤ 1000) (oa : Only (fun _ => False) w2 wm) (h1 : w5.ownsRow 0 (smt j) (smw j) (.slice (some ⟨gg, 0, none⟩) (n + 1) cap3) (n + 1) (S.xs j ++ es)) (h2 : wm.grownBy w5 (Value.slice a n cap).ownBlock) (h3 : (Value.slice a n cap).ownBlock = some gg ∨ w2.heap.size ≤ gg) (hs : P2.2 = true → SmOf (S.setL j (.slice (some ⟨gg, 0, none⟩) (n + 1) cap3) (S.xs j ++ es) (n + 1)) m') : MqP lo kr ks tv l P2 m' w (w5.setCell ⟨ks, j, none⟩ (.slice (some ⟨gg, 0, none⟩) (n + 1) cap3)) ∧ ∀ i, smj i → i ≠ j → CellN (w5.setCell ⟨ks, j, none⟩ (.slice (some ⟨gg, 0, none⟩) (n + 1) cap3)) ks i (S.ln i) := by
  obtain ⟨c, hc⟩ := hQ.rd.hasR
  have hM2 : SMM lo w2 ks S := hM.keep hh.2 (fun b hb e => hM.par hc b hb e)
  have hlo : lo ≤ w2.heap.size := Nat.le_trans hQ.lr (Nat.le_of_lt hh.1.lt)
  have p := hM2.push hj (es := es) (n := n + 1) oa h1 (by rw [hcell]; exact h2) (fun b hb => by
    simp [Value.ownBlock] at hb
    subst hb
    rw [hcell]
    exact h3) hlo
  obtain ⟨c2, hc2⟩ := hh.1.hasR
  have hk : ¬ S.U ks j kr := fun c => by
    rcases c with c | c
    · exact hM2.par hc2 ks (.inl rfl) c.symm
    · exact hM2.par hc2 kr (.inr ⟨j, hj, c⟩) rfl
  have ht : ∀ b, tv.ownBlock = some b → ¬ S.U ks j b := fun b hb c => by
    rcases c with c | c
    · exact hM2.tok hh.1.own b (.inl c) hb
    · exact hM2.tok hh.1.own b (.inr ⟨j, hj, c⟩) hb
  refine ⟨⟨⟨hh.1.keep p.2 hk ht, hQ.lr, _, p.1, hs, fun i hi => ?_⟩, (hh.2.mono (T := fun b => lo ≤ b) (fun b _ e => by have e' : b = kr := e; rw [e']; exact hQ.lr)).trans p.2 (fun b _ c => hM2.ulo hj b c)⟩, fun i hi hne => ?_⟩
  rotate_left
  · have h := CellN.of p.1 hi
    have e : (S.setL j (.slice (some ⟨gg, 0, none⟩) (n + 1) cap3) (S.xs j ++ es) (n + 1)).ln i = S.ln i := if_neg hne
    rw [e] at h
    exact h
  show (if i = j then n + 1 else S.ln i) ≤ 1000
  split
  · exact hn
  · exact hln i hi
end
/-- A whole block loaded inside a region that draws. -/
theorem yieldsIf_load_mst {ops : Array Oper} {o : Oper} {a : Act} {S : World → Prop} (hw : Region.wanted o (yielded ops a.tmps) = true) (x : Operand) (ho : o.op = .load 253 x) (g : Nat) (hx : a.eval x = .pointer (some ⟨g, 0, none⟩)) (c : Array Value) (hc : c.size = 12) (hS : ∀ w, S w → Has w g c 253) : YieldsIf Tryz.prog ops S o (.agg c) a :=
  .inl ⟨hw, fun w hw' => by
    unfold execOp
    simp only [ho, hx, Instr.loadAt, Instr.sureAddr, Sem.run_bind, Sem.run_pure, Result.andThen_ok, run_loadVar_row (P := Tryz.prog) w g 253 253 c (0, 0) _ (hS w hw') Tryz.underlying253 rfl (by rw [Tryz.sizeSMStmt, hc])]⟩
section
variable {lo : Nat} {w w' : World} {kr ks : Nat} {tv : Value} {tl : List Tk} {P P' : Ps} {m : Ms} {α : Type} {body : Ps → Ps × α} {sep : ByteArray} {f : List α → Ms}
/-- A loop's state: a list read so far. -/
def LpI (f : List α → Ms) (body : Ps → Ps × α) (sep : ByteArray) (w : World) (lo kr ks : Nat) (tv : Value) (tl : List Tk) (R : Ps × List α) (gk : Nat) (mv : Value) (wr : World) : Prop := ∃ (b : Bool) (P1 : Ps) (q : List α), mv = .bool b ∧ MQR lo wr kr ks tv tl P1 (f q) ∧ (P1.2 = true → q.length + P1.1.length + gB b P1 ≤ 1000) ∧ (P1.2 = true → R = (if b = true then listP body sep P1 q else (P1, q))) ∧ (P1.2 = false → R.1 = failP) ∧ Only (fun b => lo ≤ b) w wr ∧ 2 * P1.1.length + gB b P1 ≤ gk
theorem LpI.done {R : Ps × List α} {b : Bool} {P1 : Ps} {q : List α} {wr : World} (h : MQR lo wr kr ks tv tl P1 (f q)) (h1 : P1.2 = true → R = (if b = true then listP body sep P1 q else (P1, q))) (h2 : P1.2 = false → R.1 = failP) (ho : Only (fun b => lo ≤ b) w wr) (hb : b = false ∨ P1.2 = false) : MqP lo kr ks tv tl R.1 (f R.2) w wr := by
  refine ⟨?_, ho⟩
  cases hp : P1.2 with
  | true =>
    rcases hb with c | c
    · have e := h1 hp
      rw [c] at e
      rw [e]
      exact h
    · rw [hp] at c; cases c
  | false =>
    have e := bad_fail h.rd hp
    rw [h2 hp, ← e]
    exact h.any hp
theorem LpI.next (hbl : ∀ P, (body P).1.1.length ≤ P.1.length) {R : Ps × List α} {gk : Nat} {P1 : Ps} {q : List α} {wA wB : World} {b5 : Bool} (hg : P1.2 = true) (hR : R = listP body sep P1 q) (hlen : q.length + P1.1.length + 1 ≤ 1000) (hgk : 2 * P1.1.length + 1 ≤ gk) (hQ : MQR lo wA kr ks tv tl (body P1).1 (f (q ++ [(body P1).2]))) (ho : Only (fun b => lo ≤ b) w wA) (p1 : (body P1).1.2 = true → b5 = eatB sep (body P1).1) (p2 : b5 = true → MRp kr tv tl (nextP (body P1).1) wA wB) (p3 : b5 = false → MRp kr tv tl (body P1).1 wA wB) : ∃ gk', gk' < gk ∧ LpI f body sep w lo kr ks tv tl R gk' (.bool b5) wB := by
  have hl4 := hbl P1
  have hs := listP_step (sep := sep) hbl P1 q
  rw [← hR] at hs
  have hon : ∀ Py, MRp kr tv tl Py wA wB → Only (fun b => lo ≤ b) w wB := fun Py hp => ho.trans hp.2 (fun b _ e => by have e' : b = kr := e; rw [e']; exact hQ.lr)
  cases hp : (body P1).1.2 with
  | true =>
    have e5 := p1 hp
    cases b5 with
    | true =>
      rw [← e5, if_pos rfl] at hs
      have hn := eat_len e5.symm
      refine ⟨2 * (nextP (body P1).1).1.length + 1, by omega, true, nextP (body P1).1, _, rfl, hQ.par (p2 rfl) next_good, fun _ => ?_, fun _ => hs, fun c => ?_, hon _ (p2 rfl), ?_⟩
      · have := gB_le true (nextP (body P1).1)
        simp
        omega
      · have c' : (body P1).1.2 = false := c
        rw [hp] at c'; cases c'
      · have := gB_le true (nextP (body P1).1)
        omega
    | false =>
      rw [← e5, if_neg (by decide)] at hs
      refine ⟨2 * (body P1).1.1.length, by omega, false, (body P1).1, _, rfl, hQ.par (p3 rfl) (fun c => c), fun _ => ?_, fun _ => hs, fun c => ?_, hon _ (p3 rfl), ?_⟩
      · show (q ++ [(body P1).2]).length + (body P1).1.1.length + 0 ≤ 1000
        simp
        omega
      · rw [hp] at c; cases c
      · exact Nat.le_refl _
  | false =>
    have e := bad_fail hQ.rd hp
    have hR1 : R.1 = failP := by
      rw [hs, e, if_neg (show ¬ eatB sep failP = true from fun c => by cases c)]
    have key : ∀ b (Py : Ps), Py = failP → MRp kr tv tl Py wA wB → LpI f body sep w lo kr ks tv tl R 0 (.bool b) wB := fun b Py hy hp2 => by
      refine ⟨b, Py, q ++ [(body P1).2], rfl, hQ.par hp2 (fun c => by rw [hy] at c; cases c), fun c => ?_, fun c => ?_, fun _ => hR1, hon _ hp2, ?_⟩
      · rw [hy] at c; cases c
      · rw [hy] at c; cases c
      · rw [hy]; unfold gB; simp [failP]
    cases b5 with
    | true => exact ⟨0, by omega, key true _ (by rw [e]; rfl) (p2 rfl)⟩
    | false => exact ⟨0, by omega, key false _ e (p3 rfl)⟩
/-- The start of a loop. -/
theorem LpI.start {R : Ps × List α} {gk : Nat} {wr : World} (h : MqP lo kr ks tv tl P (f []) w wr) (hR : R = listP body sep P []) (hf : P.2 = false → R.1 = failP) (hl : P.1.length + 1 ≤ 1000) (hg : 2 * P.1.length + 1 ≤ gk) : LpI f body sep w lo kr ks tv tl R gk (.bool true) wr := by
  have := gB_le true P
  refine ⟨true, P, [], rfl, h.1, fun _ => ?_, fun _ => ?_, hf, h.2, by omega⟩
  · simp; omega
  · rw [if_pos rfl]; exact hR
theorem list_fail {P : Ps} (hp : P = failP) (hb : (body failP).1 = failP) : (listP body sep P []).1 = failP := by
  rw [hp]
  show (loopP body sep 1 failP []).1 = failP
  unfold loopP
  rw [hb, if_neg (show ¬ eatB sep failP = true from fun c => by cases c)]
/-- The end of parse: nothing is left of the text. -/
theorem end_bool {w : World} {i : Nat} {bad : Bool} (h : MRc w kr tv tl i bad) (hP : P = (if bad = true then failP else (tl.drop i, true))) : (P.1.isEmpty && P.2) = (!bad && decide ((i : Int) = (tl.length : Int))) := by
  cases bad with
  | true => rw [hP]; rfl
  | false =>
    rw [if_neg (by decide)] at hP
    rw [hP]
    have hle := h.le
    by_cases c : i = tl.length
    · rw [c]; simp
    · have : (tl.drop i).isEmpty = false := by
        cases hd : tl.drop i with
        | nil => rw [List.drop_eq_nil_iff] at hd; omega
        | cons x y => rfl
      simp only [this, Bool.false_and]
      rw [decide_eq_false (by omega)]
      rfl
/-- The last of parse: the sentence goes out. -/
theorem MpP.fin {t : ByteArray} {w wN w' : World} {g : Nat} {S : Sq} {Pf : Ps} {stf : St} {mf : Ms} (hg : w.heap.size = g) (hM : SMM (g + 1) wN ks S) (hO : Pf.2 = true → SmOf S mf) (EQ : parQ t = (Pf, stf)) (hm : mf = Ms.of stf) (oW : Only (fun _ => False) w wN) (h2 : Only (fun k => k = g) wN w') : MpP t w (.returned (.tuple #[.agg (tabV 12 S.cell), .bool (parB t)])) w' := by
  refine ⟨S, rfl, fun hb => ⟨?_, ?_⟩, hM.one, oW.lateS h2 (fun k hk => by have e' : k = g := hk; omega)⟩
  · have hl := hM.lists.keep h2 (fun j hj b hb e => by have e' : b = g := e; have := hM.new b (.inr ⟨j, hj, hb⟩); omega)
    exact ⟨hl.own, hl.sep, fun j hj b hb => by have := hl.new j hj b hb; omega⟩
  · have e : Pf.2 = true := by
      unfold parB at hb
      rw [EQ] at hb
      simp only [Bool.and_eq_true] at hb
      exact hb.2
    rw [EQ]
    show SmOf S (Ms.of stf)
    rw [← hm]
    exact hO e
theorem par_bool {t : ByteArray} {Pf : Ps} {stf : St} {w : World} {i : Nat} {bad : Bool} (ht : t.size ≤ 256) (EQ : parQ t = (Pf, stf)) (h : MRc w kr tv tl i bad) (hP : Pf = (if bad = true then failP else (tl.drop i, true))) : parB t = (!bad && decide ((i : Int) = (tl.length : Int))) := by
  rw [← end_bool h hP]
  unfold parB
  rw [EQ, decide_eq_true ht]
  simp
theorem TksP.short {ty : TypeId} {t : ByteArray} {w w' : World} {e : Ending} (h : TksP ty t w e w') (ht : t.size ≤ 256) (hc : (toks t 0).2 = true) : ∃ v, e = .returned (.tuple #[v, .bool true]) ∧ OwnT ty w' v (toks t 0).1 ∧ Only (fun _ => False) w w' := by
  obtain ⟨v, h1, h2, h3⟩ := h
  have hb : cutB t = true := by unfold cutB; rw [decide_eq_true ht, hc]; rfl
  rw [hb] at h1
  exact ⟨v, h1, (h2 hb).1, h3⟩
theorem tab12_all {S : Sq} (h : ∀ i, (S.cell i).oneCell' = true) : (tabV 12 S.cell).all (·.oneCell') = true := by
  show (#[S.cell 0, S.cell 1, S.cell 2, S.cell 3, S.cell 4, S.cell 5, S.cell 6, S.cell 7, S.cell 8, S.cell 9, S.cell 10, S.cell 11] : Array Value).all (·.oneCell') = true
  simp [h]
end
end Go.Proofs.Qxb6500412aGreat
