/-
  OWN WORK. THE B-TREE: regions that draw: a call and the making of nodes, in whatever order; fromLeft, fromRight, join on items.
-/
import Derived.Test.Qxb6500412aGreatBPp
import Derived.Test.Qxb6500412aGreatBFrR
import Derived.Test.Qxb6500412aGreatBFrR2
import Derived.Test.Qxb6500412aGreatBJn2
namespace Go.Proofs.Qxb6500412aGreat
open Go.RowKit Go.PlainAid
set_option linter.unusedSimpArgs false
set_option linter.unusedVariables false

section
variable {ops : Array Oper} {a : Act} {w : World} {Q : Exit → Act → World → Prop} {md : Region.Mode} {S : World → Prop} {fuel : Nat} {listed : Array Bool}
def CallK (ops : Array Oper) (md : Region.Mode) (Q : Exit → Act → World → Prop) (S : World → Prop) (fuel : Nat) (listed : Array Bool) (a : Act) (i d : Nat) (R : Value → World → Prop) : Prop := ∀ v w', R v w' → S w' ∧ wpAnyH Tryz.prog md ops Q S fuel (listed.setIfInBounds i true) (a.put (some d) v) w'
def AllocK (ops : Array Oper) (md : Region.Mode) (Q : Exit → Act → World → Prop) (S : World → Prop) (fuel : Nat) (listed : Array Bool) (a : Act) (w : World) (i d : Nat) : Prop := ∀ g w', NdAt w' g nd0 → w.heap.size ≤ g → Only (fun _ => False) w w' → S w' ∧ wpAnyH Tryz.prog md ops Q S fuel (listed.setIfInBounds i true) (a.put (some d) (.pointer (some ⟨g, 0, none⟩))) w'
theorem stepCall {K' : Act → World → Prop} {E : Prop} {o : Oper} (hgd : o.guard = none) (f : Nat) {fn : Func} (hf : Tryz.prog.funcs[f]? = some fn) (hf1 : decide (fn.name = "runtime.NumGoroutine") = false) (hf2 : fn.body.isSome = true) (cargs : Array Operand) (tys : Array TypeId) (ho : o.op = .call { callee := .value (.func f), args := cargs, argTypes := tys }) (vals : Array Value) (hv : cargs.map a.eval = vals)
    {R : Value → World → Prop} (hC : Calls Tryz.prog f vals w (fun e w' => ∃ v, e = .returned v ∧ R v w')) (hK : ∀ v w', R v w' → K' (a.put o.dst v) w') : if Region.wanted o (yielded ops a.tmps) = true then Oper.wp Tryz.prog o a w K' Q else E := by
  have hw : Region.wanted o (yielded ops a.tmps) = true := by simp [Region.wanted, hgd]
  rw [if_pos hw]
  have hC2 : Calls Tryz.prog f vals w (fun
      | .returned v, w'' => K' (a.put o.dst v) w''
      | .panicked chain, w'' => Q (.panic chain) a w''
      | .outgrown, _ => LetsOut Q) := hC.mono (by
    rintro e w' ⟨v, rfl, h⟩
    exact hK v w' h)
  unfold Oper.wp
  have e : (execOp a.eval o).run Tryz.prog w = .ok (.enter f vals) w := by
    simp [execOp, ho, resolve, invoke, Act.eval, Result.andThen, Sem.run_bind, Sem.run_pure, Deferred.ofValue, callFunc, hv, hf]
    have hf1' : ¬ fn.name = "runtime.NumGoroutine" := by simpa using hf1
    have hf2' : ¬ fn.body = none := by
      intro h
      rw [h] at hf2
      cases hf2
    simp [hf1', hf2']
  rw [e]
  exact hC2
theorem stepAlloc {K' : Act → World → Prop} {E : Prop} {o : Oper} (hgd : o.guard = none) (ho : o.op = .alloc 218) (hK : ∀ g w', NdAt w' g nd0 → w.heap.size ≤ g → Only (fun _ => False) w w' → K' (a.put o.dst (.pointer (some ⟨g, 0, none⟩))) w') : if Region.wanted o (yielded ops a.tmps) = true then Oper.wp Tryz.prog o a w K' Q else E := by
  have hw : Region.wanted o (yielded ops a.tmps) = true := by simp [Region.wanted, hgd]
  rw [if_pos hw]
  have := hK w.heap.size (w.alloc (.cells (tabV 15 (ndc nd0)) 218)) (Has.new w _ _) (Nat.le_refl _) ((Only.refl _ w).alloc _)
  unfold Oper.wp execOp
  simp only [ho, Instr.alloc, Sem.run_bind, zeroNd_run, Result.andThen_ok, ndA_tab]
  exact this
theorem allocH {o : Oper} (i : Nat) (hr : Region.ready md ops listed = [i]) (hi : ops[i]? = some o) (d : Nat) (hd : o.dst = some d) (hgd : o.guard = none) (ho : o.op = .alloc 218) (hK : AllocK ops md Q S fuel listed a w i d) : wpAnyH Tryz.prog md ops Q S (fuel + 1) listed a w := by
  unfold AllocK at hK
  rw [← hd] at hK
  exact wpAnyH_ready hr (by simp) (AllReadyH.cons hi (fun K' hK' => stepAlloc hgd ho (fun g w' h1 h2 h3 => hK'.out _ _ (hK g w' h1 h2 h3).1 (fun _ => (hK g w' h1 h2 h3).2))) AllReadyH.nil)
theorem alloc2H {o o2 : Oper} (i j : Nat) (hr : Region.ready md ops listed = [i, j]) (hi : ops[i]? = some o) (d : Nat) (hd : o.dst = some d) (hgd : o.guard = none) (ho : o.op = .alloc 218) (hj : ops[j]? = some o2) (d2 : Nat) (hd2 : o2.dst = some d2) (hgd2 : o2.guard = none) (ho2 : o2.op = .alloc 218)
    (hK : AllocK ops md Q S fuel listed a w i d) (hK2 : AllocK ops md Q S fuel listed a w j d2) : wpAnyH Tryz.prog md ops Q S (fuel + 1) listed a w := by
  unfold AllocK at hK hK2
  rw [← hd] at hK
  rw [← hd2] at hK2
  exact wpAnyH_ready hr (by simp) (AllReadyH.cons hi (fun K' hK' => stepAlloc hgd ho (fun g w' h1 h2 h3 => hK'.out _ _ (hK g w' h1 h2 h3).1 (fun _ => (hK g w' h1 h2 h3).2)))
    (AllReadyH.cons hj (fun K' hK' => stepAlloc hgd2 ho2 (fun g w' h1 h2 h3 => hK'.out _ _ (hK2 g w' h1 h2 h3).1 (fun _ => (hK2 g w' h1 h2 h3).2))) AllReadyH.nil))
theorem callAllocH {o o2 : Oper} (i j : Nat) (hr : Region.ready md ops listed = [i, j]) (hi : ops[i]? = some o) (d : Nat) (hd : o.dst = some d) (hgd : o.guard = none) (f : Nat) {fn : Func} (hf : Tryz.prog.funcs[f]? = some fn) (hf1 : decide (fn.name = "runtime.NumGoroutine") = false) (hf2 : fn.body.isSome = true) (cargs : Array Operand) (tys : Array TypeId) (ho : o.op = .call { callee := .value (.func f), args := cargs, argTypes := tys }) (vals : Array Value) (hv : cargs.map a.eval = vals)
    {R : Value → World → Prop} (hC : Calls Tryz.prog f vals w (fun e w' => ∃ v, e = .returned v ∧ R v w'))
    (hj : ops[j]? = some o2) (d2 : Nat) (hd2 : o2.dst = some d2) (hgd2 : o2.guard = none) (ho2 : o2.op = .alloc 218)
    (hK : CallK ops md Q S fuel listed a i d R) (hK2 : AllocK ops md Q S fuel listed a w j d2) : wpAnyH Tryz.prog md ops Q S (fuel + 1) listed a w := by
  unfold CallK at hK
  unfold AllocK at hK2
  rw [← hd] at hK
  rw [← hd2] at hK2
  exact wpAnyH_ready hr (by simp) (AllReadyH.cons hi (fun K' hK' => stepCall hgd f hf hf1 hf2 cargs tys ho vals hv hC (fun v w' h => hK'.out _ _ (hK v w' h).1 (fun _ => (hK v w' h).2)))
    (AllReadyH.cons hj (fun K' hK' => stepAlloc hgd2 ho2 (fun g w' h1 h2 h3 => hK'.out _ _ (hK2 g w' h1 h2 h3).1 (fun _ => (hK2 g w' h1 h2 h3).2))) AllReadyH.nil))
theorem callAlloc2H {o o2 o3 : Oper} (i j k : Nat) (hr : Region.ready md ops listed = [i, j, k]) (hi : ops[i]? = some o) (d : Nat) (hd : o.dst = some d) (hgd : o.guard = none) (f : Nat) {fn : Func} (hf : Tryz.prog.funcs[f]? = some fn) (hf1 : decide (fn.name = "runtime.NumGoroutine") = false) (hf2 : fn.body.isSome = true) (cargs : Array Operand) (tys : Array TypeId) (ho : o.op = .call { callee := .value (.func f), args := cargs, argTypes := tys }) (vals : Array Value) (hv : cargs.map a.eval = vals)
    {R : Value → World → Prop} (hC : Calls Tryz.prog f vals w (fun e w' => ∃ v, e = .returned v ∧ R v w'))
    (hj : ops[j]? = some o2) (d2 : Nat) (hd2 : o2.dst = some d2) (hgd2 : o2.guard = none) (ho2 : o2.op = .alloc 218)
    (hk : ops[k]? = some o3) (d3 : Nat) (hd3 : o3.dst = some d3) (hgd3 : o3.guard = none) (ho3 : o3.op = .alloc 218)
    (hK : CallK ops md Q S fuel listed a i d R) (hK2 : AllocK ops md Q S fuel listed a w j d2) (hK3 : AllocK ops md Q S fuel listed a w k d3) : wpAnyH Tryz.prog md ops Q S (fuel + 1) listed a w := by
  unfold CallK at hK
  unfold AllocK at hK2 hK3
  rw [← hd] at hK
  rw [← hd2] at hK2
  rw [← hd3] at hK3
  exact wpAnyH_ready hr (by simp) (AllReadyH.cons hi (fun K' hK' => stepCall hgd f hf hf1 hf2 cargs tys ho vals hv hC (fun v w' h => hK'.out _ _ (hK v w' h).1 (fun _ => (hK v w' h).2)))
    (AllReadyH.cons hj (fun K' hK' => stepAlloc hgd2 ho2 (fun g w' h1 h2 h3 => hK'.out _ _ (hK2 g w' h1 h2 h3).1 (fun _ => (hK2 g w' h1 h2 h3).2)))
      (AllReadyH.cons hk (fun K' hK' => stepAlloc hgd3 ho3 (fun g w' h1 h2 h3 => hK'.out _ _ (hK3 g w' h1 h2 h3).1 (fun _ => (hK3 g w' h1 h2 h3).2))) AllReadyH.nil)))
end
/-- fromLeft, fromRight, join on items. -/
theorem fromLeft_rep {h : Nat} {x y : Node} {La R : List (ByteArray × Tr h)} {e : ByteArray × Tr h} {sep : ByteArray} (rx : Rep h x (La ++ [e])) (ry : Rep h y R) (hl : 1 ≤ La.length) (hl2 : La.length < 4) (hR : R.length = 1) (hs : h = 0 → ∀ f ∈ R, lt e.1 f.1 = true) (hf : h = 0 ∨ ∀ f ∈ R, f.1 = sep) (w : World) :
    Calls Tryz.prog 352 #[ndA x, ndA y, .string sep] w fun en w' => ∃ a b : Node, en = .returned (.tuple #[ndA a, ndA b, .string e.1]) ∧ (Rep h a La ∧ Rep h b (e :: R)) ∧ Only (fun _ => False) w w' := by
  have nx := rx.n
  have ny := ry.n
  simp at nx
  cases h with
  | zero =>
    refine (fromLeft_leaf x y sep rx.kd0 La.length (by omega) hl2 (by omega) w).mono ?_
    rintro en w' ⟨b, rfl, hp, ho⟩
    obtain ⟨h1, h2, h3⟩ := RepL.fromLeft (l := La) (e := e) rx ry (by omega) (hs rfl) hp
    exact ⟨_, b, by rw [h3], ⟨h1, h2⟩, ho⟩
  | succ h =>
    obtain ⟨m, hm⟩ : ∃ m, La.length = m + 1 := ⟨La.length - 1, by omega⟩
    refine (fromLeft_inner x y sep (by rw [rx.kd1]; omega) m (by omega) (by omega) w).mono ?_
    rintro en w' ⟨rfl, ho⟩
    have rx' : RepI x (pk La ++ [(e.1, pgT e.2)]) := by
      have : RepI x (pk (La ++ [e])) := rx
      rw [pk_app, pk_cons] at this
      exact this
    cases R with
    | nil => simp at hR
    | cons f R' =>
      have hR0 : R' = [] := by simpa using hR
      subst hR0
      have ry' : RepI y [(f.1, pgT f.2)] := by
        have : RepI y (pk [f]) := ry
        rw [pk_cons] at this
        exact this
      have hfs : f.1 = sep := by
        rcases hf with h0 | h0
        · cases h0
        · exact h0 f (by simp)
      obtain ⟨h1, h2, h3⟩ := RepI.fromLeft (m := m) (sep := sep) rx' ry' (by omega)
      refine ⟨_, _, by rw [h3], ⟨h1, ?_⟩, ho⟩
      show RepI _ (pk [e, f])
      rw [pk_cons, pk_cons, hfs]
      exact h2
theorem fromRight_rep {h : Nat} {x y : Node} {L R : List (ByteArray × Tr h)} {e e' : ByteArray × Tr h} {sep : ByteArray} (rx : Rep h x L) (ry : Rep h y (e :: e' :: R)) (hL : L.length = 1) (hR : R.length ≤ 2) (hf : h = 0 ∨ e.1 = sep) (w : World) :
    Calls Tryz.prog 354 #[ndA x, ndA y, .string sep] w fun en w' => ∃ a b : Node, en = .returned (.tuple #[ndA a, ndA b, .string e'.1]) ∧ (Rep h a (L ++ [e]) ∧ Rep h b (e' :: R)) ∧ Only (fun _ => False) w w' := by
  have nx := rx.n
  have ny := ry.n
  simp at ny
  cases h with
  | zero =>
    refine (fromRight_leaf x y sep rx.kd0 (by omega) (by omega) (by omega) w).mono ?_
    rintro en w' ⟨b, rfl, hp, ho⟩
    obtain ⟨h1, h2, h3⟩ := RepL.fromRight (l := L) (e := e) (e' := e') (r := R) rx ry hp
    exact ⟨_, b, by rw [h3], ⟨h1, h2⟩, ho⟩
  | succ h =>
    refine (fromRight_inner x y sep (by rw [rx.kd1]; omega) 0 (by omega) (by omega) (by omega) (by omega) w).mono ?_
    rintro en w' ⟨b, rfl, hp, ho⟩
    have rx' : RepI x (pk L) := rx
    have ry' : RepI y ((e.1, pgT e.2) :: (e'.1, pgT e'.2) :: pk R) := by
      have : RepI y (pk (e :: e' :: R)) := ry
      rw [pk_cons, pk_cons] at this
      exact this
    have hfs : e.1 = sep := by
      rcases hf with h0 | h0
      · cases h0
      · exact h0
    obtain ⟨h1, h2, h3⟩ := RepI.fromRight (m := 0) (sep := sep) rx' ry' (by omega) hp
    refine ⟨_, b, by rw [h3], ⟨?_, ?_⟩, ho⟩
    · show RepI _ (pk (L ++ [e]))
      rw [pk_app, pk_cons, hfs]
      exact h1
    · show RepI b (pk (e' :: R))
      rw [pk_cons]
      exact h2
theorem join_rep {h : Nat} {x y : Node} {L R : List (ByteArray × Tr h)} {sep : ByteArray} (rx : Rep h x L) (ry : Rep h y R) (hL : 1 ≤ L.length) (hR : 1 ≤ R.length) (hLR : L.length + R.length ≤ 4) (hf : h = 0 ∨ ∀ f ∈ R.head?, f.1 = sep) (w : World) :
    Calls Tryz.prog 355 #[ndA x, ndA y, .string sep] w fun en w' => ∃ z : Node, en = .returned (ndA z) ∧ Rep h z (L ++ R) ∧ Only (fun _ => False) w w' := by
  have nx := rx.n
  have ny := ry.n
  cases h with
  | zero =>
    refine (join_leaf x y sep rx.kd0 (by omega) w).mono ?_
    rintro en w' ⟨z, rfl, hj, ho⟩
    exact ⟨z, rfl, RepL.join (l := L) (r := R) rx ry hj, ho⟩
  | succ h =>
    obtain ⟨m, hm⟩ : ∃ m, L.length = m + 1 := ⟨L.length - 1, by omega⟩
    refine (join_inner x y sep (by rw [rx.kd1]; omega) m (by omega) (by omega) (by omega) w).mono ?_
    rintro en w' ⟨z, rfl, hj, ho⟩
    refine ⟨z, rfl, ?_, ho⟩
    cases R with
    | nil => simp at hR
    | cons f R' =>
      have ry' : RepI y ((f.1, pgT f.2) :: pk R') := by
        have : RepI y (pk (f :: R')) := ry
        rw [pk_cons] at this
        exact this
      have hfs : f.1 = sep := by
        rcases hf with h0 | h0
        · cases h0
        · exact h0 f (by simp)
      have := RepI.join (x := x) (l := pk L) (sep := sep) rx (fun e => by have := pk_len L; rw [e] at this; simp at this; omega) ry' hj
      show RepI z (pk (L ++ f :: R'))
      rw [pk_app, pk_cons, hfs]
      exact this
end Go.Proofs.Qxb6500412aGreat
