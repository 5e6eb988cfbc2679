/-
  OWN WORK. THE B-TREE: laws on whole nodes: box, alloc, load, store, results.
-/
import Derived.Test.Qxb6500412aGreatBMem
import Derived.Laws.Rows
import Derived.Deep.RegionHeld3
namespace Go.Proofs.Qxb6500412aGreat
open Go.RowKit Go.PlainAid
set_option linter.unusedSimpArgs false
set_option linter.unusedVariables false

def nd0 : Node := ⟨0, 0, fun _ => ⟨#[]⟩, fun _ => ⟨#[]⟩, fun _ => 0⟩
theorem Tryz.infoNd : (Tryz.prog.info? 218).map (fun i => (i.zero, i.size)) = some (some (ndA nd0), 15) := by kernel_rfl
theorem ndA_tab (x : Node) : ndA x = .agg (tabV 15 (ndc x)) := rfl
theorem info_nd : ∃ i, Tryz.prog.info? 218 = some i ∧ i.zero = some (ndA nd0) ∧ i.size = 15 := by
  have h := Tryz.infoNd
  cases hq : Tryz.prog.info? 218 with
  | none => rw [hq] at h; cases h
  | some i =>
    rw [hq] at h
    simp only [Option.map_some, Option.some.injEq, Prod.mk.injEq] at h
    exact ⟨i, rfl, h.1, h.2⟩
theorem nd_size : (Tryz.prog.info? 218).map (·.size) = some 15 := by
  obtain ⟨i, h1, h2, h3⟩ := info_nd
  rw [h1]; simp [h3]
theorem ndc_one (x : Node) : (tabV 15 (ndc x)).all (·.oneCell') = true := by kernel_rfl
theorem zeroNd_run (w : World) : (zeroValue 218).run Tryz.prog w = .ok (ndA nd0) w := by kernel_rfl
theorem run_loadNd {w : World} {g : Nat} {x : Node} (h : NdAt w g x) : (loadVar 218 ⟨g, 0, none⟩).run Tryz.prog w = .ok (ndA x) w := by
  rw [ndA_tab]
  exact run_loadVar_row w g 218 218 _ (0, 0) _ h Tryz.underlying218 rfl (by rw [nd_size, tabV_size])
section
variable {ops : Array Oper} {rest : List Oper} {o : Oper} {a : Act} {w : World} {Q : Exit → Act → World → Prop}
theorem wpList_load_nd (hgd : o.guard = none) (x : Operand) (ho : o.op = .load 218 x) (g : Nat) (hx : a.eval x = .pointer (some ⟨g, 0, none⟩)) {nd : Node} (h : NdAt w g nd)
    (hK : wpList Tryz.prog ops Q rest (a.put o.dst (ndA nd)) w) : wpList Tryz.prog ops Q (o :: rest) a w := by
  exact wpList_load_row hgd 218 x ho g hx 218 (tabV 15 (ndc nd)) (0, 0) _ h Tryz.underlying218 rfl (by rw [nd_size, tabV_size]) hK
theorem setRow_only {w : World} {g : Nat} {c : Array Value} : Only (fun k => k = g) w (w.setRow g c) := by
  refine ⟨rfl, rfl, rfl, ?_, ?_⟩
  · show w.heap.size ≤ (w.heap.modify g _).size
    simp
  · intro k hk hne
    show (w.heap.modify g _)[k]? = _
    rw [Array.getElem?_modify, if_neg (fun e => hne e.symm)]
theorem wpList_store_nd (hgd : o.guard = none) (x y : Operand) (ho : o.op = .store 218 x y) (g : Nat) (nd : Node) (hx : a.eval x = .pointer (some ⟨g, 0, none⟩)) (hy : a.eval y = ndA nd) {old : Node} (h : NdAt w g old)
    (hK : ∀ w', NdAt w' g nd → Only (fun k => k = g) w w' → wpList Tryz.prog ops Q rest (a.put o.dst undef) w') : wpList Tryz.prog ops Q (o :: rest) a w := by
  refine wpList_plain hgd fun _ hK2 => wp_store_row 218 x y ho g (tabV 15 (ndc nd)) hx hy 218 (tabV 15 (ndc old)) h (by rw [nd_size, tabV_size]) (by rw [tabV_size, tabV_size]) (ndc_one nd) (hK2 _ _ (hK _ ?_ setRow_only))
  exact setRow_heap w g _ _ 218 _ h
theorem wpList_box_nd (hgd : o.guard = none) (x : Operand) (ho : o.op = .box 218 x) (nd : Node) (hx : a.eval x = ndA nd)
    (hK : ∀ g w', NdAt w' g nd → w.heap.size ≤ g → Only (fun _ => False) w w' → wpList Tryz.prog ops Q rest (a.put o.dst (.pointer (some ⟨g, 0, none⟩))) w') : wpList Tryz.prog ops Q (o :: rest) a w := by
  refine wpList_plain hgd fun _ hK2 => ?_
  have := hK2 _ _ (hK w.heap.size (w.alloc (.cells (tabV 15 (ndc nd)) 218)) (Has.new w _ _) (Nat.le_refl _) ((Only.refl _ w).alloc _))
  unfold Oper.wp execOp
  simp only [ho, hx, ndA_tab]
  exact this
theorem wpList_alloc_nd (hgd : o.guard = none) (ho : o.op = .alloc 218)
    (hK : ∀ g w', NdAt w' g nd0 → w.heap.size ≤ g → Only (fun _ => False) w w' → wpList Tryz.prog ops Q rest (a.put o.dst (.pointer (some ⟨g, 0, none⟩))) w') : wpList Tryz.prog ops Q (o :: rest) a w := by
  refine wpList_plain hgd fun _ hK2 => ?_
  have := hK2 _ _ (hK w.heap.size (w.alloc (.cells (tabV 15 (ndc nd0)) 218)) (Has.new w _ _) (Nat.le_refl _) ((Only.refl _ w).alloc _))
  unfold Oper.wp execOp
  simp only [ho, Instr.alloc, Sem.run_bind, zeroNd_run, Result.andThen_ok, ndA_tab]
  exact this
end
theorem wpList_alloc_ndd {ops : Array Oper} {rest : List Oper} {o : Oper} {a : Act} {w : World} {Q : Exit → Act → World → Prop} (d : Nat) (hd : o.dst = some d) (hgd : o.guard = none) (ho : o.op = .alloc 218)
    (hK : ∀ g w', NdAt w' g nd0 → w.heap.size ≤ g → Only (fun _ => False) w w' → wpList Tryz.prog ops Q rest (a.put o.dst (.pointer (some ⟨g, 0, none⟩))) w') : wpList Tryz.prog ops Q (o :: rest) a w := wpList_alloc_nd hgd ho hK
theorem wpList_box_ndd {ops : Array Oper} {rest : List Oper} {o : Oper} {a : Act} {w : World} {Q : Exit → Act → World → Prop} (d : Nat) (hd : o.dst = some d) (hgd : o.guard = none) (x : Operand) (ho : o.op = .box 218 x) (nd : Node) (hx : a.eval x = ndA nd)
    (hK : ∀ g w', NdAt w' g nd → w.heap.size ≤ g → Only (fun _ => False) w w' → wpList Tryz.prog ops Q rest (a.put o.dst (.pointer (some ⟨g, 0, none⟩))) w') : wpList Tryz.prog ops Q (o :: rest) a w := wpList_box_nd hgd x ho nd hx hK
theorem res1_nd {fn : Func} {p : Tmp} (h : fn.results = #[.cell p 218]) (tmps : Array Value) {w : World} {g : Nat} {x : Node} (hp : tmps.getD p undef = .pointer (some ⟨g, 0, none⟩)) (hn : NdAt w g x) : (results fn tmps).run Tryz.prog w = .ok (ndA x) w := by
  exact results_cell_row h tmps w g 218 (tabV 15 (ndc x)) (0, 0) _ hp hn Tryz.underlying218 rfl (by rw [nd_size, tabV_size])
theorem res2_nd {fn : Func} {p u : Tmp} (h : fn.results = #[.cell p 218, .tmp u]) (tmps : Array Value) {w : World} {g : Nat} {x : Node} (hp : tmps.getD p undef = .pointer (some ⟨g, 0, none⟩)) (hn : NdAt w g x) : (results fn tmps).run Tryz.prog w = .ok (.tuple #[ndA x, tmps.getD u undef]) w := by
  simp only [results, h]
  have hp' : tmps[p]?.getD undef = .pointer (some ⟨g, 0, none⟩) := by simpa using hp
  simp [Sem.run_bind, Result.andThen, hp', asAddr, run_loadNd hn]
theorem res3_nd {fn : Func} {p q u : Tmp} (h : fn.results = #[.cell p 218, .cell q 218, .tmp u]) (tmps : Array Value) {w : World} {g r : Nat} {x y : Node} (hp : tmps.getD p undef = .pointer (some ⟨g, 0, none⟩)) (hn : NdAt w g x) (hq : tmps.getD q undef = .pointer (some ⟨r, 0, none⟩)) (hm : NdAt w r y) : (results fn tmps).run Tryz.prog w = .ok (.tuple #[ndA x, ndA y, tmps.getD u undef]) w := by
  simp only [results, h]
  have hp' : tmps[p]?.getD undef = .pointer (some ⟨g, 0, none⟩) := by simpa using hp
  have hq' : tmps[q]?.getD undef = .pointer (some ⟨r, 0, none⟩) := by simpa using hq
  simp [Sem.run_bind, Result.andThen, hp', hq', asAddr, run_loadNd hn, run_loadNd hm]
section
variable {ops : Array Oper} {o : Oper} {a : Act} {w : World} {Q : Exit → Act → World → Prop} {K : Act → World → Prop} {E : Prop}
theorem yieldsIf_load_nd {S : World → Prop} (hw : Region.wanted o (yielded ops a.tmps) = true) (x : Operand) (ho : o.op = .load 218 x) (g : Nat) (hx : a.eval x = .pointer (some ⟨g, 0, none⟩)) (nd : Node) (hS : ∀ w, S w → NdAt w g nd) : YieldsIf Tryz.prog ops S o (ndA nd) a :=
  .inl ⟨hw, fun w hw' => by
    unfold execOp
    simp only [ho, hx, Instr.loadAt, Instr.sureAddr, Sem.run_bind, Sem.run_pure, Result.andThen_ok, run_loadNd (hS w hw')]⟩
theorem step_store_nd (hgd : o.guard = none) (x y : Operand) (ho : o.op = .store 218 x y) (g : Nat) (nd : Node) (hx : a.eval x = .pointer (some ⟨g, 0, none⟩)) (hy : a.eval y = ndA nd) {old : Node} (h : NdAt w g old)
    (hK : ∀ w', NdAt w' g nd → Only (fun k => k = g) w w' → K (a.put o.dst undef) w') : if Region.wanted o (yielded ops a.tmps) = true then Oper.wp Tryz.prog o a w K Q else E := by
  have hw : Region.wanted o (yielded ops a.tmps) = true := by simp [Region.wanted, hgd]
  rw [if_pos hw]
  exact wp_store_row 218 x y ho g (tabV 15 (ndc nd)) hx hy 218 (tabV 15 (ndc old)) h (by rw [nd_size, tabV_size]) (by rw [tabV_size, tabV_size]) (ndc_one nd) (hK _ (setRow_heap w g _ _ 218 _ h) setRow_only)
end
/-- In a region that draws: the one operation that may come next stores a node whole. -/
theorem storeH_nd {ops : Array Oper} {o : Oper} {a : Act} {w : World} {Q : Exit → Act → World → Prop} {md : Region.Mode} {S : World → Prop} {fuel : Nat} {listed : Array Bool} (i : Nat) (hr : Region.ready md ops listed = [i]) (hi : ops[i]? = some o) (hd : o.dst = none) (hgd : o.guard = none) (x y : Operand) (ho : o.op = .store 218 x y) (g : Nat) (nd old : Node) (hx : a.eval x = .pointer (some ⟨g, 0, none⟩)) (hy : a.eval y = ndA nd) (h : NdAt w g old)
    (hK : ∀ w', NdAt w' g nd → Only (fun k => k = g) w w' → S w' ∧ wpAnyH Tryz.prog md ops Q S fuel (listed.setIfInBounds i true) a w') : wpAnyH Tryz.prog md ops Q S (fuel + 1) listed a w :=
  wpAnyH_ready hr (by simp) (AllReadyH.cons hi (fun K' hK' => step_store_nd hgd x y ho g nd hx hy h (fun w' h1 h2 => hK'.out _ _ (hK w' h1 h2).1 (fun _ => by rw [hd]; exact (hK w' h1 h2).2))) AllReadyH.nil)
/-- In a region that draws: an operation that yields is taken first. -/
theorem takeH {ops : Array Oper} {oi : Oper} {a : Act} {w : World} {Q : Exit → Act → World → Prop} {md : Region.Mode} {S : World → Prop} {fuel : Nat} {listed : Array Bool} {v : Value} (i d : Nat) (hi : ops[i]? = some oi) (hd : oi.dst = some d)
    (hs : Region.noSelect ops = true) (hf : Region.free md ops listed i = true) (hr : (Region.ready md ops listed).contains i = true)
    (hQ : ∀ c a w, Q (.panic c) (a.put oi.dst v) w → Q (.panic c) a w) (hy : YieldsIf Tryz.prog ops S oi v a) (hS : S w)
    (h : wpAnyH Tryz.prog md ops Q S fuel (listed.setIfInBounds i true) (a.put (some d) v) w) : wpAnyH Tryz.prog md ops Q S (fuel + 1) listed a w :=
  wpAnyH_take hi hs hf hr hQ hy hS (by rw [hd]; exact h)
/-- In a region that draws: the one operation that may come next loads a node whole. -/
theorem loadH_nd {ops : Array Oper} {o : Oper} {a : Act} {w : World} {Q : Exit → Act → World → Prop} {md : Region.Mode} {S : World → Prop} {fuel : Nat} {listed : Array Bool} (i : Nat) (hr : Region.ready md ops listed = [i]) (hi : ops[i]? = some o) (d : Nat) (hd : o.dst = some d) (hgd : o.guard = none) (x : Operand) (ho : o.op = .load 218 x) (g : Nat) (nd : Node) (hx : a.eval x = .pointer (some ⟨g, 0, none⟩)) (h : NdAt w g nd) (hS : S w)
    (hK : wpAnyH Tryz.prog md ops Q S fuel (listed.setIfInBounds i true) (a.put (some d) (ndA nd)) w) : wpAnyH Tryz.prog md ops Q S (fuel + 1) listed a w := by
  rw [← hd] at hK
  refine wpAnyH_ready hr (by simp) (AllReadyH.cons hi (fun K' hK' => ?_) AllReadyH.nil)
  have hw : Region.wanted o (yielded ops a.tmps) = true := by simp [Region.wanted, hgd]
  rw [if_pos hw]
  unfold Oper.wp execOp
  simp only [ho, hx, Instr.loadAt, Instr.sureAddr, Sem.run_bind, Sem.run_pure, Result.andThen_ok, run_loadNd h]
  exact hK'.out _ _ hS (fun _ => hK)
/-- In a region that draws: the one operation that may come next calls a function. -/
theorem callH {ops : Array Oper} {o : Oper} {a : Act} {w : World} {Q : Exit → Act → World → Prop} {md : Region.Mode} {S : World → Prop} {fuel : Nat} {listed : Array Bool} (i : Nat) (hr : Region.ready md ops listed = [i]) (hi : ops[i]? = some o) (d : Nat) (hd : o.dst = some d) (hgd : o.guard = none) (f : Nat) {fn : Func} (hf : Tryz.prog.funcs[f]? = some fn) (hf1 : decide (fn.name = "runtime.NumGoroutine") = false) (hf2 : fn.body.isSome = true) (cargs : Array Operand) (tys : Array TypeId) (ho : o.op = .call { callee := .value (.func f), args := cargs, argTypes := tys }) (vals : Array Value) (hv : cargs.map a.eval = vals)
    {R : Value → World → Prop} (hC : Calls Tryz.prog f vals w (fun e w' => ∃ v, e = .returned v ∧ R v w'))
    (hK : ∀ v w', R v w' → S w' ∧ wpAnyH Tryz.prog md ops Q S fuel (listed.setIfInBounds i true) (a.put (some d) v) w') : wpAnyH Tryz.prog md ops Q S (fuel + 1) listed a w := by
  rw [← hd] at hK
  refine wpAnyH_ready hr (by simp) (AllReadyH.cons hi (fun K' hK' => ?_) AllReadyH.nil)
  have hw : Region.wanted o (yielded ops a.tmps) = true := by simp [Region.wanted, hgd]
  rw [if_pos hw]
  have hC2 : Calls Tryz.prog f vals w (fun
      | .returned v, w'' => K' (a.put o.dst v) w''
      | .panicked chain, w'' => Q (.panic chain) a w''
      | .outgrown, _ => LetsOut Q) := hC.mono (by
    rintro e w' ⟨v, rfl, h⟩
    exact hK'.out _ _ (hK v w' h).1 (fun _ => (hK v w' h).2))
  unfold Oper.wp
  have e : (execOp a.eval o).run Tryz.prog w = .ok (.enter f vals) w := by
    simp [execOp, ho, resolve, invoke, Act.eval, Result.andThen, Sem.run_bind, Sem.run_pure, Deferred.ofValue, callFunc, hv, hf]
    have hf1' : ¬ fn.name = "runtime.NumGoroutine" := by simpa using hf1
    have hf2' : ¬ fn.body = none := by
      intro h
      rw [h] at hf2
      cases hf2
    simp [hf1', hf2']
  rw [e]
  exact hC2
theorem run_store_str {w : World} {ad : Addr} {old : Value} (h : w.cell? ad = some old) (hf : w.frozen? ad = false) (s : ByteArray) : (storeVar 9 ad (.string s)).run Tryz.prog w = .ok () (w.setCell ad (.string s)) := by
  go_simp
theorem run_store_int {w : World} {ad : Addr} {old : Value} (h : w.cell? ad = some old) (hf : w.frozen? ad = false) (n : Int) : (storeVar 3 ad (.int .i64 n)).run Tryz.prog w = .ok () (w.setCell ad (.int .i64 n)) := by
  go_simp
/-- In a region that draws: the one operation that may come next stores one cell. -/
theorem storeH_cell {ops : Array Oper} {o : Oper} {a : Act} {w : World} {Q : Exit → Act → World → Prop} {md : Region.Mode} {S : World → Prop} {fuel : Nat} {listed : Array Bool} (i : Nat) (hr : Region.ready md ops listed = [i]) (hi : ops[i]? = some o) (hd : o.dst = none) (hgd : o.guard = none) (ty : TypeId) (x y : Operand) (ho : o.op = .store ty x y) (ad : Addr) (v : Value) (hx : a.eval x = .pointer (some ad)) (hy : a.eval y = v) (hrun : (storeVar ty ad v).run Tryz.prog w = .ok () (w.setCell ad v))
    (hS : S (w.setCell ad v)) (hK : wpAnyH Tryz.prog md ops Q S fuel (listed.setIfInBounds i true) a (w.setCell ad v)) : wpAnyH Tryz.prog md ops Q S (fuel + 1) listed a w := by
  refine wpAnyH_ready hr (by simp) (AllReadyH.cons hi (fun K' hK' => ?_) AllReadyH.nil)
  have hw : Region.wanted o (yielded ops a.tmps) = true := by simp [Region.wanted, hgd]
  rw [if_pos hw]
  unfold Oper.wp execOp
  simp only [ho, hx, hy, Instr.storeAt, Instr.sureAddr, Sem.run_bind, Sem.run_pure, Result.andThen_ok, hrun]
  exact hK'.out _ _ hS (fun _ => by rw [hd]; exact hK)
theorem Only.own {S : Nat → Prop} {a w : World} (h : Only S a w) {g : Nat} (hg : a.heap.size ≤ g) (off : Nat) (u : Value) : Only S a (w.setCell ⟨g, off, none⟩ u) := h.setCell (fun hb => by have hb' : g < a.heap.size := hb; omega) _
theorem NdAt.drew {w : World} {g : Nat} {x : Node} (h : NdAt w g x) : NdAt w.drew g x := Has.drew h
theorem NdAt.kid0 {w : World} {g : Nat} {x : Node} (h : NdAt w g x) : w.cell? ⟨g, 10, none⟩ = some (.int .i64 (x.C 0 : Int)) ∧ w.frozen? ⟨g, 10, none⟩ = false := h.kid 0 (by omega)
theorem NdAt.kid1 {w : World} {g : Nat} {x : Node} (h : NdAt w g x) : w.cell? ⟨g, 11, none⟩ = some (.int .i64 (x.C 1 : Int)) ∧ w.frozen? ⟨g, 11, none⟩ = false := h.kid 1 (by omega)
theorem NdAt.key0 {w : World} {g : Nat} {x : Node} (h : NdAt w g x) : w.cell? ⟨g, 2, none⟩ = some (.string (x.K 0)) ∧ w.frozen? ⟨g, 2, none⟩ = false := h.key 0 (by omega)
theorem NdAt.key1 {w : World} {g : Nat} {x : Node} (h : NdAt w g x) : w.cell? ⟨g, 3, none⟩ = some (.string (x.K 1)) ∧ w.frozen? ⟨g, 3, none⟩ = false := h.key 1 (by omega)
theorem NdAt.val0 {w : World} {g : Nat} {x : Node} (h : NdAt w g x) : w.cell? ⟨g, 6, none⟩ = some (.string (x.V 0)) ∧ w.frozen? ⟨g, 6, none⟩ = false := h.val 0 (by omega)
theorem NdAt.setKid0 {w : World} {g : Nat} {x : Node} (h : NdAt w g x) (c : Nat) : NdAt (w.setCell ⟨g, 10, none⟩ (.int .i64 (c : Int))) g { x with C := upF x.C 0 c } := h.setKid 0 (by omega) c
theorem NdAt.setKid1 {w : World} {g : Nat} {x : Node} (h : NdAt w g x) (c : Nat) : NdAt (w.setCell ⟨g, 11, none⟩ (.int .i64 (c : Int))) g { x with C := upF x.C 1 c } := h.setKid 1 (by omega) c
theorem NdAt.setKey0 {w : World} {g : Nat} {x : Node} (h : NdAt w g x) (c : ByteArray) : NdAt (w.setCell ⟨g, 2, none⟩ (.string c)) g { x with K := upF x.K 0 c } := h.setKey 0 (by omega) c
theorem NdAt.o1 {w : World} {g : Nat} {x : Node} (h : NdAt w g x) (off : Nat) (u : Value) : Only (fun k => k = g) w (w.setCell ⟨g, off, none⟩ u) := only1 off u
theorem Only.more {a w : World} {g : Nat} (h : Only (fun k => k = g) a w) (off : Nat) (u : Value) : Only (fun k => k = g) a (w.setCell ⟨g, off, none⟩ u) := h.setCell (fun _ => rfl) _
end Go.Proofs.Qxb6500412aGreat
