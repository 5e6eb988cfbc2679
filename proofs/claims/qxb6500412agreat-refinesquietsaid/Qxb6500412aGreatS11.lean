/-
  OWN WORK. QUERY: laws for a region that draws its order and grows a list by what a call answers.
-/
import Derived.Test.Qxb6500412aGreatS10
import Derived.Test.Qxb6500412aGreatERg
import Derived.Test.Qxb6500412aGreatBWh
namespace Go.Proofs.Qxb6500412aGreat
open Go.RowKit Go.PlainAid
set_option linter.unusedSimpArgs false
set_option linter.unusedVariables false

section
variable {ops : Array Oper} {o p : Oper} {a : Act} {w : World} {Q : Exit → Act → World → Prop} {md : Region.Mode} {S : World → Prop} {fuel : Nat} {listed : Array Bool}
/-- The one operation that may come next yields a value. -/
theorem soneH (i : Nat) (hr : Region.ready md ops listed = [i]) (hi : ops[i]? = some o) (d : Nat) (hd : o.dst = some d) (hgd : o.guard = none) {v : Value} {w1 : World} (hx : (execOp a.eval o).run Tryz.prog w = .ok (.value v) w1) (hK : S w1 ∧ wpAnyH Tryz.prog md ops Q S fuel (listed.setIfInBounds i true) (a.put (some d) v) w1) : wpAnyH Tryz.prog md ops Q S (fuel + 1) listed a w := by
  rw [← hd] at hK
  refine wpAnyH_ready hr (by simp) (AllReadyH.cons hi (fun K' hK' => ?_) AllReadyH.nil)
  have hw : Region.wanted o (yielded ops a.tmps) = true := by simp [Region.wanted, hgd]
  rw [if_pos hw]
  unfold Oper.wp
  rw [hx]
  exact hK'.out _ _ hK.1 (fun _ => hK.2)
/-- One of two comes next; each yields a value. -/
theorem spairH (i j : Nat) (hr : Region.ready md ops listed = [i, j]) (hi : ops[i]? = some o) (hj : ops[j]? = some p) (d e : Nat) (hd : o.dst = some d) (he : p.dst = some e) (hgd : o.guard = none) (hge : p.guard = none) {v u : Value} {w1 w2 : World} (hx : (execOp a.eval o).run Tryz.prog w = .ok (.value v) w1) (hy : (execOp a.eval p).run Tryz.prog w = .ok (.value u) w2) (hK : S w1 ∧ wpAnyH Tryz.prog md ops Q S fuel (listed.setIfInBounds i true) (a.put (some d) v) w1) (hL : S w2 ∧ wpAnyH Tryz.prog md ops Q S fuel (listed.setIfInBounds j true) (a.put (some e) u) w2) : wpAnyH Tryz.prog md ops Q S (fuel + 1) listed a w := by
  rw [← hd] at hK
  rw [← he] at hL
  refine wpAnyH_ready hr (by simp) (AllReadyH.cons hi (fun K' hK' => ?_) (AllReadyH.cons hj (fun K' hK' => ?_) AllReadyH.nil))
  · have hw : Region.wanted o (yielded ops a.tmps) = true := by simp [Region.wanted, hgd]
    rw [if_pos hw]
    unfold Oper.wp
    rw [hx]
    exact hK'.out _ _ hK.1 (fun _ => hK.2)
  · have hw : Region.wanted p (yielded ops a.tmps) = true := by simp [Region.wanted, hge]
    rw [if_pos hw]
    unfold Oper.wp
    rw [hy]
    exact hK'.out _ _ hL.1 (fun _ => hL.2)
/-- One of two comes next: one yields a value, the other calls a function. -/
theorem pairC (i j : Nat) (hr : Region.ready md ops listed = [i, j]) (hi : ops[i]? = some o) (hj : ops[j]? = some p) (d e : Nat) (hd : o.dst = some d) (he : p.dst = some e) (hgd : o.guard = none) (hgp : p.guard = none) {v : Value} (hx : (execOp a.eval o).run Tryz.prog w = .ok (.value v) w) (hK : S w ∧ wpAnyH Tryz.prog md ops Q S fuel (listed.setIfInBounds i true) (a.put (some d) v) w)
    (f : Nat) {fn : Func} (hf : Tryz.prog.funcs[f]? = some fn) (hf1 : decide (fn.name = "runtime.NumGoroutine") = false) (hf2 : fn.body.isSome = true) (cargs : Array Operand) (tys : Array TypeId) (ho : p.op = .call { callee := .value (.func f), args := cargs, argTypes := tys }) (vals : Array Value) (hv : cargs.map a.eval = vals)
    {R : Value → World → Prop} (hC : Calls Tryz.prog f vals w (fun e w' => ∃ v, e = .returned v ∧ R v w'))
    (hL : ∀ u w', R u w' → S w' ∧ wpAnyH Tryz.prog md ops Q S fuel (listed.setIfInBounds j true) (a.put (some e) u) w') : wpAnyH Tryz.prog md ops Q S (fuel + 1) listed a w := by
  rw [← hd] at hK
  rw [← he] at hL
  refine wpAnyH_ready hr (by simp) (AllReadyH.cons hi (fun K' hK' => ?_) (AllReadyH.cons hj (fun K' hK' => ?_) AllReadyH.nil))
  · have hw : Region.wanted o (yielded ops a.tmps) = true := by simp [Region.wanted, hgd]
    rw [if_pos hw]
    unfold Oper.wp
    rw [hx]
    exact hK'.out _ _ hK.1 (fun _ => hK.2)
  · have hw : Region.wanted p (yielded ops a.tmps) = true := by simp [Region.wanted, hgp]
    rw [if_pos hw]
    have hC2 : Calls Tryz.prog f vals w (fun
        | .returned v, w'' => K' (a.put p.dst v) w''
        | .panicked chain, w'' => Q (.panic chain) a w''
        | .outgrown, _ => LetsOut Q) := hC.mono (by
      rintro e w' ⟨v, rfl, h⟩
      exact hK'.out _ _ (hL v w' h).1 (fun _ => (hL v w' h).2))
    unfold Oper.wp
    have e : (execOp a.eval p).run Tryz.prog w = .ok (.enter f vals) w := by
      simp [execOp, ho, resolve, invoke, Act.eval, Result.andThen, Sem.run_bind, Sem.run_pure, Deferred.ofValue, callFunc, hv, hf]
      have hf1' : ¬ fn.name = "runtime.NumGoroutine" := by simpa using hf1
      have hf2' : ¬ fn.body = none := by
        intro h
        rw [h] at hf2
        cases hf2
      simp [hf1', hf2']
    rw [e]
    exact hC2
/-- The one operation that may come next appends. -/
theorem sappH (i : Nat) (hr : Region.ready md ops listed = [i]) (hi : ops[i]? = some o) (d : Nat) (hd : o.dst = some d) (hgd : o.guard = none) (s x : Operand) (t : TypeId) (ho : o.op = .call { callee := .builtin .append, args := #[s, x], argTypes := #[t, t] })
    (base : Nat) (e : TypeId) (i0 : TypeInfo) (z : Value) (size bytes : Nat) (ht : Tryz.prog.underlying t = some (.slice e)) (hi0 : Tryz.prog.info? e = some i0) (hz : i0.zero = some z)
    (hsize : i0.size = size) (hby : i0.bytes = bytes) (hzs : z.cells.size = size) (hsz : 0 < size)
    (v : Value) (n : Nat) (xs : List Value) (hs : a.eval s = v) (hown : w.ownsRow base e size v n xs)
    (ad : Addr) (m c : Nat) (news : List Value) (hx : a.eval x = .slice (some ad) m c) (hl : news.length = m * size) (hnews : ∀ j u, news[j]? = some u → w.cell? (ad.add j) = some u) (h1 : ∀ u ∈ news, u.oneCell' = true)
    (hm : 0 < m) (h63 : n + m ≤ maxLen) (hbytes : (n + m) * bytes ≤ 140737488355328) (hbase : base ≤ w.heap.size) (H : Nat) (hH : w.heap.size = H)
    (hK : ∀ g cap w', w'.ownsRow base e size (.slice (some ⟨g, 0, none⟩) (n + m) cap) (n + m) (xs ++ news) → w.grownBy w' v.ownBlock → (v.ownBlock = some g ∨ g = H) → g < w'.heap.size → S w' ∧ wpAnyH Tryz.prog md ops Q S fuel (listed.setIfInBounds i true) (a.put (some d) (.slice (some ⟨g, 0, none⟩) (n + m) cap)) w') : wpAnyH Tryz.prog md ops Q S (fuel + 1) listed a w := by
  rw [← hd] at hK
  exact wpAnyH_ready hr (by simp) (AllReadyH.cons hi (fun K' hK' => step_append_lies w hgd s x t ho base e i0 z size bytes ht hi0 hz hsize hby hzs hsz v n xs hs hown ad m c news hx hl hnews h1 hm h63 hbytes hbase H hH (fun g cap w' a1 a2 a3 a4 => hK'.out _ _ (hK g cap w' a1 a2 a3 a4).1 (fun _ => (hK g cap w' a1 a2 a3 a4).2))) AllReadyH.nil)
end
end Go.Proofs.Qxb6500412aGreat
