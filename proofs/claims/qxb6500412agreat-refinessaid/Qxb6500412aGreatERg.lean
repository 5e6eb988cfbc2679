/-
  OWN WORK. TABLE: regions that draw, by hand: a struct loaded whole, a struct stored whole.
-/
import Derived.Test.Qxb6500412aGreatERs
import Derived.Test.Qxb6500412aGreatBWh
namespace Go.Proofs.Qxb6500412aGreat
open Go.RowKit Go.PlainAid
set_option linter.unusedSimpArgs false
set_option linter.unusedVariables false

theorem yieldsIf_load_hd {ops : Array Oper} {o : Oper} {a : Act} {S : World → Prop} (hw : Region.wanted o (yielded ops a.tmps) = true) (x : Operand) (ho : o.op = .load 275 x) (g : Nat) (hx : a.eval x = .pointer (some ⟨g, 0, none⟩)) (c : Array Value) (hc : c.size = 5) (hS : ∀ w, S w → Has w g c 275) : YieldsIf Tryz.prog ops S o (.agg c) a :=
  .inl ⟨hw, fun w hw' => by
    unfold execOp
    simp only [ho, hx, Instr.loadAt, Instr.sureAddr, Sem.run_bind, Sem.run_pure, Result.andThen_ok, run_loadHd (hS w hw') hc]⟩
theorem yieldsIf_load_sch {ops : Array Oper} {o : Oper} {a : Act} {S : World → Prop} (hw : Region.wanted o (yielded ops a.tmps) = true) (x : Operand) (ho : o.op = .load 79 x) (g : Nat) (hx : a.eval x = .pointer (some ⟨g, 0, none⟩)) (c : Array Value) (hc : c.size = 4) (hS : ∀ w, S w → Has w g c 79) : YieldsIf Tryz.prog ops S o (.agg c) a :=
  .inl ⟨hw, fun w hw' => by
    unfold execOp
    simp only [ho, hx, Instr.loadAt, Instr.sureAddr, Sem.run_bind, Sem.run_pure, Result.andThen_ok, run_loadSch (hS w hw') hc]⟩
theorem storeH_row {ops : Array Oper} {o : Oper} {a : Act} {w : World} {Q : Exit → Act → World → Prop} {md : Region.Mode} {S : World → Prop} {fuel : Nat} {listed : Array Bool} (ty : TypeId) (i : Nat) (hr : Region.ready md ops listed = [i]) (hi : ops[i]? = some o) (hd : o.dst = none) (hgd : o.guard = none) (x y : Operand) (ho : o.op = .store ty x y) (g : Nat) (c old : Array Value) (hx : a.eval x = .pointer (some ⟨g, 0, none⟩)) (hy : a.eval y = .agg c) (h : Has w g old ty) (hsz : (Tryz.prog.info? ty).map (·.size) = some c.size) (hos : old.size = c.size) (h1 : c.all (·.oneCell') = true)
    (hK : ∀ w', Has w' g c ty → Only (fun k => k = g) w w' → S w' ∧ wpAnyH Tryz.prog md ops Q S fuel (listed.setIfInBounds i true) a w') : wpAnyH Tryz.prog md ops Q S (fuel + 1) listed a w :=
  wpAnyH_ready hr (by simp) (AllReadyH.cons hi (fun K' hK' => by
    have hw : Region.wanted o (yielded ops a.tmps) = true := by simp [Region.wanted, hgd]
    rw [if_pos hw]
    refine wp_store_row ty x y ho g c hx hy ty old h hsz hos h1 ?_
    have := hK _ (setRow_heap w g _ _ ty _ h) setRow_only
    exact hK'.out _ _ this.1 (fun _ => by rw [hd]; exact this.2)) AllReadyH.nil)
end Go.Proofs.Qxb6500412aGreat
