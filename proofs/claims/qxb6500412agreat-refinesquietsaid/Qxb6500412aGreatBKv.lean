/-
  OWN WORK. THE B-TREE: laws on whole entries: alloc, load, store, results.
-/
import Derived.Test.Qxb6500412aGreatBFind
namespace Go.Proofs.Qxb6500412aGreat
open Go.RowKit Go.PlainAid
set_option linter.unusedSimpArgs false
set_option linter.unusedVariables false

def kvR (e : KV) : Array Value := #[.string e.1, .string e.2]
def kvA (e : KV) : Value := .agg (kvR e)
def KvAt (w : World) (g : Nat) (e : KV) : Prop := Has w g (kvR e) 271
theorem KvAt.keep {w w' : World} {g : Nat} {e : KV} {S : Nat → Prop} (h : KvAt w g e) (ho : Only S w w') (hS : ¬ S g) : KvAt w' g e := Has.keep h ho hS
theorem KvAt.k {w : World} {g : Nat} {e : KV} (h : KvAt w g e) : w.cell? ⟨g, 0, none⟩ = some (.string e.1) ∧ w.frozen? ⟨g, 0, none⟩ = false := ⟨by rw [Has.cell h]; rfl, Has.free h _⟩
theorem KvAt.v {w : World} {g : Nat} {e : KV} (h : KvAt w g e) : w.cell? ⟨g, 1, none⟩ = some (.string e.2) ∧ w.frozen? ⟨g, 1, none⟩ = false := ⟨by rw [Has.cell h]; rfl, Has.free h _⟩
theorem kv_size : (Tryz.prog.info? 271).map (·.size) = some 2 := by kernel_rfl
theorem kv_one (e : KV) : (kvR e).all (·.oneCell') = true := by kernel_rfl
theorem zeroKv_run (w : World) : (zeroValue 271).run Tryz.prog w = .ok (kvA kvD) w := by kernel_rfl
theorem run_loadKv {w : World} {g : Nat} {e : KV} (h : KvAt w g e) : (loadVar 271 ⟨g, 0, none⟩).run Tryz.prog w = .ok (kvA e) w :=
  run_loadVar_row w g 271 271 _ (0, 0) _ h Tryz.underlying271 rfl (by rw [kv_size]; rfl)
section
variable {ops : Array Oper} {rest : List Oper} {o : Oper} {a : Act} {w : World} {Q : Exit → Act → World → Prop}
theorem wpList_load_kv (hgd : o.guard = none) (x : Operand) (ho : o.op = .load 271 x) (g : Nat) (hx : a.eval x = .pointer (some ⟨g, 0, none⟩)) {e : KV} (h : KvAt w g e)
    (hK : wpList Tryz.prog ops Q rest (a.put o.dst (kvA e)) w) : wpList Tryz.prog ops Q (o :: rest) a w :=
  wpList_load_row hgd 271 x ho g hx 271 (kvR e) (0, 0) _ h Tryz.underlying271 rfl (by rw [kv_size]; rfl) hK
theorem wpList_store_kv (hgd : o.guard = none) (x y : Operand) (ho : o.op = .store 271 x y) (g : Nat) (e : KV) (hx : a.eval x = .pointer (some ⟨g, 0, none⟩)) (hy : a.eval y = kvA e) {old : KV} (h : KvAt w g old)
    (hK : ∀ w', KvAt w' g e → Only (fun k => k = g) w w' → wpList Tryz.prog ops Q rest (a.put o.dst undef) w') : wpList Tryz.prog ops Q (o :: rest) a w := by
  refine wpList_plain hgd fun _ hK2 => wp_store_row 271 x y ho g (kvR e) hx hy 271 (kvR old) h (by rw [kv_size]; rfl) rfl (kv_one e) (hK2 _ _ (hK _ ?_ setRow_only))
  exact setRow_heap w g _ _ 271 _ h
theorem wpList_alloc_kvd (d : Nat) (hd : o.dst = some d) (hgd : o.guard = none) (ho : o.op = .alloc 271)
    (hK : ∀ g w', KvAt w' g kvD → w.heap.size ≤ g → Only (fun _ => False) w w' → wpList Tryz.prog ops Q rest (a.put o.dst (.pointer (some ⟨g, 0, none⟩))) w') : wpList Tryz.prog ops Q (o :: rest) a w := by
  refine wpList_plain hgd fun _ hK2 => ?_
  have := hK2 _ _ (hK w.heap.size (w.alloc (.cells (kvR kvD) 271)) (Has.new w _ _) (Nat.le_refl _) ((Only.refl _ w).alloc _))
  unfold Oper.wp execOp
  simp only [ho, Instr.alloc, Sem.run_bind, zeroKv_run, Result.andThen_ok, kvA]
  exact this
end
theorem res2_kv {fn : Func} {p u : Tmp} (h : fn.results = #[.cell p 271, .tmp u]) (tmps : Array Value) {w : World} {g : Nat} {e : KV} (hp : tmps.getD p undef = .pointer (some ⟨g, 0, none⟩)) (hn : KvAt w g e) : (results fn tmps).run Tryz.prog w = .ok (.tuple #[kvA e, tmps.getD u undef]) w := by
  simp only [results, h]
  have hp' : tmps[p]?.getD undef = .pointer (some ⟨g, 0, none⟩) := by simpa using hp
  simp [Sem.run_bind, Result.andThen, hp', asAddr, run_loadKv hn]
theorem KvAt.set {w : World} {g : Nat} {e f : KV} (h : KvAt w g e) : KvAt ((w.setCell ⟨g, 0, none⟩ (.string f.1)).setCell ⟨g, 1, none⟩ (.string f.2)) g f := by
  have := Has.setCell (Has.setCell h 0 (.string f.1)) 1 (.string f.2)
  exact this
end Go.Proofs.Qxb6500412aGreat
