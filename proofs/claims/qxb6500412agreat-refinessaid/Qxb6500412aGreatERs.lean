/-
  OWN WORK. TABLE: results that lie in memory: heads and schemas.
-/
import Derived.Test.Qxb6500412aGreatEHd
namespace Go.Proofs.Qxb6500412aGreat
open Go.RowKit Go.PlainAid
set_option linter.unusedSimpArgs false
set_option linter.unusedVariables false

def Newer (w : World) (v : Value) : Prop := ∀ k, v.ownBlock = some k → w.heap.size ≤ k
theorem Tryz.sizeEHead : (Tryz.prog.info? 275).map (·.size) = some 5 := by kernel_rfl
theorem run_loadHd {w : World} {g : Nat} {c : Array Value} (h : Has w g c 275) (hc : c.size = 5) : (loadVar 275 ⟨g, 0, none⟩).run Tryz.prog w = .ok (.agg c) w :=
  run_loadVar_row w g 275 275 _ (0, 0) _ h Tryz.underlying275 rfl (by rw [Tryz.sizeEHead, hc])
theorem run_loadSch {w : World} {g : Nat} {c : Array Value} (h : Has w g c 79) (hc : c.size = 4) : (loadVar 79 ⟨g, 0, none⟩).run Tryz.prog w = .ok (.agg c) w :=
  run_loadVar_row w g 79 79 _ (0, 0) _ h Tryz.underlying79 rfl (by rw [Tryz.sizeESch, hc])
theorem res2_hd {fn : Func} {p u : Tmp} (h : fn.results = #[.cell p 275, .tmp u]) (tmps : Array Value) {w : World} {g : Nat} {c : Array Value} (hp : tmps.getD p undef = .pointer (some ⟨g, 0, none⟩)) (hn : Has w g c 275) (hc : c.size = 5) : (results fn tmps).run Tryz.prog w = .ok (.tuple #[.agg c, tmps.getD u undef]) w := by
  simp only [results, h]
  have hp' : tmps[p]?.getD undef = .pointer (some ⟨g, 0, none⟩) := by simpa using hp
  simp [Sem.run_bind, Result.andThen, hp', asAddr, run_loadHd hn hc]
theorem res2_sch {fn : Func} {p u : Tmp} (h : fn.results = #[.cell p 79, .tmp u]) (tmps : Array Value) {w : World} {g : Nat} {c : Array Value} (hp : tmps.getD p undef = .pointer (some ⟨g, 0, none⟩)) (hn : Has w g c 79) (hc : c.size = 4) : (results fn tmps).run Tryz.prog w = .ok (.tuple #[.agg c, tmps.getD u undef]) w := by
  simp only [results, h]
  have hp' : tmps[p]?.getD undef = .pointer (some ⟨g, 0, none⟩) := by simpa using hp
  simp [Sem.run_bind, Result.andThen, hp', asAddr, run_loadSch hn hc]
theorem res3_hs {fn : Func} {p r u : Tmp} (h : fn.results = #[.cell p 275, .cell r 79, .tmp u]) (tmps : Array Value) {w : World} {g k : Nat} {c d : Array Value} (hp : tmps.getD p undef = .pointer (some ⟨g, 0, none⟩)) (hr : tmps.getD r undef = .pointer (some ⟨k, 0, none⟩)) (hn : Has w g c 275) (hc : c.size = 5) (hm : Has w k d 79) (hd : d.size = 4) : (results fn tmps).run Tryz.prog w = .ok (.tuple #[.agg c, .agg d, tmps.getD u undef]) w := by
  simp only [results, h]
  have hp' : tmps[p]?.getD undef = .pointer (some ⟨g, 0, none⟩) := by simpa using hp
  have hr' : tmps[r]?.getD undef = .pointer (some ⟨k, 0, none⟩) := by simpa using hr
  simp [Sem.run_bind, Result.andThen, hp', hr', asAddr, run_loadHd hn hc, run_loadSch hm hd]
end Go.Proofs.Qxb6500412aGreat
