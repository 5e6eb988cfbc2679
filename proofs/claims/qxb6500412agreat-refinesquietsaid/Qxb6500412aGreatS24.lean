/-
  OWN WORK. QUERY: an answer; fail.
-/
import Derived.Test.Qxb6500412aGreatS23
namespace Go.Proofs.Qxb6500412aGreat
open Go.RowKit Go.PlainAid
set_option linter.unusedSimpArgs false
set_option linter.unusedVariables false

theorem Tryz.sizeResult : (Tryz.prog.info? 52).map (·.size) = some 4 := by kernel_rfl
theorem sres_result {fn : Func} {p : Tmp} (h : fn.results = #[.cell p 52]) (tmps : Array Value) {w : World} {g : Nat} {c : Array Value} (hp : tmps.getD p undef = .pointer (some ⟨g, 0, none⟩)) (hn : Has w g c 52) (hc : c.size = 4) : (results fn tmps).run Tryz.prog w = .ok (.agg c) w :=
  sres_cell h tmps hp (run_loadVar_row w g 52 52 _ (0, 0) _ hn Tryz.underlying52 rfl (by rw [Tryz.sizeResult, hc]))
set_option maxRecDepth 100000 in
theorem sqfailE_any (e0 : Int) (w : World) : Calls Tryz.prog 103 #[.int .i64 e0] w fun e w' => e = .returned (.agg #[.int .i64 e0, .int .i64 0, .slice none 0 0, .slice none 0 0]) ∧ Only (fun _ => False) w w' := by
  have o1 : Only (fun _ => False) w (w.alloc (.cells #[.int .i64 e0, .int .i64 0, .slice none 0 0, .slice none 0 0] 52)) := (Only.refl _ w).alloc _
  have N1 := Has.new w #[.int .i64 e0, .int .i64 0, .slice none 0 0, .slice none 0 0] 52
  go_enter Tryz.func103, Tryz.ntmps103
  go_wp2_with fail
  refine bodyPost_ret (sres_result rfl _ rfl N1 rfl) rfl ?_
  exact ⟨rfl, o1⟩
/-- A list that was read: its length, where each part but the last takes k tokens and its sign one. -/
theorem loopP_long {α : Type} {body : Ps → Ps × α} {sep : ByteArray} {k : Nat} (hb : ∀ P, eatB sep (body P).1 = true → (body P).1.1.length + k ≤ P.1.length) : ∀ f P l, (loopP body sep f P l).2.length * (k + 1) ≤ l.length * (k + 1) + P.1.length + (k + 1)
  | 0, P, l => by unfold loopP; simp only; omega
  | f + 1, P, l => by
    unfold loopP
    by_cases c : eatB sep (body P).1 = true
    · rw [if_pos c]
      have h1 := loopP_long hb f (nextP (body P).1) (l ++ [(body P).2])
      have h2 := eat_len c
      have h3 := hb P c
      have h4 : (l ++ [(body P).2]).length = l.length + 1 := by simp
      rw [h4, Nat.add_mul] at h1
      omega
    · rw [if_neg c]
      show (l ++ [(body P).2]).length * (k + 1) ≤ _
      have h4 : (l ++ [(body P).2]).length = l.length + 1 := by simp
      rw [h4, Nat.add_mul]
      omega
theorem listP_long {α : Type} {body : Ps → Ps × α} {sep : ByteArray} {k : Nat} (hb : ∀ P, eatB sep (body P).1 = true → (body P).1.1.length + k ≤ P.1.length) (P : Ps) (l : List α) : (listP body sep P l).2.length * (k + 1) ≤ l.length * (k + 1) + P.1.length + (k + 1) := loopP_long hb _ P l
end Go.Proofs.Qxb6500412aGreat
