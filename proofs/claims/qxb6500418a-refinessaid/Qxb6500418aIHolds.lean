/-
  OWN WORK. THE INDEX: holds, codeOf.
-/
import Derived.Test.Qxb6500418aILoad
namespace Go.Proofs.Qxb6500418a
open Go.RowKit Go.PlainAid
set_option linter.unusedSimpArgs false
set_option linter.unusedVariables false

def codeB (before now alike : Bool) : Nat := if before = true ∧ now = true then (if alike = true then 0 else 2) else if now = true then 1 else if before = true then 3 else 0
theorem codeOf_any (before now alike : Bool) (w : World) :
    Calls Try.prog 50 #[.bool before, .bool now, .bool alike] w fun e w' => e = .returned (.int .i64 (codeB before now alike : Nat)) ∧ w = w' := by
  cases before <;> cases now <;> cases alike <;>
  · go_enter Try.func50, Try.ntmps50
    go_wp2_with fail
    go_ret
    exact ⟨rfl, rfl⟩
set_option maxRecDepth 100000 in
set_option maxHeartbeats 1000000 in
theorem holds_any (f : Fl) (data : ByteArray) (hd : data.size ≤ 1000000) (w : World) :
    Calls Try.prog 49 #[.agg #[.string f.path, .string f.data, .int .i64 f.mode, .int .i64 (f.data.size : Int), .int .i64 (hashL (ls f.data) : Int)], .string data] w fun e w' => e = .returned (.bool (decide (f.data = data))) ∧ Only (fun _ => False) w w' := by
  have r0 := Has.new w #[.string f.path, .string f.data, .int .i64 f.mode, .int .i64 (f.data.size : Int), .int .i64 (hashL (ls f.data) : Int)] 86
  have o0 : Only (fun _ => False) w (w.alloc (.cells #[.string f.path, .string f.data, .int .i64 f.mode, .int .i64 (f.data.size : Int), .int .i64 (hashL (ls f.data) : Int)] 86)) := (Only.refl _ w).alloc _
  have C1 := hide (hashOf_any data (by omega) (w.alloc (.cells #[.string f.path, .string f.data, .int .i64 f.mode, .int .i64 (f.data.size : Int), .int .i64 (hashL (ls f.data) : Int)] 86)))
  have y1 := r0.cell 1
  have y3 := r0.cell 3
  have y4 := r0.cell 4
  by_cases h1 : f.data.size = data.size
  · have a1 : ((f.data.size : Int) != (data.size : Int)) = false := by rw [h1]; simp
    by_cases h2 : hashL (ls data) = hashL (ls f.data)
    · have a2 : ((hashL (ls data) : Int) != (hashL (ls f.data) : Int)) = false := by rw [h2]; simp
      have hb : (f.data.toList == data.toList) = decide (f.data = data) := by
        rw [ls_eq_iff]
        by_cases e : f.data = data
        · rw [e]; simp
        · rw [decide_eq_false e, decide_eq_false (fun h => e (ls_inj h))]
      have Hb := hide hb
      clear hb h1 h2 r0
      go_enter Try.func49, Try.ntmps49
      go_wp2_with fail
      refine (unhide C1).mono ?_
      rintro e w1 ⟨rfl, rfl⟩
      go_wp2_with fail
      go_ret
      rw [← unhide Hb]
      exact ⟨rfl, o0⟩
    · have a2 : ((hashL (ls data) : Int) != (hashL (ls f.data) : Int)) = true := by simp; omega
      have hb : decide (f.data = data) = false := decide_eq_false (fun e => h2 (by rw [e]))
      have Hb := hide hb
      clear hb h1 h2 r0
      go_enter Try.func49, Try.ntmps49
      go_wp2_with fail
      refine (unhide C1).mono ?_
      rintro e w1 ⟨rfl, rfl⟩
      go_wp2_with fail
      go_ret
      rw [unhide Hb]
      exact ⟨rfl, o0⟩
  · have a1 : ((f.data.size : Int) != (data.size : Int)) = true := by simp; omega
    have hb : decide (f.data = data) = false := decide_eq_false (fun e => h1 (by rw [e]))
    have Hb := hide hb
    clear hb h1 r0 C1
    go_enter Try.func49, Try.ntmps49
    go_wp2_with fail
    go_ret
    rw [unhide Hb]
    exact ⟨rfl, o0⟩
end Go.Proofs.Qxb6500418a
