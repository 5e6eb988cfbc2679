/-
  OWN WORK. THE LAW OF DIFF: the model's Merge, New of both sides, Check, Ground.
-/
import Derived.Test.Qxb6500416aDL7
import Derived.Test.Qxb6500416aDMg3
import Derived.Test.Qxb6500416aDMrg
namespace Go.Proofs.Qxb6500416a
open Go.RowKit Go.PlainAid
set_option linter.unusedSimpArgs false
set_option linter.unusedVariables false

theorem dmmerge_big (mp : Value) (b o t : ByteArray) (h : 1024 < b.size ∨ 1024 < o.size ∨ 1024 < t.size) (w : World) :
    Calls Try.prog 29 #[mp, .string b, .string o, .string t] w fun x w' => x = .returned (.tuple #[.string ⟨#[]⟩, .int .i64 0, .int .i64 4]) ∧ w = w' := by
  by_cases h1 : 1024 < b.size
  · have a1 : decide ((1024 : Int) < (b.size : Int)) = true := decide_eq_true (by omega)
    go_enter Try.func29, Try.ntmps29
    go_wp2_with fail
    go_ret3
    exact ⟨rfl, rfl⟩
  · have a1 : decide ((1024 : Int) < (b.size : Int)) = false := decide_eq_false (by omega)
    by_cases h2 : 1024 < o.size
    · have a2 : decide ((1024 : Int) < (o.size : Int)) = true := decide_eq_true (by omega)
      go_enter Try.func29, Try.ntmps29
      go_wp2_with fail
      go_ret3
      exact ⟨rfl, rfl⟩
    · have a2 : decide ((1024 : Int) < (o.size : Int)) = false := decide_eq_false (by omega)
      have a3 : decide ((1024 : Int) < (t.size : Int)) = true := decide_eq_true (by omega)
      go_enter Try.func29, Try.ntmps29
      go_wp2_with fail
      go_ret3
      exact ⟨rfl, rfl⟩
theorem dmmerge_fit (mp : Value) (b o t : ByteArray) (hb : b.size ≤ 1024) (ho : o.size ≤ 1024) (ht : t.size ≤ 1024) (w : World) :
    Calls Try.prog 29 #[mp, .string b, .string o, .string t] w fun x w' => x = .returned (.tuple #[.string (sb (mergeT b o t)), .int .i64 (mergeN b o t : Nat), .int .i64 0]) ∧ Only (fun _ => False) w w' := by
  have a1 : decide ((1024 : Int) < (b.size : Int)) = false := decide_eq_false (by omega)
  have a2 : decide ((1024 : Int) < (o.size : Int)) = false := decide_eq_false (by omega)
  have a3 : decide ((1024 : Int) < (t.size : Int)) = false := decide_eq_false (by omega)
  have C : Calls Try.prog 51 #[.string b, .string o, .string t] w fun x w' => x = .returned (.tuple #[.string (sb (mergeT b o t)), .int .i64 (mergeN b o t : Nat)]) ∧ Only (fun _ => False) w w' := merge3_any b o t hb ho ht w
  have C1 := hide C
  clear C
  generalize mergeT b o t = R at *
  generalize mergeN b o t = N at *
  go_enter Try.func29, Try.ntmps29
  go_wp2_with fail
  refine (unhide C1).mono ?_
  rintro x w1 ⟨rfl, o1⟩
  go_wp2_with fail
  go_ret3
  exact ⟨rfl, o1⟩
def zeroEng : Array Value := tabV 11 (ecell (fun _ => 0) (.slice none 0 0) (.slice none 0 0) (.slice none 0 0))
theorem zeroEng_run (w : World) : (zeroValue 52).run Try.prog w = .ok (.agg zeroEng) w := by kernel_rfl
theorem dnew_any (w : World) :
    Calls Try.prog 9 #[] w fun x w' => ∃ e, x = .returned (.pointer (some ⟨e, 0, none⟩)) ∧ w.heap.size ≤ e ∧ e < w'.heap.size ∧ EP w' e [] (fun y => y = e) ∧ Only (fun _ => False) w w' := by
  have z := zeroEng_run w
  have h0 : EAt (w.alloc (.cells zeroEng 52)) w.heap.size (fun _ => 0) (.slice none 0 0) (.slice none 0 0) (.slice none 0 0) := Has.new w zeroEng 52
  have o0 : Only (fun _ => False) w (w.alloc (.cells zeroEng 52)) := (Only.refl _ w).alloc _
  have hE : EP (w.alloc (.cells zeroEng 52)) w.heap.size [] (fun y => y = w.heap.size) := ⟨⟨_, _, _, _, h0, World.ownsRow_nil _ _ _ _, World.ownsRow_nil _ _ _ _, World.ownsRow_nil _ _ _ _, fun b _ => by simp [lastB], fun y hy => by simp [Value.ownBlock] at hy, fun y hy => by simp [Value.ownBlock] at hy⟩, rfl, fun k hk => by subst hk; exact h0.lt, List.nodup_nil⟩
  have HE := hide hE
  have hl := h0.lt
  clear hE h0
  go_enter Try.func9, Try.ntmps9
  go_wp2_with fail
  go_ret
  exact ⟨_, rfl, Nat.le_refl _, hl, unhide HE, o0⟩
theorem dmnew_any (w : World) :
    Calls Try.prog 10 #[] w fun x w' => ∃ mp, x = .returned mp ∧ Only (fun _ => False) w w' := by
  have o0 : ∀ b, Only (fun _ => False) w (w.alloc b) := fun b => (Only.refl _ w).alloc _
  go_enter Try.func10, Try.ntmps10
  go_wp2_with fail
  go_ret
  exact ⟨_, rfl, o0 _⟩
theorem dcheck_any (v : Value) (w : World) :
    Calls Try.prog 11 #[v] w fun x w' => x = .returned (.bool true) ∧ w = w' := by
  go_enter Try.func11, Try.ntmps11
  go_wp2_with fail
  go_ret
  exact ⟨rfl, rfl⟩
end Go.Proofs.Qxb6500416a
