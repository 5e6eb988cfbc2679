/-
  OWN WORK. THE B-TREE: the forest with its pages in sight; a look leaves the pages as they are.
-/
import Derived.Test.Qxb6500410aGreatBKj
namespace Go.Proofs.Qxb6500410aGreat
open Go.RowKit Go.PlainAid
set_option linter.unusedSimpArgs false
set_option linter.unusedVariables false

def FW (q : Gnd) (w : World) (op : Bool) (view : List ByteArray) (S : Vu) : Prop := ∃ F, FA q w op view ∧ FI (NV view) F ∧ vu F = S
section
variable {q : Gnd} {w w' : World} {op : Bool} {view : List ByteArray} {S : Vu}
theorem FV.vw (A : FV q w op S) : ∃ view, FW q w op view S := by
  obtain ⟨view, F, A, I, rfl⟩ := A
  exact ⟨view, F, A, I, rfl⟩
theorem FW.fv (A : FW q w op view S) : FV q w op S := by
  obtain ⟨F, A, I, rfl⟩ := A
  exact ⟨view, F, A, I, rfl⟩
theorem FW.fa (A : FW q w op view S) : FA q w op view := by
  obtain ⟨F, A, I, rfl⟩ := A
  exact A
theorem FW.ok (A : FW q w op view S) : Vok S := A.fv.ok
theorem FW.turn (A : FW q w op view S) (h : FA q w' op view) : FW q w' op view S := by
  obtain ⟨F, A, I, rfl⟩ := A
  exact ⟨F, h, I, rfl⟩
theorem FW.quiet (A : FW q w op view S) (ho : Only (fun _ => False) w w') : FW q w' op view S := A.turn (A.fa.quiet ho)
theorem FW.keep {B : Nat → Prop} (A : FW q w op view S) (ho : Only B w w') (hB : ∀ k, q.A k → ¬ B k) : FW q w' op view S :=
  A.turn (A.fa.keep ho (fun k hk => hB k (.inl hk)) (fun k hk => hB k (.inr (.inl hk))) (hB _ (.inr (.inr (.inl rfl)))) (hB _ (.inr (.inr (.inr rfl)))))
theorem FW.nS (A : FW q w op view S) {k : Nat} (hk : w.heap.size ≤ k) : ¬ q.S k := A.fa.nS hk
theorem FW.loc {w0 : World} {op0 : Bool} {v0 : List ByteArray} {S0 : Vu} (A : FW q w op view S) (A0 : FW q w0 op0 v0 S0) {k : Nat} (hk : w0.heap.size ≤ k) (ho : Only (fun x => x = k) w w') : FW q w' op view S := A.turn (A.fa.loc A0.fa hk ho)
theorem yused_any (A : FW q w op view S) (h : Int) : Calls Tryz.prog 37 #[.pointer (some ⟨q.f, 0, none⟩), .int .i64 h] w fun e w' => e = .returned (.bool (Vz S h).isSome) ∧ FW q w' op view S ∧ Only q.S w w' := by
  obtain ⟨F, A, I, rfl⟩ := A
  refine (bused_any A I h).mono ?_
  rintro e w' ⟨rfl, A1, o1⟩
  refine ⟨?_, ⟨F, A1, I, rfl⟩, o1⟩
  rw [Vz_vu]
  cases Fz F h <;> rfl
theorem ycount_any (A : FW q w op view S) : Calls Tryz.prog 36 #[.pointer (some ⟨q.f, 0, none⟩)] w fun e w' => e = .returned (.int .i64 (al8 S).length) ∧ FW q w' op view S ∧ Only q.S w w' := by
  obtain ⟨F, A, I, rfl⟩ := A
  refine (bcount_any A I).mono ?_
  rintro e w' ⟨rfl, A1, o1⟩
  exact ⟨by rw [al8_vu], ⟨F, A1, I, rfl⟩, o1⟩
theorem yget_any (A : FW q w op view S) (h : Int) (k : ByteArray) : Calls Tryz.prog 40 #[.pointer (some ⟨q.f, 0, none⟩), .int .i64 h, .string k] w fun e w' => e = .returned (getS S h k) ∧ FW q w' op view S ∧ Only q.S w w' := by
  obtain ⟨F, A, I, rfl⟩ := A
  refine (bget_any A I h k).mono ?_
  rintro e w' ⟨rfl, A1, o1⟩
  refine ⟨?_, ⟨F, A1, I, rfl⟩, o1⟩
  unfold getF getS
  rw [Vz_vu]
  cases Fz F h <;> rfl
theorem yseek_any (A : FW q w op view S) (h : Int) (k : ByteArray) : Calls Tryz.prog 84 #[.pointer (some ⟨q.f, 0, none⟩), .int .i64 h, .string k] w fun e w' => e = .returned (seekS S h k false) ∧ FW q w' op view S ∧ Only q.S w w' := by
  obtain ⟨F, A, I, rfl⟩ := A
  refine (bseek_any A I h k).mono ?_
  rintro e w' ⟨rfl, A1, o1⟩
  refine ⟨?_, ⟨F, A1, I, rfl⟩, o1⟩
  unfold seekF seekS
  rw [Vz_vu]
  cases Fz F h <;> rfl
theorem ynext_any (A : FW q w op view S) (h : Int) (k : ByteArray) : Calls Tryz.prog 87 #[.pointer (some ⟨q.f, 0, none⟩), .int .i64 h, .string k] w fun e w' => e = .returned (seekS S h k true) ∧ FW q w' op view S ∧ Only q.S w w' := by
  obtain ⟨F, A, I, rfl⟩ := A
  refine (bnext_any A I h k).mono ?_
  rintro e w' ⟨rfl, A1, o1⟩
  refine ⟨?_, ⟨F, A1, I, rfl⟩, o1⟩
  unfold seekF seekS
  rw [Vz_vu]
  cases Fz F h <;> rfl
theorem yintxn_any (A : FW q w op view S) : Calls Tryz.prog 35 #[.pointer (some ⟨q.f, 0, none⟩)] w fun e w' => e = .returned (.bool op) ∧ w = w' := by
  obtain ⟨F, A, I, rfl⟩ := A
  exact bintxn_any A
end
end Go.Proofs.Qxb6500410aGreat
