/-
  OWN WORK. THE MODEL pagerm: its states: fresh, clone.
-/
import Derived.Test.Qxb6500411aGreatPgSee
namespace Go.Proofs.Qxb6500411aGreat
open Go.RowKit
set_option linter.unusedSimpArgs false
set_option linter.unusedVariables false

theorem run_copy_boolsN (w : World) (b : Nat) (xs : List Bool) (hx : Has w b (bools xs) 4) (ty : TypeId) :
    (Builtin.copy_ #[81, 81] ty #[.slice (some ⟨w.heap.size, 0, none⟩) xs.length xs.length, .slice (some ⟨b, 0, none⟩) xs.length xs.length]).run Tryz.prog (w.alloc (.cells (bools (nots xs.length)) 4)) =
      .ok (goInt xs.length) (w.alloc (.cells (bools xs) 4)) := by
  obtain ⟨i, hi, hz, hs, hb⟩ := info_parts Tryz.infoBool
  have h := run_copy_row (P := Tryz.prog) (w.alloc (.cells (bools (nots xs.length)) 4)) 81 81 ty 4 w.heap.size 0 xs.length xs.length ⟨b, 0, none⟩ xs.length xs.length (bools (nots xs.length)) 4 (xs.map Value.bool)
    Tryz.underlying81 (by rw [hi]; simp [hs]) (heap_alloc_new w _) (by simp) ?_ (by simp) ?_
  · rw [h, setRow_alloc]
    simp [bools, nots]
  · intro j v hv
    rw [addr_add, (hx.alloc _).cell]
    simpa [bools] using hv
  · intro v hv
    simp only [List.mem_map] at hv
    obtain ⟨a, _, rfl⟩ := hv
    rfl

set_option maxRecDepth 100000 in
theorem copyBoolsN_any (b : Nat) (xs : List Bool) (w : World) (hx : Has w b (bools xs) 4) (hn : xs.length ≤ 1000000) :
    Calls Tryz.prog 56 #[.slice (some ⟨b, 0, none⟩) xs.length xs.length] w fun e w' => e = .returned (.slice (some ⟨w.heap.size, 0, none⟩) xs.length xs.length) ∧ w' = w.alloc (.cells (bools xs) 4) := by
  have hmk := run_make_bools w xs.length hn
  have hcp := run_copy_boolsN w b xs hx
  go_enter Tryz.func56, Tryz.ntmps56
  go_wp2
  go_ret
  exact ⟨rfl, rfl⟩
theorem copyBoolsN_n (b n : Nat) (xs : List Bool) (w : World) (hx : Has w b (bools xs) 4) (hn : xs.length = n) (hm : n ≤ 1000000) :
    Calls Tryz.prog 56 #[.slice (some ⟨b, 0, none⟩) n n] w fun e w' => e = .returned (.slice (some ⟨w.heap.size, 0, none⟩) n n) ∧ w' = w.alloc (.cells (bools xs) 4) := by
  subst hn
  exact copyBoolsN_any b xs w hx hm

structure StAt (w : World) (g : Nat) (used : List Bool) (pg : List ByteArray) (F : Nat → Prop) : Prop where
  ex : ∃ b0 b1, Has w g #[.slice (some ⟨b0, 0, none⟩) 72 72, .slice (some ⟨b1, 0, none⟩) 72 72] 83 ∧ Has w b0 (bools used) 4 ∧ Has w b1 (strs pg) 57 ∧ F g ∧ F b0 ∧ F b1
  lu : used.length = 72
  lp : pg.length = 72
  inn : ∀ k, F k → k < w.heap.size

section
variable {w : World} {g : Nat} {used : List Bool} {pg : List ByteArray} {F : Nat → Prop}

theorem StAt.keep {S : Nat → Prop} {w' : World} (h : StAt w g used pg F) (ho : Only S w w') (hS : ∀ k, F k → ¬ S k) : StAt w' g used pg F := by
  obtain ⟨⟨b0, b1, h1, h2, h3, f, f0, f1⟩, lu, lp, hi⟩ := h
  exact ⟨⟨b0, b1, h1.keep ho (hS _ f), h2.keep ho (hS _ f0), h3.keep ho (hS _ f1), f, f0, f1⟩, lu, lp, fun k hk => Nat.lt_of_lt_of_le (hi k hk) ho.size⟩
theorem StAt.mono {G : Nat → Prop} (h : StAt w g used pg F) (hG : ∀ k, F k → G k) (hi' : ∀ k, G k → k < w.heap.size) : StAt w g used pg G := by
  obtain ⟨⟨b0, b1, h1, h2, h3, f, f0, f1⟩, lu, lp, hi⟩ := h
  exact ⟨⟨b0, b1, h1, h2, h3, hG _ f, hG _ f0, hG _ f1⟩, lu, lp, hi'⟩

set_option maxRecDepth 100000 in
theorem sclone_any (h : StAt w g used pg F) :
    Calls Tryz.prog 32 #[.pointer (some ⟨g, 0, none⟩)] w fun e w' => e = .returned (.pointer (some ⟨w.heap.size, 0, none⟩)) ∧ StAt w' w.heap.size used pg (Ext (fun _ => False) w w') ∧ Only (fun _ => False) w w' := by
  obtain ⟨⟨b0, b1, h1, h2, h3, f, f0, f1⟩, lu, lp, hi⟩ := h
  have hgl := h1.lt
  have c0 := h1.cell 0
  have c1 := h1.cell 1
  have hg1 : g < w.heap.size + 1 := by omega
  have hg2 : g < w.heap.size + 1 + 1 := by omega
  go_enter Tryz.func32, Tryz.ntmps32
  go_wp2_with fail
  refine (copyBoolsN_n b0 72 used _ (h2.alloc _) lu (by omega)).mono ?_
  rintro e w1 ⟨rfl, rfl⟩
  go_wp2_with fail
  refine (copyBlocks_n b1 72 pg _ ((h3.alloc _).alloc _) lp (by omega)).mono ?_
  rintro e w1 ⟨rfl, rfl⟩
  go_wp2_with fail
  go_ret
  refine ⟨rfl, ⟨⟨w.heap.size + 1, w.heap.size + 1 + 1, ((Has.new _ _ _).alloc _).alloc _, ?_, ?_, .inr ?_, .inr ?_, .inr ?_⟩, lu, lp, ?_⟩, (((Only.refl _ w).alloc _).alloc _).alloc _⟩
  · exact Has.alloc (Has.new' _ _ _ _ (by simp)) _
  · exact Has.new' _ _ _ _ (by simp)
  · first | (simp; done) | (simp; omega)
  · first | (simp; done) | (simp; omega)
  · first | (simp; done) | (simp; omega)
  · exact Ext.in (fun _ h => h.elim) (by simp; omega)

set_option maxRecDepth 100000 in
theorem sfresh_any (w : World) :
    Calls Tryz.prog 30 #[] w fun e w' => e = .returned (.pointer (some ⟨w.heap.size, 0, none⟩)) ∧ StAt w' w.heap.size (nots 72) (zeros 72) (Ext (fun _ => False) w w') ∧ Only (fun _ => False) w w' := by
  have hm1 : ∀ w, (Instr.makeSlice 81 (.int .i64 72) (.int .i64 72)).run Tryz.prog w = .ok (.slice (some ⟨w.heap.size, 0, none⟩) 72 72) (w.alloc (.cells (bools (nots 72)) 4)) := fun w => run_make_bools w 72 (by omega)
  go_enter Tryz.func30, Tryz.ntmps30
  go_wp2_with fail
  refine (blocks_any 72 _ (by omega)).mono ?_
  rintro e w1 ⟨rfl, rfl⟩
  go_wp2_with fail
  go_ret
  refine ⟨rfl, ⟨⟨w.heap.size + 1, w.heap.size + 1 + 1, ((Has.new _ _ _).alloc _).alloc _, ?_, ?_, .inr ?_, .inr ?_, .inr ?_⟩, by simp, by simp, ?_⟩, (((Only.refl _ w).alloc _).alloc _).alloc _⟩
  · exact Has.alloc (Has.new' _ _ _ _ (by simp)) _
  · exact Has.new' _ _ _ _ (by simp)
  · first | (simp; done) | (simp; omega)
  · first | (simp; done) | (simp; omega)
  · first | (simp; done) | (simp; omega)
  · exact Ext.in (fun _ h => h.elim) (by simp; omega)
end
end Go.Proofs.Qxb6500411aGreat
