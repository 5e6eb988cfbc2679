/-
  OWN WORK. THE LOG: what writes its memory: Begin, Abort, Write, a new log.
-/
import Derived.Test.Qxb6500412aGreatLog
namespace Go.Proofs.Qxb6500412aGreat
open Go.RowKit
set_option linter.unusedSimpArgs false
set_option linter.unusedVariables false

theorem wbegin_shut (l d : Nat) (es : List (Nat × ByteArray)) (F : Nat → Prop) (w : World) (hl : LogAt w l d false es F) :
    Calls Tryz.prog 144 #[.pointer (some ⟨l, 0, none⟩)] w fun e w' => e = .returned (.int .i64 0) ∧ LogAt w' l d true es F ∧ Only F w w' := by
  obtain ⟨⟨nb, db, gn, gd, h1, h2, h3, h4, h5, f1, f2, f3⟩, hi⟩ := hl
  have c1 := h1.cell 1
  have z1 := h1.free 1
  have n1 := h1.ne h2 (by decide)
  have n2 := h1.ne h3 (by decide)
  go_enter Tryz.func144, Tryz.ntmps144
  go_wp2
  go_ret
  refine ⟨rfl, ⟨⟨nb, db, gn, gd, ?_, h2.setCell_other (fun e => n1 e.symm) _, h3.setCell_other (fun e => n2 e.symm) _, h4, h5, f1, f2, f3⟩, fun k hk => by simpa using hi k hk⟩, (Only.refl F w).setCell (fun _ => f1) _⟩
  simpa using h1.setCell 1 (.bool true)

theorem wbegin_open (l d : Nat) (es : List (Nat × ByteArray)) (F : Nat → Prop) (w : World) (hl : LogAt w l d true es F) :
    Calls Tryz.prog 144 #[.pointer (some ⟨l, 0, none⟩)] w fun e w' => e = .returned (.int .i64 3) ∧ w = w' := by
  obtain ⟨⟨nb, db, gn, gd, h1, h2, h3, h4, h5, f1, f2, f3⟩, hi⟩ := hl
  have c1 := h1.cell 1
  go_enter Tryz.func144, Tryz.ntmps144
  go_wp2
  go_ret
  exact ⟨rfl, rfl⟩

theorem wabort_shut (l d : Nat) (es : List (Nat × ByteArray)) (F : Nat → Prop) (w : World) (hl : LogAt w l d false es F) :
    Calls Tryz.prog 351 #[.pointer (some ⟨l, 0, none⟩)] w fun e w' => e = .returned (.int .i64 2) ∧ w = w' := by
  obtain ⟨⟨nb, db, gn, gd, h1, h2, h3, h4, h5, f1, f2, f3⟩, hi⟩ := hl
  have c1 := h1.cell 1
  go_enter Tryz.func351, Tryz.ntmps351
  go_wp2
  go_ret
  exact ⟨rfl, rfl⟩

/-- The write set emptied, the transaction closed: what Abort and Commit leave in the log's memory. -/
theorem log_shut {l d : Nat} {es : List (Nat × ByteArray)} {F : Nat → Prop} {w : World} (hl : LogAt w l d true es F) :
    LogAt ((w.setCell ⟨l, 1, none⟩ (.bool false)).setCell ⟨l, 2, none⟩ (.int .i64 0)) l d false [] F ∧ Only F w ((w.setCell ⟨l, 1, none⟩ (.bool false)).setCell ⟨l, 2, none⟩ (.int .i64 0)) := by
  obtain ⟨⟨nb, db, gn, gd, h1, h2, h3, h4, h5, f1, f2, f3⟩, hi⟩ := hl
  have n1 := h1.ne h2 (by decide)
  have n2 := h1.ne h3 (by decide)
  refine ⟨⟨⟨nb, db, es.map (fun e => (e.1 : Int)) ++ gn, es.map (·.2) ++ gd, ?_, ?_, ?_, by simp; omega, by simp; omega, f1, f2, f3⟩, fun k hk => by simpa using hi k hk⟩, ((Only.refl F w).setCell (fun _ => f1) _).setCell (fun _ => f1) _⟩
  · simpa using (h1.setCell 1 (.bool false)).setCell 2 (.int .i64 0)
  · simpa using (h2.setCell_other (p := ⟨l, 1, none⟩) (fun e => n1 e.symm) (.bool false)).setCell_other (p := ⟨l, 2, none⟩) (fun e => n1 e.symm) (.int .i64 0)
  · simpa using (h3.setCell_other (p := ⟨l, 1, none⟩) (fun e => n2 e.symm) (.bool false)).setCell_other (p := ⟨l, 2, none⟩) (fun e => n2 e.symm) (.int .i64 0)

theorem wabort_open (l d : Nat) (es : List (Nat × ByteArray)) (F : Nat → Prop) (w : World) (hl : LogAt w l d true es F) :
    Calls Tryz.prog 351 #[.pointer (some ⟨l, 0, none⟩)] w fun e w' => e = .returned (.int .i64 0) ∧ LogAt w' l d false [] F ∧ Only F w w' := by
  have hs := log_shut hl
  obtain ⟨⟨nb, db, gn, gd, h1, h2, h3, h4, h5, f1, f2, f3⟩, hi⟩ := hl
  have c1 := h1.cell 1
  have c2 := h1.cell 2
  have z1 := h1.free 1
  have z2 := h1.free 2
  have Hs := hide hs
  clear hs
  go_enter Tryz.func351, Tryz.ntmps351
  go_wp2
  go_ret
  exact ⟨rfl, (unhide Hs).1, (unhide Hs).2⟩

theorem wwrite_shut (l d : Nat) (es : List (Nat × ByteArray)) (F : Nat → Prop) (b : Int) (x : ByteArray) (w : World) (hl : LogAt w l d false es F) :
    Calls Tryz.prog 148 #[.pointer (some ⟨l, 0, none⟩), .int .i64 b, .string x] w fun e w' => e = .returned (.int .i64 2) ∧ w = w' := by
  obtain ⟨⟨nb, db, gn, gd, h1, h2, h3, h4, h5, f1, f2, f3⟩, hi⟩ := hl
  have c1 := h1.cell 1
  go_enter Tryz.func148, Tryz.ntmps148
  go_wp2_with fail
  go_ret
  exact ⟨rfl, rfl⟩

theorem wwrite_bad (l d : Nat) (es : List (Nat × ByteArray)) (F : Nat → Prop) (b : Int) (x : ByteArray) (w : World) (hl : LogAt w l d true es F) (hb : ¬ (0 ≤ b ∧ b < 80)) :
    Calls Tryz.prog 148 #[.pointer (some ⟨l, 0, none⟩), .int .i64 b, .string x] w fun e w' => e = .returned (.int .i64 1) ∧ w = w' := by
  obtain ⟨⟨nb, db, gn, gd, h1, h2, h3, h4, h5, f1, f2, f3⟩, hi⟩ := hl
  have c1 := h1.cell 1
  have hin := inD_f hb
  clear hb
  go_enter Tryz.func148, Tryz.ntmps148
  go_wp2_with fail
  refine (inData_any _ _).mono ?_
  rintro e w' ⟨rfl, rfl⟩
  go_wp2_with fail
  go_ret
  exact ⟨rfl, rfl⟩

theorem wwrite_full (l d : Nat) (es : List (Nat × ByteArray)) (F : Nat → Prop) (b : Nat) (x : ByteArray) (w : World) (hl : LogAt w l d true es F) (hb : b < 80) (hat : at? es b = none) (hf : es.length = 72) :
    Calls Tryz.prog 148 #[.pointer (some ⟨l, 0, none⟩), .int .i64 b, .string x] w fun e w' => e = .returned (.int .i64 4) ∧ w = w' := by
  have Hf := hide (find_miss l d true es F b w hl (at?_none hat))
  obtain ⟨⟨nb, db, gn, gd, h1, h2, h3, h4, h5, f1, f2, f3⟩, hi⟩ := hl
  have c1 := h1.cell 1
  have c2 := h1.cell 2
  have hin := inD_t (b := (b : Int)) (by omega) (by omega)
  clear hat
  go_enter Tryz.func148, Tryz.ntmps148
  go_wp2_with fail
  refine (inData_any _ _).mono ?_
  rintro e w' ⟨rfl, rfl⟩
  go_wp2_with fail
  refine (unhide Hf).mono ?_
  rintro e w' ⟨rfl, rfl⟩
  go_wp2_with fail
  go_ret
  exact ⟨rfl, rfl⟩

theorem Tryz.infoInt : (Tryz.prog.info? 3).map (fun i => (i.zero, i.size, i.bytes)) = some (some (.int .i64 0), 1, 8) := by kernel_rfl
def izeros (n : Nat) : List Int := List.replicate n 0
@[simp] theorem izeros_length (n : Nat) : (izeros n).length = n := by simp [izeros]
def empties (n : Nat) : List ByteArray := List.replicate n emptyB
@[simp] theorem empties_length (n : Nat) : (empties n).length = n := by simp [empties]
theorem run_make_ints (w : World) (n : Nat) (hn : n ≤ 1000000) :
    (Instr.makeSlice 196 (.int .i64 n) (.int .i64 n)).run Tryz.prog w = .ok (.slice (some ⟨w.heap.size, 0, none⟩) n n) (w.alloc (.cells (ints (izeros n)) 3)) := by
  obtain ⟨i, hi, hz, hs, hb⟩ := info_parts Tryz.infoInt
  have := run_make (P := Tryz.prog) w 196 3 i _ Tryz.underlying196 hi hz .i64 .i64 (n : Int) (n : Int) (by omega) (by omega) (by rw [hb]; omega) (by omega)
  rw [this]
  simp [hs, Value.cells, madeCells_one, ints, izeros]

set_option maxRecDepth 100000 in
theorem wover_any (d : Nat) (w : World) :
    Calls Tryz.prog 78 #[.pointer (some ⟨d, 0, none⟩)] w fun e w' => e = .returned (.pointer (some ⟨w.heap.size, 0, none⟩)) ∧ LogAt w' w.heap.size d false [] (Ext (fun _ => False) w w') ∧ Only (fun _ => False) w w' := by
  have hm1 : ∀ w, (Instr.makeSlice 196 (.int .i64 72) (.int .i64 72)).run Tryz.prog w = .ok (.slice (some ⟨w.heap.size, 0, none⟩) 72 72) (w.alloc (.cells (ints (izeros 72)) 3)) := fun w => run_make_ints w 72 (by omega)
  have hm2 : ∀ w, (Instr.makeSlice 122 (.int .i64 72) (.int .i64 72)).run Tryz.prog w = .ok (.slice (some ⟨w.heap.size, 0, none⟩) 72 72) (w.alloc (.cells (strs (empties 72)) 137)) := fun w => run_make_strs w 72 (by omega)
  go_enter Tryz.func78, Tryz.ntmps78
  go_wp2
  go_ret
  refine ⟨rfl, ⟨⟨w.heap.size + 1, w.heap.size + 1 + 1, izeros 72, empties 72, ((Has.new _ _ _).alloc _).alloc _, ?_, ?_, by simp, by simp, .inr (by first | (simp; done) | (simp; omega)), .inr (by first | (simp; done) | (simp; omega)), .inr (by first | (simp; done) | (simp; omega))⟩, Ext.in (fun _ h => h.elim) (by simp; omega)⟩, (((Only.refl _ w).alloc _).alloc _).alloc _⟩
  · have := (Has.new (w.alloc (.cells #[.pointer (some ⟨d, 0, none⟩), .bool false, .int .i64 0, .slice (some ⟨w.heap.size + 1, 0, none⟩) 72 72, .slice (some ⟨w.heap.size + 1 + 1, 0, none⟩) 72 72] 198)) (ints (izeros 72)) 3).alloc (.cells (strs (empties 72)) 137)
    simpa using this
  · have := Has.new ((w.alloc (.cells #[.pointer (some ⟨d, 0, none⟩), .bool false, .int .i64 0, .slice (some ⟨w.heap.size + 1, 0, none⟩) 72 72, .slice (some ⟨w.heap.size + 1 + 1, 0, none⟩) 72 72] 198)).alloc (.cells (ints (izeros 72)) 3)) (strs (empties 72)) 137
    simpa using this

theorem wnew_any (d : Nat) (w : World) :
    Calls Tryz.prog 30 #[.pointer (some ⟨d, 0, none⟩)] w fun e w' => e = .returned (.pointer (some ⟨w.heap.size, 0, none⟩)) ∧ LogAt w' w.heap.size d false [] (Ext (fun _ => False) w w') ∧ Only (fun _ => False) w w' := by
  go_enter Tryz.func30, Tryz.ntmps30
  go_wp2_with fail
  refine (wover_any d _).mono ?_
  rintro e w' ⟨rfl, h⟩
  go_wp2
  go_ret
  exact ⟨rfl, h⟩

end Go.Proofs.Qxb6500412aGreat
