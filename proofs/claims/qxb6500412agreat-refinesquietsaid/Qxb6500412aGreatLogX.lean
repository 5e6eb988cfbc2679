/-
  OWN WORK. THE LOG: Write, where it writes.
-/
import Derived.Test.Qxb6500412aGreatLogW
import Derived.Deep.RegionWith
namespace Go.Proofs.Qxb6500412aGreat
open Go.RowKit
set_option linter.unusedSimpArgs false
set_option linter.unusedVariables false

theorem nums_set (es : List (Nat × ByteArray)) (i b : Nat) (x : ByteArray) (hlt : i < es.length) (he : (es[i].1 : Int) = b) : (es.set i (b, x)).map (fun e => (e.1 : Int)) = es.map (fun e => (e.1 : Int)) := by
  apply List.ext_getElem (by simp)
  intro j h1 h2
  simp only [List.getElem_map, List.getElem_set]
  split
  · rename_i h; subst h; exact he.symm
  · rfl

set_option maxRecDepth 100000 in
set_option maxHeartbeats 1000000 in
theorem wwrite_old (l d : Nat) (es : List (Nat × ByteArray)) (F : Nat → Prop) (b i : Nat) (x : ByteArray) (w : World) (hl : LogAt w l d true es F) (hb : b < 80) (hat : at? es b = some i) (hx : x.size ≤ maxLen) :
    Calls Tryz.prog 148 #[.pointer (some ⟨l, 0, none⟩), .int .i64 b, .string x] w fun e w' => e = .returned (.int .i64 0) ∧ LogAt w' l d true (es.set i (b, blockOf x)) F ∧ Only F w w' := by
  have hsh := hl.short
  obtain ⟨hlt, he, hn⟩ := at?_some hat
  have Hf := hide (find_hit l d true es F b i w hl hlt he hn)
  obtain ⟨⟨nb, db, gn, gd, h1, h2, h3, h4, h5, f1, f2, f3⟩, hi⟩ := hl
  have c1 := h1.cell 1
  have c4 := h1.cell 4
  have c5 := h3.cell i
  rw [data_at hlt] at c5
  have z5 := h3.free i
  have hin := inD_t (b := (b : Int)) (by omega) (by omega)
  have n1 := h1.ne h3 (by decide)
  have n2 := h2.ne h3 (by decide)
  have He := hide he
  clear hat hn he
  go_enter Tryz.func148, Tryz.ntmps148
  go_wp2_with fail
  refine (inData_any _ _).mono ?_
  rintro e w' ⟨rfl, rfl⟩
  go_wp2_with fail
  refine (unhide Hf).mono ?_
  rintro e w' ⟨rfl, rfl⟩
  go_wp2_with fail
  go_region_with (go_at_call 202; refine (blockOf_any x _ hx).mono ?_; rintro e w' ⟨rfl, rfl⟩)
  all_goals
    go_wp2_with fail
    go_ret
    refine ⟨rfl, ⟨⟨nb, db, gn, gd, ?_, ?_, ?_, by simpa using h4, by simpa using h5, f1, f2, f3⟩, fun k hk => by simpa using hi k hk⟩, ((Only.refl F w).setCell (fun _ => f3) _).drew⟩
    · simpa using (h1.setCell_other (p := ⟨db, i, none⟩) n1 (.string (blockOf x))).drew
    · rw [nums_set es i b (blockOf x) hlt (unhide He)]
      exact (h2.setCell_other (p := ⟨db, i, none⟩) n2 (.string (blockOf x))).drew
    · have := (h3.setCell i (.string (blockOf x))).drew
      rw [strs_set, List.set_append_left _ _ (by simpa using hlt)] at this
      simpa [List.map_set] using this

set_option maxRecDepth 100000 in
set_option maxHeartbeats 1000000 in
theorem wwrite_new (l d : Nat) (es : List (Nat × ByteArray)) (F : Nat → Prop) (b : Nat) (x : ByteArray) (w : World) (hl : LogAt w l d true es F) (hb : b < 80) (hat : at? es b = none) (hlt : es.length < 72) (hx : x.size ≤ maxLen) :
    Calls Tryz.prog 148 #[.pointer (some ⟨l, 0, none⟩), .int .i64 b, .string x] w fun e w' => e = .returned (.int .i64 0) ∧ LogAt w' l d true (es ++ [(b, blockOf x)]) F ∧ Only F w w' := by
  have Hf := hide (find_miss l d true es F b w hl (at?_none hat))
  obtain ⟨⟨nb, db, gn, gd, h1, h2, h3, h4, h5, f1, f2, f3⟩, hi⟩ := hl
  obtain ⟨g0, gn', rfl⟩ : ∃ g r, gn = g :: r := by cases gn with | nil => simp at h4; omega | cons g r => exact ⟨g, r, rfl⟩
  obtain ⟨q0, gd', rfl⟩ : ∃ g r, gd = g :: r := by cases gd with | nil => simp at h5; omega | cons g r => exact ⟨g, r, rfl⟩
  have c1 := h1.cell 1
  have c2 := h1.cell 2
  have c3 := h1.cell 3
  have hin := inD_t (b := (b : Int)) (by omega) (by omega)
  have n1 := h1.ne h2 (by decide)
  have n2 := h1.ne h3 (by decide)
  have n3 := h2.ne h3 (by decide)
  have d1 := h2.cell es.length
  rw [ints_get _ _ (by simp)] at d1
  have z1 := h2.free es.length
  have k1 := h1.setCell_other (p := ⟨nb, es.length, none⟩) n1 (.int .i64 b)
  have k2 := h2.setCell es.length (.int .i64 b)
  have k3 := h3.setCell_other (p := ⟨nb, es.length, none⟩) (fun e => n3 e.symm) (.int .i64 b)
  have m1 := k1.setCell 2 (.int .i64 (es.length + 1))
  have m2 := k2.setCell_other (p := ⟨l, 2, none⟩) (fun e => n1 e.symm) (.int .i64 (es.length + 1))
  have m3 := k3.setCell_other (p := ⟨l, 2, none⟩) (fun e => n2 e.symm) (.int .i64 (es.length + 1))
  have kc2 := k1.cell 2
  have kz2 := k1.free 2
  have mc4 := m1.cell 4
  have md := m3.cell es.length
  rw [strs_get _ _ (by simp)] at md
  have mz := m3.free es.length
  clear hat
  go_enter Tryz.func148, Tryz.ntmps148
  go_wp2_with fail
  refine (inData_any _ _).mono ?_
  rintro e w' ⟨rfl, rfl⟩
  go_wp2_with fail
  refine (unhide Hf).mono ?_
  rintro e w' ⟨rfl, rfl⟩
  go_wp2_with fail
  go_region_with (go_at_call 202; refine (blockOf_any x _ hx).mono ?_; rintro e w' ⟨rfl, rfl⟩)
  all_goals
    go_wp2_with fail
    go_ret
    refine ⟨rfl, ⟨⟨nb, db, gn', gd', ?_, ?_, ?_, by simp at h4 ⊢; omega, by simp at h5 ⊢; omega, f1, f2, f3⟩, fun k hk => by simpa using hi k hk⟩, ((((Only.refl F w).setCell (fun _ => f2) _).setCell (fun _ => f1) _).setCell (fun _ => f3) _).drew⟩
    · simpa using (m1.setCell_other (p := ⟨db, es.length, none⟩) n2 (.string (blockOf x))).drew
    · have := (m2.setCell_other (p := ⟨db, es.length, none⟩) n3 (.string (blockOf x))).drew
      rw [ints_set', List.set_append_right _ _ (by simp)] at this
      simpa using this
    · have := (m3.setCell es.length (.string (blockOf x))).drew
      rw [strs_set, List.set_append_right _ _ (by simp)] at this
      simpa using this

end Go.Proofs.Qxb6500412aGreat
