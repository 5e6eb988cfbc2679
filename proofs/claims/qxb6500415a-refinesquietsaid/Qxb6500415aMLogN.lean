/-
  OWN WORK. THE MODEL walm.Log: models made anew: over, New, After, Crashed, Clone.
-/
import Derived.Test.Qxb6500415aMLogC
namespace Go.Proofs.Qxb6500415a
open Go.RowKit
set_option linter.unusedSimpArgs false
set_option linter.unusedVariables false

set_option maxRecDepth 100000 in
set_option maxHeartbeats 1000000 in
theorem mover_any (b : Nat) (X : List ByteArray) (w : World) (hb : Has w b (strs X) 60) (lX : X.length = 80) :
    Calls Try.prog 51 #[.slice (some ⟨b, 0, none⟩) 80 80] w fun e w' => e = .returned (.pointer (some ⟨w.heap.size, 0, none⟩)) ∧ MLogAt w' w.heap.size X X (nots 80) 0 false X none (Ext (fun _ => False) w w') ∧ Only (fun _ => False) w w' := by
  have hmk : ∀ w, (Instr.makeSlice 41 (.int .i64 80) (.int .i64 80)).run Try.prog w = .ok (.slice (some ⟨w.heap.size, 0, none⟩) 80 80) (w.alloc (.cells (bools (nots 80)) 4)) := fun w => run_make_bools w 80 (by omega)
  go_enter Try.func51, Try.ntmps51
  go_wp2_with fail
  refine (copyBlocks_n b 80 X _ (hb.alloc _) lX (by omega)).mono ?_
  rintro e w1 ⟨rfl, rfl⟩
  go_wp2_with fail
  refine (copyBlocks_n b 80 X _ ((hb.alloc _).alloc _) lX (by omega)).mono ?_
  rintro e w1 ⟨rfl, rfl⟩
  go_wp2_with fail
  refine (copyBlocks_n b 80 X _ (((hb.alloc _).alloc _).alloc _) lX (by omega)).mono ?_
  rintro e w1 ⟨rfl, rfl⟩
  go_wp2
  go_ret
  refine ⟨rfl, ⟨⟨w.heap.size + 1, w.heap.size + 1 + 1, w.heap.size + 1 + 1 + 1 + 1, w.heap.size + 1 + 1 + 1, .slice none 0 0, ((((Has.new _ _ _).alloc _).alloc _).alloc _).alloc _, ?_, ?_, ?_, ?_, World.ownsRow_nil _ _ _ _, by omega, by omega, .inr ?_, .inr ?_, .inr ?_, .inr ?_, .inr ?_, fun k hk => by simp [Value.ownBlock] at hk⟩, lX, lX, by simp, lX, ?_⟩, ((((((Only.refl _ w).alloc _).alloc _).alloc _).alloc _).alloc _)⟩
  · exact Has.alloc (Has.alloc (Has.alloc (Has.new' _ _ _ _ (by simp)) _) _) _
  · exact Has.alloc (Has.alloc (Has.new' _ _ _ _ (by simp)) _) _
  · exact Has.new' _ _ _ _ (by simp)
  · exact Has.alloc (Has.new' _ _ _ _ (by simp)) _
  · first | (simp; done) | (simp; omega)
  · first | (simp; done) | (simp; omega)
  · first | (simp; done) | (simp; omega)
  · first | (simp; done) | (simp; omega)
  · first | (simp; done) | (simp; omega)
  · exact Ext.in (fun _ h => h.elim) (by simp; omega)

set_option maxRecDepth 100000 in
theorem mnew_any (w : World) :
    Calls Try.prog 23 #[] w fun e w' => ∃ m, e = .returned (.pointer (some ⟨m, 0, none⟩)) ∧ MLogAt w' m (zeros 80) (zeros 80) (nots 80) 0 false (zeros 80) none (Ext (fun _ => False) w w') ∧ Only (fun _ => False) w w' := by
  have o1 : Only (fun _ => False) w (w.alloc (.cells (strs (zeros 80)) 60)) := (Only.refl _ w).alloc _
  go_enter Try.func23, Try.ntmps23
  go_wp2_with fail
  refine (blocks_any 80 _ (by omega)).mono ?_
  rintro e w1 ⟨rfl, rfl⟩
  go_wp2_with fail
  refine (mover_any w.heap.size (zeros 80) _ (Has.new w _ _) (by simp)).mono ?_
  rintro e w2 ⟨rfl, h2, o2⟩
  simp only [World.size_alloc] at h2
  go_wp2_with fail
  go_ret
  have o3 := o1.trans o2 (fun _ _ h => h)
  refine ⟨_, rfl, h2.mono (G := Ext (fun _ => False) w w2) (fun k hk => ?_) (Ext.in (fun _ h => h.elim) o3.size), o3⟩
  rcases hk with hk | hk
  · exact hk.elim
  · simp at hk; exact .inr ⟨by omega, hk.2⟩

section
variable {w : World} {m : Nat} {com cur : List ByteArray} {dirty : List Bool} {n : Nat} {op : Bool} {base : List ByteArray} {F : Nat → Prop}

set_option maxRecDepth 100000 in
set_option maxHeartbeats 1000000 in
theorem mcrashed_none (h : MLogAt w m com cur dirty n op base none F) :
    Calls Try.prog 32 #[.pointer (some ⟨m, 0, none⟩)] w fun e w' => e = .returned (.pointer (some ⟨w.heap.size, 0, none⟩)) ∧ MLogAt w' w.heap.size base base (nots 80) 0 false base none (Ext (fun _ => False) w w') ∧ Only (fun _ => False) w w' := by
  obtain ⟨⟨b0, b1, b2, b5, hv, h1, h2, h3, h4, h5, h6, n0, n5, f, f0, f1, f2, f5, fh⟩, l0, l1, l2, l5, hi⟩ := h
  obtain ⟨a, cap, hsh⟩ := h6.shape
  rw [hsh] at h1
  have c6 := h1.cell 6
  have c5 := h1.cell 5
  unfold histLen at c5 c6
  have C1 := hide (mover_any b5 base w h5 l5)
  have inner : Calls Try.prog 64 #[.pointer (some ⟨m, 0, none⟩), .int .i64 0] w fun e w' => e = .returned (.pointer (some ⟨w.heap.size, 0, none⟩)) ∧ MLogAt w' w.heap.size base base (nots 80) 0 false base none (Ext (fun _ => False) w w') ∧ Only (fun _ => False) w w' := by
    go_enter Try.func64, Try.ntmps64
    go_wp2_with fail
    refine (unhide C1).mono ?_
    rintro e w2 ⟨rfl, h2⟩
    go_wp2_with fail
    go_ret
    exact ⟨rfl, h2⟩
  have C2 := hide inner
  clear inner C1
  go_enter Try.func32, Try.ntmps32
  go_wp2_with fail
  refine (unhide C2).mono ?_
  rintro e w2 ⟨rfl, h2⟩
  go_wp2_with fail
  go_ret
  exact ⟨rfl, h2⟩

set_option maxRecDepth 100000 in
set_option maxHeartbeats 1000000 in
theorem mcrashed_some {X : List ByteArray} (h : MLogAt w m com cur dirty n op base (some X) F) :
    Calls Try.prog 32 #[.pointer (some ⟨m, 0, none⟩)] w fun e w' => e = .returned (.pointer (some ⟨w.heap.size, 0, none⟩)) ∧ MLogAt w' w.heap.size X X (nots 80) 0 false X none (Ext (fun _ => False) w w') ∧ Only (fun _ => False) w w' := by
  obtain ⟨⟨b0, b1, b2, b5, hv, h1, h2, h3, h4, h5, h6, n0, n5, f, f0, f1, f2, f5, fh⟩, l0, l1, l2, l5, hi⟩ := h
  obtain ⟨hk, ho, hX, hne, hF, lX⟩ := h6
  rcases ho.2 with ⟨_, hz⟩ | ⟨g, cap, cur', hv', _, hg, hc1, hc2, hcs, htk⟩
  · omega
  rw [hv'] at h1
  have c6 := h1.cell 6
  have hg' : Has w g cur' 40 := hg
  have q := hg'.cell 0
  have q' : cur'[0]? = some (.slice (some ⟨hk, 0, none⟩) 80 80) := by
    have := congrArg (fun l : List Value => l[0]?) htk
    simpa [List.getElem?_take] using this
  rw [q'] at q
  clear q'
  have C1 := hide (mover_any hk X w hX lX)
  have inner : Calls Try.prog 64 #[.pointer (some ⟨m, 0, none⟩), .int .i64 1] w fun e w' => e = .returned (.pointer (some ⟨w.heap.size, 0, none⟩)) ∧ MLogAt w' w.heap.size X X (nots 80) 0 false X none (Ext (fun _ => False) w w') ∧ Only (fun _ => False) w w' := by
    go_enter Try.func64, Try.ntmps64
    go_wp2_with fail
    refine (unhide C1).mono ?_
    rintro e w2 ⟨rfl, h2⟩
    go_wp2_with fail
    go_ret
    exact ⟨rfl, h2⟩
  have C2 := hide inner
  clear inner C1
  go_enter Try.func32, Try.ntmps32
  go_wp2_with fail
  refine (unhide C2).mono ?_
  rintro e w2 ⟨rfl, h2⟩
  go_wp2_with fail
  go_ret
  exact ⟨rfl, h2⟩

theorem run_copy_bools (w : World) (b : Nat) (xs : List Bool) (hx : Has w b (bools xs) 4) (ty : TypeId) :
    (Builtin.copy_ #[41, 41] ty #[.slice (some ⟨w.heap.size, 0, none⟩) xs.length xs.length, .slice (some ⟨b, 0, none⟩) xs.length xs.length]).run Try.prog (w.alloc (.cells (bools (nots xs.length)) 4)) =
      .ok (goInt xs.length) (w.alloc (.cells (bools xs) 4)) := by
  obtain ⟨i, hi, hz, hs, hb⟩ := info_parts Try.infoBool
  have h := run_copy_row (P := Try.prog) (w.alloc (.cells (bools (nots xs.length)) 4)) 41 41 ty 4 w.heap.size 0 xs.length xs.length ⟨b, 0, none⟩ xs.length xs.length (bools (nots xs.length)) 4 (xs.map Value.bool)
    Try.underlying41 (by rw [hi]; simp [hs]) (heap_alloc_new w _) (by simp) ?_ (by simp) ?_
  · rw [h, setRow_alloc]
    simp [bools, nots]
  · intro j v hv
    rw [addr_add, (hx.alloc _).cell]
    simpa [bools] using hv
  · intro v hv
    simp only [List.mem_map] at hv
    obtain ⟨a, _, rfl⟩ := hv
    rfl

set_option maxRecDepth 100000 in
theorem copyBools_any (b : Nat) (xs : List Bool) (w : World) (hx : Has w b (bools xs) 4) (hn : xs.length ≤ 1000000) :
    Calls Try.prog 53 #[.slice (some ⟨b, 0, none⟩) xs.length xs.length] w fun e w' => e = .returned (.slice (some ⟨w.heap.size, 0, none⟩) xs.length xs.length) ∧ w' = w.alloc (.cells (bools xs) 4) := by
  have hmk := run_make_bools w xs.length hn
  have hcp := run_copy_bools w b xs hx
  go_enter Try.func53, Try.ntmps53
  go_wp2
  go_ret
  exact ⟨rfl, rfl⟩
theorem copyBools_n (b n : Nat) (xs : List Bool) (w : World) (hx : Has w b (bools xs) 4) (hn : xs.length = n) (hm : n ≤ 1000000) :
    Calls Try.prog 53 #[.slice (some ⟨b, 0, none⟩) n n] w fun e w' => e = .returned (.slice (some ⟨w.heap.size, 0, none⟩) n n) ∧ w' = w.alloc (.cells (bools xs) 4) := by
  subst hn
  exact copyBools_any b xs w hx hm

theorem run_make_hist (w : World) :
    (Instr.makeSlice 72 (.int .i64 0) (.int .i64 0)).run Try.prog w = .ok (.slice (some ⟨w.heap.size, 0, none⟩) 0 0) (w.alloc (.cells #[] 40)) := by
  obtain ⟨i, hi, hz, hs, hb⟩ := info_parts Try.infoBlocks
  have := run_make (P := Try.prog) w 72 40 i _ Try.underlying72 hi hz .i64 .i64 0 0 (by omega) (by omega) (by omega) (by omega)
  rw [this]
  simp [hs, Value.cells, madeCells_one]

set_option maxRecDepth 100000 in
set_option maxHeartbeats 2000000 in
theorem mclone_any (h : MLogAt w m com cur dirty n op base none F) :
    Calls Try.prog 24 #[.pointer (some ⟨m, 0, none⟩)] w fun e w' => e = .returned (.pointer (some ⟨w.heap.size, 0, none⟩)) ∧ MLogAt w' w.heap.size com cur dirty n op base none (Ext (fun _ => False) w w') ∧ Only (fun _ => False) w w' := by
  obtain ⟨⟨b0, b1, b2, b5, hv, h1, h2, h3, h4, h5, h6, n0, n5, f, f0, f1, f2, f5, fh⟩, l0, l1, l2, l5, hi⟩ := h
  have hmk := run_make_hist
  obtain ⟨a, cap, hsh⟩ := h6.shape
  rw [hsh] at h1
  unfold histLen at h1
  have c0 : w.cell? ⟨m, 0, none⟩ = some (.slice (some ⟨b0, 0, none⟩) 80 80) := by simpa using h1.cell 0
  have c1 : w.cell? ⟨m, 1, none⟩ = some (.slice (some ⟨b1, 0, none⟩) 80 80) := by simpa using h1.cell 1
  have c2 : w.cell? ⟨m, 2, none⟩ = some (.slice (some ⟨b2, 0, none⟩) 80 80) := by simpa using h1.cell 2
  have c3 : w.cell? ⟨m, 3, none⟩ = some (.int .i64 n) := by simpa using h1.cell 3
  have c4 : w.cell? ⟨m, 4, none⟩ = some (.bool op) := by simpa using h1.cell 4
  have c5 : w.cell? ⟨m, 5, none⟩ = some (.slice (some ⟨b5, 0, none⟩) 80 80) := by simpa using h1.cell 5
  have c6 : w.cell? ⟨m, 6, none⟩ = some (.slice a 0 cap) := by simpa using h1.cell 6
  have hml := h1.lt
  have hm1 : m < w.heap.size + 1 := by omega
  have hm2 : m < w.heap.size + 1 + 1 := by omega
  have hm3 : m < w.heap.size + 1 + 1 + 1 := by omega
  have hm4 : m < w.heap.size + 1 + 1 + 1 + 1 := by omega
  have hm5 : m < w.heap.size + 1 + 1 + 1 + 1 + 1 := by omega
  go_enter Try.func24, Try.ntmps24
  go_wp2_with fail
  go_region
  go_wp2_with fail
  refine (copyBlocks_n b0 80 com _ (h2.alloc _).drew l0 (by omega)).mono ?_
  rintro e w1 ⟨rfl, rfl⟩
  go_wp2_with fail
  refine (copyBlocks_n b1 80 cur _ ((h3.alloc _).alloc _).drew l1 (by omega)).mono ?_
  rintro e w1 ⟨rfl, rfl⟩
  go_wp2_with fail
  refine (copyBlocks_n b5 80 base _ (((h5.alloc _).alloc _).alloc _).drew l5 (by omega)).mono ?_
  rintro e w1 ⟨rfl, rfl⟩
  go_wp2_with fail
  refine (copyBools_n b2 80 dirty _ ((((h4.alloc _).alloc _).alloc _).alloc _).drew l2 (by omega)).mono ?_
  rintro e w1 ⟨rfl, rfl⟩
  go_wp2_with fail
  refine wp_loop_rounds 1 ?_
  rw [rounds_succ]
  go_wp2_with fail
  go_ret
  refine ⟨rfl, ⟨⟨w.heap.size + 1, w.heap.size + 1 + 1, w.heap.size + 1 + 1 + 1 + 1, w.heap.size + 1 + 1 + 1, .slice (some ⟨w.heap.size + 1 + 1 + 1 + 1 + 1, 0, none⟩) 0 0, Has.drew (((((Has.new _ _ _).alloc _).alloc _).alloc _).alloc _ |>.alloc _), Has.drew ?_, Has.drew ?_, Has.drew ?_, Has.drew ?_, ?_, by omega, by omega, .inr ?_, .inr ?_, .inr ?_, .inr ?_, .inr ?_, fun k hk => .inr ?_⟩, l0, l1, l2, l5, ?_⟩, (((((((Only.refl _ w).alloc _).alloc _).alloc _).alloc _).alloc _).alloc _).drew⟩
  · exact Has.alloc (Has.alloc (Has.alloc (Has.alloc (Has.new' _ _ _ _ (by simp)) _) _) _) _
  · exact Has.alloc (Has.alloc (Has.alloc (Has.new' _ _ _ _ (by simp)) _) _) _
  · exact Has.alloc (Has.new' _ _ _ _ (by simp)) _
  · exact Has.alloc (Has.alloc (Has.new' _ _ _ _ (by simp)) _) _
  · refine ⟨by simp, .inr ⟨_, _, #[], rfl, by omega, ?_, by simp, by simp, by simp, by simp⟩⟩
    exact Has.new' _ _ _ _ (by simp)
  · first | (simp; done) | (simp; omega)
  · first | (simp; done) | (simp; omega)
  · first | (simp; done) | (simp; omega)
  · first | (simp; done) | (simp; omega)
  · first | (simp; done) | (simp; omega)
  · simp [Value.ownBlock] at hk
    subst hk
    first | (simp; done) | (simp; omega)
  · exact Ext.in (fun _ h => h.elim) (by simp; omega)
end

end Go.Proofs.Qxb6500415a
