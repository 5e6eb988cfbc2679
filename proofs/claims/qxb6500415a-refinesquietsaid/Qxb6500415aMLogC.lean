/-
  OWN WORK. THE MODEL walm.Log: close, Abort, Commit, Mark; models made anew.
-/
import Derived.Test.Qxb6500415aMLogW
namespace Go.Proofs.Qxb6500415a
open Go.RowKit
set_option linter.unusedSimpArgs false
set_option linter.unusedVariables false
section
variable {w : World} {m : Nat} {com cur : List ByteArray} {dirty : List Bool} {n : Nat} {op : Bool} {base : List ByteArray} {hist : Option (List ByteArray)} {F : Nat → Prop}

set_option maxRecDepth 100000 in
set_option maxHeartbeats 1000000 in
theorem mclose_any (h : MLogAt w m com cur dirty n op base hist F) :
    Calls Try.prog 82 #[.pointer (some ⟨m, 0, none⟩)] w fun e w' => e = .returned (.tuple #[]) ∧ MLogAt w' m com cur (nots 80) 0 false base hist (Ext F w w') ∧ Only F w w' := by
  obtain ⟨⟨b0, b1, b2, b5, hv, h1, h2, h3, h4, h5, h6, n0, n5, f, f0, f1, f2, f5, fh⟩, l0, l1, l2, l5, hi⟩ := h
  have hmk : ∀ w, (Instr.makeSlice 41 (.int .i64 80) (.int .i64 80)).run Try.prog w = .ok (.slice (some ⟨w.heap.size, 0, none⟩) 80 80) (w.alloc (.cells (bools (nots 80)) 4)) := fun w => run_make_bools w 80 (by omega)
  have c2 := h1.cell 2
  have c3 := h1.cell 3
  have c4 := h1.cell 4
  have z2 := h1.free 2
  have z3 := h1.free 3
  have z4 := h1.free 4
  have hml := h1.lt
  have m2 := (h1.ne h2 (by decide)).symm
  have m3 := (h1.ne h3 (by decide)).symm
  have m5 := (h1.ne h5 (by decide)).symm
  obtain ⟨a, cap, hsh⟩ := h6.shape
  go_enter Try.func82, Try.ntmps82
  go_wp2
  go_end0
  have k1 := h1.setCell 4 (.bool false)
  have i1 := k1.setCell 3 (.int .i64 0)
  have o1 : Only F w ((((w.setCell ⟨m, 4, none⟩ (.bool false)).setCell ⟨m, 3, none⟩ (.int .i64 0)).setCell ⟨m, 2, none⟩ (.slice (some ⟨w.heap.size, 0, none⟩) 80 80)).alloc (.cells (bools (nots 80)) 4)) :=
    ((((Only.refl F w).setCell (p := ⟨m, 4, none⟩) (fun _ => f) _).setCell (p := ⟨m, 3, none⟩) (fun _ => f) _).setCell (p := ⟨m, 2, none⟩) (fun _ => f) _).alloc _
  refine ⟨rfl, ⟨⟨b0, b1, w.heap.size, b5, hv, ?_, ?_, ?_, ?_, ?_, ?_, n0, n5, .inl f, .inl f0, .inl f1, .inr ⟨Nat.le_refl _, by simp⟩, .inl f5, fun k hk => .inl (fh k hk)⟩, l0, l1, by simp, l5, Ext.in hi o1.size⟩, o1⟩
  · simpa using (i1.setCell 2 (.slice (some ⟨w.heap.size, 0, none⟩) 80 80)).alloc (.cells (bools (nots 80)) 4)
  · exact ((((h2.setCell_other (p := ⟨m, 4, none⟩) m2 _).setCell_other (p := ⟨m, 3, none⟩) m2 _).setCell_other (p := ⟨m, 2, none⟩) m2 _).alloc _)
  · exact ((((h3.setCell_other (p := ⟨m, 4, none⟩) m3 _).setCell_other (p := ⟨m, 3, none⟩) m3 _).setCell_other (p := ⟨m, 2, none⟩) m3 _).alloc _)
  · exact Has.new' _ _ _ _ (by simp)
  · exact ((((h5.setCell_other (p := ⟨m, 4, none⟩) m5 _).setCell_other (p := ⟨m, 3, none⟩) m5 _).setCell_other (p := ⟨m, 2, none⟩) m5 _).alloc _)
  · exact HistAt.mono ((((h6.setOther (p := ⟨m, 4, none⟩) h1 (by decide) (fun e => absurd e (by decide)) _).setOther (p := ⟨m, 3, none⟩) k1 (by decide) (fun e => absurd e (by decide)) _).setOther (p := ⟨m, 2, none⟩) i1 (by decide) (fun e => absurd e (by decide)) _).alloc _) (fun k hk => .inl hk)

theorem Ext.step {F : Nat → Prop} {w w1 w2 : World} (h1 : w.heap.size ≤ w1.heap.size) (h2 : w1.heap.size ≤ w2.heap.size) : ∀ k, Ext F w w1 k → Ext F w w2 k := by
  intro k hk; rcases hk with hk | hk
  · exact .inl hk
  · exact .inr ⟨hk.1, by omega⟩

theorem mabort_shut (h : MLogAt w m com cur dirty n false base hist F) :
    Calls Try.prog 80 #[.pointer (some ⟨m, 0, none⟩)] w fun e w' => e = .returned (.int .i64 2) ∧ w = w' := by
  obtain ⟨⟨b0, b1, b2, b5, hv, h1, _⟩, _⟩ := h
  have c := h1.cell 4
  go_enter Try.func80, Try.ntmps80
  go_wp2_with fail
  go_ret
  exact ⟨rfl, rfl⟩

theorem mcommit_shut (h : MLogAt w m com cur dirty n false base hist F) :
    Calls Try.prog 79 #[.pointer (some ⟨m, 0, none⟩)] w fun e w' => e = .returned (.int .i64 2) ∧ w = w' := by
  obtain ⟨⟨b0, b1, b2, b5, hv, h1, _⟩, _⟩ := h
  have c := h1.cell 4
  go_enter Try.func79, Try.ntmps79
  go_wp2_with fail
  go_ret
  exact ⟨rfl, rfl⟩

set_option maxRecDepth 100000 in
set_option maxHeartbeats 1000000 in
theorem mabort_open (h : MLogAt w m com cur dirty n true base none F) :
    Calls Try.prog 80 #[.pointer (some ⟨m, 0, none⟩)] w fun e w' => e = .returned (.int .i64 0) ∧ MLogAt w' m com com (nots 80) 0 false base none (Ext F w w') ∧ Only F w w' := by
  obtain ⟨⟨b0, b1, b2, b5, hv, h1, h2, h3, h4, h5, h6, n0, n5, f, f0, f1, f2, f5, fh⟩, l0, l1, l2, l5, hi⟩ := h
  have c0 := h1.cell 0
  have c1 := h1.cell 1
  have c4 := h1.cell 4
  have z1 := h1.free 1
  have hml := h1.lt
  have g0 := h2.lt
  have g5 := h5.lt
  have m2 := (h1.ne h2 (by decide)).symm
  have m4 := (h1.ne h4 (by decide)).symm
  have m5 := (h1.ne h5 (by decide)).symm
  go_enter Try.func80, Try.ntmps80
  go_wp2_with fail
  refine (copyBlocks_n b0 80 com _ h2 l0 (by omega)).mono ?_
  rintro e w1 ⟨rfl, rfl⟩
  have o1 : Only F w ((w.setCell ⟨m, 1, none⟩ (.slice (some ⟨w.heap.size, 0, none⟩) 80 80)).alloc (.cells (strs com) 60)) := ((Only.refl F w).setCell (p := ⟨m, 1, none⟩) (fun _ => f) _).alloc _
  have a1 : MLogAt ((w.setCell ⟨m, 1, none⟩ (.slice (some ⟨w.heap.size, 0, none⟩) 80 80)).alloc (.cells (strs com) 60)) m com com dirty n true base none (Ext F w ((w.setCell ⟨m, 1, none⟩ (.slice (some ⟨w.heap.size, 0, none⟩) 80 80)).alloc (.cells (strs com) 60))) := by
    refine ⟨⟨b0, w.heap.size, b2, b5, hv, ?_, (h2.setCell_other (p := ⟨m, 1, none⟩) m2 _).alloc _, Has.new' _ _ _ _ (by simp), (h4.setCell_other (p := ⟨m, 1, none⟩) m4 _).alloc _, (h5.setCell_other (p := ⟨m, 1, none⟩) m5 _).alloc _, ?_, by omega, by omega, .inl f, .inl f0, .inr ⟨Nat.le_refl _, by simp⟩, .inl f2, .inl f5, fun k hk => .inl (fh k hk)⟩, l0, l0, l2, l5, Ext.in hi o1.size⟩
    · simpa using (h1.setCell 1 (.slice (some ⟨w.heap.size, 0, none⟩) 80 80)).alloc (.cells (strs com) 60)
    · exact (h6.setOther (p := ⟨m, 1, none⟩) h1 (by decide) (fun e => absurd e (by decide)) _).alloc _
  have C2 := hide (mclose_any a1)
  clear c0 c4
  go_wp2_with fail
  refine (unhide C2).mono ?_
  rintro e w2 ⟨rfl, a2, o2⟩
  go_wp2_with fail
  go_ret
  have o3 := o1.step o2
  exact ⟨rfl, a2.mono (Ext.trans o1.size o2.size) (Ext.in hi o3.size), o3⟩

theorem Try.infoBlocks : (Try.prog.info? 40).map (fun i => (i.zero, i.size, i.bytes)) = some (some (.slice none 0 0), 1, 24) := by kernel_rfl

set_option maxRecDepth 100000 in
set_option maxHeartbeats 2000000 in
theorem mcommit_open (h : MLogAt w m com cur dirty n true base none F) :
    Calls Try.prog 79 #[.pointer (some ⟨m, 0, none⟩)] w fun e w' => e = .returned (.int .i64 0) ∧ MLogAt w' m cur cur (nots 80) 0 false base (some cur) (Ext F w w') ∧ Only F w w' := by
  obtain ⟨⟨b0, b1, b2, b5, hv, h1, h2, h3, h4, h5, h6, n0, n5, f, f0, f1, f2, f5, fh⟩, l0, l1, l2, l5, hi⟩ := h
  have c0 := h1.cell 0
  have c1 := h1.cell 1
  have c4 := h1.cell 4
  have c6 := h1.cell 6
  have z0 := h1.free 0
  have z6 := h1.free 6
  have hml := h1.lt
  have g1 := h3.lt
  have m3 := (h1.ne h3 (by decide)).symm
  have m4 := (h1.ne h4 (by decide)).symm
  have m5 := (h1.ne h5 (by decide)).symm
  have hn1 := h6.ne h1 (by decide)
  have hn3 := h6.ne h3 (by decide)
  have hn4 := h6.ne h4 (by decide)
  have hn5 := h6.ne h5 (by decide)
  have hhl : ∀ k, hv.ownBlock = some k → k < w.heap.size := fun k hk => hi k (fh k hk)
  obtain ⟨i0, hi0, hz0, hz1, hz2⟩ := info_parts Try.infoBlocks
  -- the worlds on the way
  have k1 := h1.setCell 0 (.slice (some ⟨w.heap.size, 0, none⟩) 80 80)
  have k3 := h3.setCell_other (p := ⟨m, 0, none⟩) m3 (.slice (some ⟨w.heap.size, 0, none⟩) 80 80)
  have k4 := h4.setCell_other (p := ⟨m, 0, none⟩) m4 (.slice (some ⟨w.heap.size, 0, none⟩) 80 80)
  have k5 := h5.setCell_other (p := ⟨m, 0, none⟩) m5 (.slice (some ⟨w.heap.size, 0, none⟩) 80 80)
  have k6 : HistAt (w.setCell ⟨m, 0, none⟩ (.slice (some ⟨w.heap.size, 0, none⟩) 80 80)) hv b1 F none := h6.setOther (p := ⟨m, 0, none⟩) h1 (by decide) (fun e => absurd e (by decide)) _
  have i1 := k1.alloc (.cells (strs cur) 60)
  have i3 := k3.alloc (.cells (strs cur) 60)
  have i4 := k4.alloc (.cells (strs cur) 60)
  have i5 := k5.alloc (.cells (strs cur) 60)
  have i6 := k6.alloc (.cells (strs cur) 60)
  have ic : Has ((w.setCell ⟨m, 0, none⟩ (.slice (some ⟨w.heap.size, 0, none⟩) 80 80)).alloc (.cells (strs cur) 60)) w.heap.size (strs cur) 60 := Has.new' _ _ _ _ (by simp)
  have o1 : Only F w ((w.setCell ⟨m, 0, none⟩ (.slice (some ⟨w.heap.size, 0, none⟩) 80 80)).alloc (.cells (strs cur) 60)) := ((Only.refl F w).setCell (p := ⟨m, 0, none⟩) (fun _ => f) _).alloc _
  have j1 := i1.alloc (.cells (strs cur) 60)
  have j3 := i3.alloc (.cells (strs cur) 60)
  have j4 := i4.alloc (.cells (strs cur) 60)
  have j5 := i5.alloc (.cells (strs cur) 60)
  have j6 := i6.alloc (.cells (strs cur) 60)
  have jc := ic.alloc (.cells (strs cur) 60)
  have jd : Has (((w.setCell ⟨m, 0, none⟩ (.slice (some ⟨w.heap.size, 0, none⟩) 80 80)).alloc (.cells (strs cur) 60)).alloc (.cells (strs cur) 60)) (w.heap.size + 1) (strs cur) 60 := Has.new' _ _ _ _ (by simp)
  have o2 := o1.alloc (.cells (strs cur) 60)
  generalize hW2 : (((w.setCell ⟨m, 0, none⟩ (.slice (some ⟨w.heap.size, 0, none⟩) 80 80)).alloc (.cells (strs cur) 60)).alloc (.cells (strs cur) 60)) = W2 at j1 j3 j4 j5 j6 jc jd o2
  have sW2 : W2.heap.size = w.heap.size + 2 := by rw [← hW2]; simp
  have HW2 := hide hW2
  have q1 := i1.cell 1
  have q6 := j1.cell 6
  clear hW2
  go_enter Try.func79, Try.ntmps79
  go_wp2_with fail
  refine (copyBlocks_n b1 80 cur _ h3 l1 (by omega)).mono ?_
  rintro e w1 ⟨rfl, rfl⟩
  go_wp2_with fail
  refine (copyBlocks_n b1 80 cur _ i3 l1 (by omega)).mono ?_
  rintro e w1 ⟨rfl, rfl⟩
  rw [unhide HW2]
  have e1 : ((w.setCell ⟨m, 0, none⟩ (.slice (some ⟨w.heap.size, 0, none⟩) 80 80)).alloc (.cells (strs cur) 60)).heap.size = w.heap.size + 1 := by simp
  rw [e1]
  clear e1 i1 i3 i4 i5 i6 ic k1 k3 k4 k5 k6 q1 HW2 c0 c1 c4 c6 z0 z6
  have j6' : W2.ownsRow 0 40 1 hv 0 [] := j6
  go_wp2_with (at_builtin; refine wpList_append2 _ rfl _ _ 72 rfl 40 i0 _ 1 24 Try.underlying72 hi0 hz0 hz1 hz2 rfl (by decide) _ _ _ rfl (j6'.alloc _) ⟨w.heap.size + 2, 0, none⟩ 1 1 [.slice (some ⟨w.heap.size + 1, 0, none⟩) 80 80] rfl rfl ?c1 ?c2 ?c3 ?c4 ?_)
  case c1 => exact news_ok _ _ _ _ sW2.symm
  case c2 => intro u hu; simp at hu; subst hu; rfl
  case c3 => unfold maxLen; omega
  case c4 => omega
  intro v' w3 hown' hgrow hwhere
  have sW3 := hgrow.size
  simp only [World.size_alloc] at sW3
  have o3 : Only F w w3 := (o2.alloc _).grown hgrow (fun k hk _ => fh k hk)
  have r1 : Has w3 m _ _ := (hgrow.block m (by simp; omega) (fun e => hn1 m e.symm rfl)).trans (j1.alloc _)
  have r3 : Has w3 b1 _ _ := (hgrow.block b1 (by simp; omega) (fun e => hn3 b1 e.symm rfl)).trans (j3.alloc _)
  have r4 : Has w3 b2 _ _ := (hgrow.block b2 (by have := h4.lt; simp; omega) (fun e => hn4 b2 e.symm rfl)).trans (j4.alloc _)
  have r5 : Has w3 b5 _ _ := (hgrow.block b5 (by have := h5.lt; simp; omega) (fun e => hn5 b5 e.symm rfl)).trans (j5.alloc _)
  have rc : Has w3 w.heap.size _ _ := (hgrow.block w.heap.size (by simp; omega) (fun e => by have := hhl _ e.symm; omega)).trans (jc.alloc _)
  have rd : Has w3 (w.heap.size + 1) _ _ := (hgrow.block (w.heap.size + 1) (by simp; omega) (fun e => by have := hhl _ e.symm; omega)).trans (jd.alloc _)
  obtain ⟨a', cap', hv'⟩ := ownsRow_shape hown'
  have nv := ownsRow_ne hown' r1 (by decide)
  have lv := ownsRow_lt hown'
  have t6 := r1.cell 6
  have tz := r1.free 6
  rw [hv']
  rw [hv'] at hown' nv lv hwhere
  have u1 := r1.setCell 6 (.slice a' (0 + 1) cap')
  have o4 : Only F w (w3.setCell ⟨m, 6, none⟩ (.slice a' (0 + 1) cap')) := o3.setCell (p := ⟨m, 6, none⟩) (fun _ => f) _
  have o4s := o4.size
  have a4 : MLogAt (w3.setCell ⟨m, 6, none⟩ (.slice a' (0 + 1) cap')) m cur cur dirty n true base (some cur) (Ext F w (w3.setCell ⟨m, 6, none⟩ (.slice a' (0 + 1) cap'))) := by
    refine ⟨⟨w.heap.size, b1, b2, b5, .slice a' (0 + 1) cap', by simpa using u1, rc.setCell_other (p := ⟨m, 6, none⟩) (by show w.heap.size ≠ m; omega) _, r3.setCell_other (p := ⟨m, 6, none⟩) m3 _, r4.setCell_other (p := ⟨m, 6, none⟩) m4 _, r5.setCell_other (p := ⟨m, 6, none⟩) m5 _, ?_, by omega, n5, .inl f, .inr (by simp; omega), .inl f1, .inl f2, .inl f5, ?_⟩, l1, l1, l2, l5, Ext.in hi o4.size⟩
    · refine ⟨w.heap.size + 1, ownsRow_setCell_other hown' (fun h => nv _ h rfl) _, rd.setCell_other (p := ⟨m, 6, none⟩) (by show w.heap.size + 1 ≠ m; omega) _, by omega, .inr (by simp; omega), l1⟩
    · intro k hk
      have hk2 := lv k hk
      rcases hwhere k hk with hk' | hk'
      · exact .inl (fh k hk')
      · exact .inr ⟨by omega, by simpa using hk2⟩
  have C5 := hide (mclose_any a4)
  go_wp2_with fail
  refine (unhide C5).mono ?_
  rintro e w5 ⟨rfl, a5, o5⟩
  go_wp2_with fail
  go_ret
  have o6 := o4.step o5
  exact ⟨rfl, a5.mono (Ext.trans o4.size o5.size) (Ext.in hi o6.size), o6⟩

set_option maxRecDepth 100000 in
set_option maxHeartbeats 1000000 in
theorem mmark_any (h : MLogAt w m com cur dirty n op base hist F) :
    Calls Try.prog 27 #[.pointer (some ⟨m, 0, none⟩)] w fun e w' => e = .returned (.tuple #[]) ∧ MLogAt w' m com cur dirty n op com none (Ext F w w') ∧ Only F w w' := by
  obtain ⟨⟨b0, b1, b2, b5, hv, h1, h2, h3, h4, h5, h6, n0, n5, f, f0, f1, f2, f5, fh⟩, l0, l1, l2, l5, hi⟩ := h
  have c0 := h1.cell 0
  have c5 := h1.cell 5
  have c6 := h1.cell 6
  have z5 := h1.free 5
  have z6 := h1.free 6
  have hml := h1.lt
  have g1 := h3.lt
  have m2 := (h1.ne h2 (by decide)).symm
  have m3 := (h1.ne h3 (by decide)).symm
  have m4 := (h1.ne h4 (by decide)).symm
  obtain ⟨a, cap, hsh⟩ := h6.shape
  rw [hsh] at c5 c6
  go_enter Try.func27, Try.ntmps27
  go_wp2_with fail
  refine (copyBlocks_n b0 80 com _ h2 l0 (by omega)).mono ?_
  rintro e w1 ⟨rfl, rfl⟩
  go_wp2
  go_end0
  have o1 : Only F w (((w.setCell ⟨m, 5, none⟩ (.slice (some ⟨w.heap.size, 0, none⟩) 80 80)).setCell ⟨m, 6, none⟩ (.slice none 0 0)).alloc (.cells (strs com) 60)) :=
    (((Only.refl F w).setCell (p := ⟨m, 5, none⟩) (fun _ => f) _).setCell (p := ⟨m, 6, none⟩) (fun _ => f) _).alloc _
  refine ⟨rfl, ⟨⟨b0, b1, b2, w.heap.size, .slice none 0 0, ?_, ?_, ?_, ?_, Has.new' _ _ _ _ (by simp), World.ownsRow_nil _ _ _ _, n0, by omega, .inl f, .inl f0, .inl f1, .inl f2, .inr ⟨Nat.le_refl _, by simp⟩, fun k hk => by simp [Value.ownBlock] at hk⟩, l0, l1, l2, l0, Ext.in hi o1.size⟩, o1⟩
  · simpa using ((h1.setCell 5 (.slice (some ⟨w.heap.size, 0, none⟩) 80 80)).setCell 6 (.slice none 0 0)).alloc (.cells (strs com) 60)
  · exact ((h2.setCell_other (p := ⟨m, 5, none⟩) m2 _).setCell_other (p := ⟨m, 6, none⟩) m2 _).alloc _
  · exact ((h3.setCell_other (p := ⟨m, 5, none⟩) m3 _).setCell_other (p := ⟨m, 6, none⟩) m3 _).alloc _
  · exact ((h4.setCell_other (p := ⟨m, 5, none⟩) m4 _).setCell_other (p := ⟨m, 6, none⟩) m4 _).alloc _
end

end Go.Proofs.Qxb6500415a
