/-
  OWN WORK. THE MODEL pagerm.Pager: Abort, Commit, Mark, over, New, Crashed, Clone.
-/
import Derived.Test.Qxb6500411aGreatNPgW
namespace Go.Proofs.Qxb6500411aGreat
open Go.RowKit
set_option linter.unusedSimpArgs false
set_option linter.unusedVariables false

section
variable {w : World} {q : Nat} {uc : List Bool} {pc : List ByteArray} {um : List Bool} {pm : List ByteArray} {ub : List Bool} {pb : List ByteArray} {hist : Option (List Bool × List ByteArray)} {op : Bool} {F : Nat → Prop}

theorem nabort_shut (h : MPAt w q uc pc um pm ub pb hist false F) :
    Calls Tryz.prog 66 #[.pointer (some ⟨q, 0, none⟩)] w fun e w' => e = .returned (.int .i64 2) ∧ w = w' := by
  have c4 := h.opc
  go_enter Tryz.func66, Tryz.ntmps66
  go_wp2
  go_ret
  exact ⟨rfl, rfl⟩
theorem ncommit_shut (h : MPAt w q uc pc um pm ub pb hist false F) :
    Calls Tryz.prog 64 #[.pointer (some ⟨q, 0, none⟩)] w fun e w' => e = .returned (.int .i64 2) ∧ w = w' := by
  have c4 := h.opc
  go_enter Tryz.func64, Tryz.ntmps64
  go_wp2
  go_ret
  exact ⟨rfl, rfl⟩

theorem newN {w w1 : World} {x : Nat} (hx : Ext (fun _ => False) w w1 x) : w.heap.size ≤ x ∧ x < w1.heap.size := by
  rcases hx with hx | hx
  · exact hx.elim
  · exact hx

set_option maxRecDepth 100000 in
set_option maxHeartbeats 1000000 in
theorem nabort_open (h : MPAt w q uc pc um pm ub pb hist true F) :
    Calls Tryz.prog 66 #[.pointer (some ⟨q, 0, none⟩)] w fun e w' => e = .returned (.int .i64 0) ∧ MPAt w' q um pm um pm ub pb hist false (Ext F w w') ∧ Only F w w' := by
  obtain ⟨⟨s0, s1, s2, hv, F0, F1, h1, h2, h3, h4, h5, fh, f, f0, f1⟩, hi⟩ := h
  have c1 := h1.cell 1
  have c4 := h1.cell 4
  have C1 := hide (sclone_any h3)
  have hql := hi _ f
  go_enter Tryz.func66, Tryz.ntmps66
  go_wp2_with fail
  refine (unhide C1).mono ?_
  rintro e w1 ⟨rfl, n1, ho1⟩
  have s1z := ho1.size
  have k1 := h1.keep ho1 (fun h => h)
  have d0 := k1.cell 0
  have d4 := k1.cell 4
  have z0 := k1.free 0
  have z4 := k1.free 4
  have k2 := (k1.setCell 0 (.pointer (some ⟨w.heap.size, 0, none⟩))).setCell 4 (.bool false)
  have o2 := (PAt.only1 (w := w1) (p := q) 0 (.pointer (some ⟨w.heap.size, 0, none⟩))).trans (PAt.only1 (p := q) 4 (.bool false)) (fun _ _ h => h)
  have o2s := o2.size
  go_wp2_with fail
  go_ret
  have ho : Only F w ((w1.setCell ⟨q, 0, none⟩ (.pointer (some ⟨w.heap.size, 0, none⟩))).setCell ⟨q, 4, none⟩ (.bool false)) := (ho1.mono (fun _ _ h => h.elim)).trans o2 (fun _ _ e => e ▸ f)
  refine ⟨rfl, ⟨⟨w.heap.size, s1, s2, hv, Ext (fun _ => False) w w1, F1, k2, n1.keep o2 (fun x hx e => by have := newN hx; omega), (h3.keep ho1 (fun _ _ h => h)).keep o2 (fun x hx => (f1 x hx).2), (h4.keep ho1 (fun _ _ h => h)).keep o2 (fun x hx => (f1 x hx).2), (h5.keep ho1 (fun _ _ h => h) (fun _ _ h => h)).keep o2 (fun x hx => (f1 x hx).2) (fun k hk => (fh k hk).2.1), ?_, .inl f, ?_, fun x hx => ⟨.inl (f1 x hx).1, (f1 x hx).2⟩⟩, Ext.in hi ho.size⟩, ho⟩
  · intro k hk
    have hk4 := fh k hk
    exact ⟨.inl hk4.1, hk4.2.1, fun hx => by have := newN hx; have := hi _ hk4.1; omega, hk4.2.2.2⟩
  intro x hx
  have := newN hx
  exact ⟨.inr ⟨this.1, by simpa using this.2⟩, by omega, fun h => by have := hi _ (f1 x h).1; omega⟩

theorem Tryz.infoNState : (Tryz.prog.info? 50).map (fun i => (i.zero, i.size, i.bytes)) = some (some (.pointer none), 1, 8) := by kernel_rfl

set_option maxRecDepth 100000 in
set_option maxHeartbeats 2000000 in
theorem ncommit_open (h : MPAt w q uc pc um pm ub pb none true F) :
    Calls Tryz.prog 64 #[.pointer (some ⟨q, 0, none⟩)] w fun e w' => e = .returned (.int .i64 0) ∧ MPAt w' q uc pc uc pc ub pb (some (uc, pc)) false (Ext F w w') ∧ Only F w w' := by
  obtain ⟨⟨s0, s1, s2, hv, F0, F1, h1, h2, h3, h4, h5, fh, f, f0, f1⟩, hi⟩ := h
  have c0 := h1.cell 0
  have c4 := h1.cell 4
  have C1 := hide (sclone_any h2)
  have hql := hi _ f
  obtain ⟨i0, hi0, hz0, hz1, hz2⟩ := info_parts Tryz.infoNState
  go_enter Tryz.func64, Tryz.ntmps64
  go_wp2_with fail
  refine (unhide C1).mono ?_
  rintro e w1 ⟨rfl, n1, ho1⟩
  have s1z := ho1.size
  have k1 := h1.keep ho1 (fun h => h)
  have d1 := k1.cell 1
  have z1 := k1.free 1
  have k2 := k1.setCell 1 (.pointer (some ⟨w.heap.size, 0, none⟩))
  have o2 := PAt.only1 (w := w1) (p := q) 1 (.pointer (some ⟨w.heap.size, 0, none⟩))
  have sw2 : (w1.setCell ⟨q, 1, none⟩ (.pointer (some ⟨w.heap.size, 0, none⟩))).heap.size = w1.heap.size := by simp
  have h22 := (h2.keep ho1 (fun _ _ h => h)).keep o2 (fun x hx => (f0 x hx).2.1)
  have C2 := hide (sclone_any h22)
  have e0 := k2.cell 0
  simp at e0
  clear C1 c0 c4
  go_wp2_with fail
  refine (unhide C2).mono ?_
  rintro e w3 ⟨rfl, n3, ho3⟩
  have s3z := ho3.size
  rw [sw2] at n3 s3z
  rw [sw2]
  have k3 := k2.keep ho3 (fun h => h)
  have j5 : w3.ownsRow 0 50 1 hv 0 [] := ((h5.keep ho1 (fun _ _ h => h) (fun _ _ h => h)).keep o2 (fun x hx => (f1 x hx).2) (fun k hk => (fh k hk).2.1)).keep ho3 (fun _ _ h => h) (fun _ _ h => h)
  have e3 := k3.cell 3
  simp at e3
  have hhl : ∀ k, hv.ownBlock = some k → k < w.heap.size := fun k hk => hi k (fh k hk).1
  clear C2 d1 z1 e0
  go_wp2_with (at_builtin; refine wpList_append2 _ rfl _ _ 53 rfl 50 i0 _ 1 8 Tryz.underlying53 hi0 hz0 hz1 hz2 rfl (by decide) _ _ _ rfl (j5.alloc _) ⟨w3.heap.size, 0, none⟩ 1 1 [.pointer (some ⟨w1.heap.size, 0, none⟩)] rfl rfl ?c1 ?c2 ?c3 ?c4 ?_)
  case c1 => exact news_ok _ _ _ _ rfl
  case c2 => intro u hu; simp at hu; subst hu; rfl
  case c3 => unfold maxLen; omega
  case c4 => omega
  intro v' w4 hown' hgrow hwhere
  have s4z := hgrow.size
  simp only [World.size_alloc] at s4z
  have o4 : Only (fun k => hv.ownBlock = some k) w3 w4 := ((Only.refl (fun k => hv.ownBlock = some k) w3).alloc _).grown hgrow (fun k hk _ => hk)
  have k4 := k3.keep o4 (fun e => (fh _ e).2.1 rfl)
  obtain ⟨a', cap', hv'⟩ := ownsRow_shape hown'
  have lv := ownsRow_lt hown'
  have nv := ownsRow_ne hown' k4 (by decide)
  have t3 := k4.cell 3
  have t4 := k4.cell 4
  have tz := k4.free 3
  have ty := k4.free 4
  simp at t3 t4
  rw [hv']
  rw [hv'] at hown' lv hwhere nv
  have k5 := (k4.setCell 3 (.slice a' (0 + 1) cap')).setCell 4 (.bool false)
  have o5 := (PAt.only1 (w := w4) (p := q) 3 (.slice a' (0 + 1) cap')).trans (PAt.only1 (p := q) 4 (.bool false)) (fun _ _ h => h)
  have o5s := o5.size
  have hw5 : ((w4.setCell ⟨q, 3, none⟩ (.slice a' (0 + 1) cap')).setCell ⟨q, 4, none⟩ (.bool false)).heap.size = w4.heap.size := by simp
  go_wp2_with fail
  go_ret
  have oall : Only F w ((w4.setCell ⟨q, 3, none⟩ (.slice a' (0 + 1) cap')).setCell ⟨q, 4, none⟩ (.bool false)) := ((((ho1.mono (fun _ _ h => h.elim)).trans o2 (fun _ _ e => e ▸ f)).trans ho3 (fun _ _ h => h.elim)).trans o4 (fun _ _ h => (fh _ h).1)).trans o5 (fun _ _ e => e ▸ f)
  have N1 : ∀ x, Ext (fun _ => False) w w1 x → w.heap.size ≤ x ∧ x < w1.heap.size := fun x hx => newN hx
  have N3 : ∀ x, Ext (fun _ => False) (w1.setCell ⟨q, 1, none⟩ (.pointer (some ⟨w.heap.size, 0, none⟩))) w3 x → w1.heap.size ≤ x ∧ x < w3.heap.size := fun x hx => by have := newN hx; rwa [sw2] at this
  generalize Ext (fun _ => False) w w1 = E1 at n1 N1
  generalize Ext (fun _ => False) (w1.setCell ⟨q, 1, none⟩ (.pointer (some ⟨w.heap.size, 0, none⟩))) w3 = E3 at n3 N3
  have hle : ∀ (u v : Value), ((w4.setCell ⟨q, 3, none⟩ u).setCell ⟨q, 4, none⟩ v).heap.size = w4.heap.size := fun _ _ => by simp
  have hin : ∀ x, (F1 x ∨ E1 x ∨ E3 x) → x < ((w4.setCell ⟨q, 3, none⟩ (.slice a' (0 + 1) cap')).setCell ⟨q, 4, none⟩ (.bool false)).heap.size := by
    rintro x (hx | hx | hx)
    · have := hi _ (f1 x hx).1; rw [hle]; omega
    · have := N1 x hx; rw [hle]; omega
    · have := N3 x hx; rw [hle]; omega
  have nq1 : ∀ x, E1 x → x ≠ q := fun x hx e => by have := N1 x hx; omega
  have nq3 : ∀ x, E3 x → x ≠ q := fun x hx e => by have := N3 x hx; omega
  have nh1 : ∀ x, E1 x → ¬ hv.ownBlock = some x := fun x hx e => by have := N1 x hx; have := hhl _ e; omega
  have nh3 : ∀ x, E3 x → ¬ hv.ownBlock = some x := fun x hx e => by have := N3 x hx; have := hhl _ e; omega
  have nhF : ∀ x, F1 x → ¬ hv.ownBlock = some x := fun x hx e => (fh _ e).2.2.2 hx
  have nhF0 : ∀ x, F0 x → ¬ hv.ownBlock = some x := fun x hx e => (fh _ e).2.2.1 hx
  have a1 := (((n1.keep o2 nq1).keep ho3 (fun _ _ h => h)).keep o4 nh1).keep o5 nq1
  have a3 := (n3.keep o4 nh3).keep o5 nq3
  have a0 := ((h22.keep ho3 (fun _ _ h => h)).keep o4 nhF0).keep o5 (fun x hx => (f0 x hx).2.1)
  have a4 := ((((h4.keep ho1 (fun _ _ h => h)).keep o2 (fun x hx => (f1 x hx).2)).keep ho3 (fun _ _ h => h)).keep o4 nhF).keep o5 (fun x hx => (f1 x hx).2)
  have hown5 := ownsRow_keep hown' o5 (fun k hk e => nv k hk e)
  refine ⟨rfl, ⟨⟨s0, w.heap.size, s2, .slice a' (0 + 1) cap', F0, fun x => F1 x ∨ E1 x ∨ E3 x, by simpa using k5, a0, a1.mono (fun x hx => .inr (.inl hx)) hin, a4.mono (fun x hx => .inl hx) hin, ⟨w1.heap.size, hown5, a3.mono (fun x hx => .inr (.inr hx)) hin⟩, ?_, .inl f, ?_, ?_⟩, Ext.in hi oall.size⟩, oall⟩
  · intro k hk
    have hk2 := lv k hk
    rcases hwhere k hk with hk' | hk'
    · have hk4 := fh k hk'
      refine ⟨.inl hk4.1, hk4.2.1, hk4.2.2.1, ?_⟩
      rintro (h | h | h)
      · exact hk4.2.2.2 h
      · exact nh1 k h hk'
      · exact nh3 k h hk'
    · try simp only [World.size_alloc] at hk'
      have hk3 : k < w4.heap.size := hk2
      refine ⟨.inr ⟨by omega, by rw [hle]; omega⟩, by omega, fun h => by have := hi _ (f0 k h).1; omega, ?_⟩
      rintro (h | h | h)
      · have := hi _ (f1 k h).1; omega
      · have := N1 k h; omega
      · have := N3 k h; omega
  · intro x hx
    refine ⟨.inl (f0 x hx).1, (f0 x hx).2.1, ?_⟩
    rintro (h | h | h)
    · exact (f0 x hx).2.2 h
    · have := N1 x h; have := hi _ (f0 x hx).1; omega
    · have := N3 x h; have := hi _ (f0 x hx).1; omega
  · rintro x (h | h | h)
    · exact ⟨.inl (f1 x h).1, (f1 x h).2⟩
    · have := N1 x h; exact ⟨.inr ⟨by omega, by rw [hle]; omega⟩, by omega⟩
    · have := N3 x h; exact ⟨.inr ⟨by omega, by rw [hle]; omega⟩, by omega⟩

set_option maxRecDepth 100000 in
set_option maxHeartbeats 1000000 in
theorem nmark_any (h : MPAt w q uc pc um pm ub pb hist op F) :
    Calls Tryz.prog 12 #[.pointer (some ⟨q, 0, none⟩)] w fun e w' => e = .returned (.tuple #[]) ∧ MPAt w' q uc pc um pm um pm none op (Ext F w w') ∧ Only F w w' := by
  obtain ⟨⟨s0, s1, s2, hv, F0, F1, h1, h2, h3, h4, h5, fh, f, f0, f1⟩, hi⟩ := h
  obtain ⟨a, cap, hsh⟩ := h5.shape
  have c1 := h1.cell 1
  have C1 := hide (sclone_any h3)
  have hql := hi _ f
  go_enter Tryz.func12, Tryz.ntmps12
  go_wp2_with fail
  refine (unhide C1).mono ?_
  rintro e w1 ⟨rfl, n1, ho1⟩
  have s1z := ho1.size
  have k1 := h1.keep ho1 (fun h => h)
  have d2 := k1.cell 2
  have d3 := k1.cell 3
  rw [hsh] at d3
  have z2 := k1.free 2
  have z3 := k1.free 3
  have k2 := (k1.setCell 2 (.pointer (some ⟨w.heap.size, 0, none⟩))).setCell 3 (.slice none 0 0)
  have o2 := (PAt.only1 (w := w1) (p := q) 2 (.pointer (some ⟨w.heap.size, 0, none⟩))).trans (PAt.only1 (p := q) 3 (.slice none 0 0)) (fun _ _ h => h)
  have o2s := o2.size
  have hw2 : ((w1.setCell ⟨q, 2, none⟩ (.pointer (some ⟨w.heap.size, 0, none⟩))).setCell ⟨q, 3, none⟩ (.slice none 0 0)).heap.size = w1.heap.size := by simp
  go_wp2_with fail
  go_end0
  have ho : Only F w ((w1.setCell ⟨q, 2, none⟩ (.pointer (some ⟨w.heap.size, 0, none⟩))).setCell ⟨q, 3, none⟩ (.slice none 0 0)) := (ho1.mono (fun _ _ h => h.elim)).trans o2 (fun _ _ e => e ▸ f)
  have N1 : ∀ x, Ext (fun _ => False) w w1 x → w.heap.size ≤ x ∧ x < w1.heap.size := fun x hx => newN hx
  generalize Ext (fun _ => False) w w1 = E1 at n1 N1
  have hin : ∀ x, (F1 x ∨ E1 x) → x < ((w1.setCell ⟨q, 2, none⟩ (.pointer (some ⟨w.heap.size, 0, none⟩))).setCell ⟨q, 3, none⟩ (.slice none 0 0)).heap.size := by
    rintro x (hx | hx)
    · have := hi _ (f1 x hx).1; omega
    · have := N1 x hx; omega
  refine ⟨rfl, ⟨⟨s0, s1, w.heap.size, .slice none 0 0, F0, fun x => F1 x ∨ E1 x, by simpa using k2, (h2.keep ho1 (fun _ _ h => h)).keep o2 (fun x hx => (f0 x hx).2.1), ((h3.keep ho1 (fun _ _ h => h)).keep o2 (fun x hx => (f1 x hx).2)).mono (fun x hx => .inl hx) hin, (n1.keep o2 (fun x hx e => by have := N1 x hx; omega)).mono (fun x hx => .inr hx) hin, World.ownsRow_nil _ _ _ _, fun k hk => by simp [Value.ownBlock] at hk, .inl f, ?_, ?_⟩, Ext.in hi ho.size⟩, ho⟩
  · intro x hx
    refine ⟨.inl (f0 x hx).1, (f0 x hx).2.1, ?_⟩
    rintro (h | h)
    · exact (f0 x hx).2.2 h
    · have := N1 x h; have := hi _ (f0 x hx).1; omega
  · rintro x (h | h)
    · exact ⟨.inl (f1 x h).1, (f1 x h).2⟩
    · have := N1 x h; exact ⟨.inr ⟨by omega, by omega⟩, by omega⟩
end
end Go.Proofs.Qxb6500411aGreat
