/-
  OWN WORK. THE PAGER LAW's KeepPlay: Abort, Commit.
-/
import Derived.Test.Qxb6500411aQPlay
namespace Go.Proofs.Qxb6500411a
open Go.RowKit
set_option linter.unusedSimpArgs false
set_option linter.unusedVariables false

section
variable {w : World} {p l d k c m o : Nat} {blk base : List ByteArray} {recs : List (Nat × ByteArray)} {op : Bool} {com view : List ByteArray} {uc : List Bool} {pc : List ByteArray} {um : List Bool} {pm : List ByteArray} {uo : List Bool} {po : List ByteArray} {F G C M : Nat → Prop}

theorem keeper_set0 (c m o c' : Nat) (op : Bool) : (keeperC c m o op).setIfInBounds 0 (.pointer (some ⟨c', 0, none⟩)) = keeperC c' m o op := rfl
theorem keeper_set1 (c m o m' : Nat) (op : Bool) : (keeperC c m o op).setIfInBounds 1 (.pointer (some ⟨m', 0, none⟩)) = keeperC c m' o op := rfl

set_option maxRecDepth 100000 in
set_option maxHeartbeats 1000000 in
theorem play_abort (a b cc : Int) (s t : ByteArray) (j0 : JK w p l d k c m o blk base recs op com view uc pc um pm uo po F G C M) :
    Calls Try.prog 11 #[.pointer (some ⟨p, 0, none⟩), .pointer (some ⟨k, 0, none⟩), .agg #[.int .i64 3, .int .i64 a, .int .i64 b, .int .i64 cc, .string s, .string t]] w fun e w' =>
      e = .returned (.bool true) ∧ KP w p l d k o base uo po F G C M blk recs op com 3 w' := by
  have o1 : Only (fun _ => False) w (w.alloc (.cells #[.int .i64 3, .int .i64 a, .int .i64 b, .int .i64 cc, .string s, .string t] 40)) := (Only.refl _ w).alloc _
  have j1 := j0.keep o1
  have J0 := hide j0
  cases op with
  | false =>
    have C1 := hide (pabort_shut j1.pg)
    have c3 := j1.kp.cell 3
    unfold keeperC at c3
    go_enter Try.func11, Try.ntmps11
    go_wp2_with fail
    refine (unhide C1).mono ?_
    rintro e w1 ⟨rfl, rfl⟩
    go_wp2_with fail
    go_ret
    exact ⟨rfl, (unhide J0).same o1⟩
  | true =>
    have C1 := hide (pabort_open j1.pg)
    go_enter Try.func11, Try.ntmps11
    go_wp2_with fail
    refine (unhide C1).mono ?_
    rintro e w2 ⟨rfl, h2, ho2⟩
    have s2 := ho2.size
    simp only [World.size_alloc] at s2
    obtain ⟨k2, bc2, bm2, bo2⟩ := j1.ghosts (ho2.mono (fun x _ h => by rcases h with h | h; exact .inr (.inl h); exact .inr (.inr h)))
    have c3 := k2.cell 3
    have c1 := k2.cell 1
    unfold keeperC at c3 c1
    have C2 := hide (copyBook_any bm2)
    go_wp2_with fail
    refine (unhide C2).mono ?_
    rintro e w3 ⟨rfl, bn3, ho3⟩
    have s3 := ho3.size
    have k3 := k2.keep ho3 (fun h => h)
    have d0 := k3.cell 0
    have d3 := k3.cell 3
    have z0 := k3.free 0
    have z3 := k3.free 3
    unfold keeperC at d0 d3
    have k4 := (k3.setCell 0 (.pointer (some ⟨w2.heap.size, 0, none⟩))).setCell 3 (.bool false)
    rw [keeper_set0, keeper_set3] at k4
    have o4 := (PAt.only1 (w := w3) (p := k) 0 (.pointer (some ⟨w2.heap.size, 0, none⟩))).trans (PAt.only1 (p := k) 3 (.bool false)) (fun _ _ h => h)
    have kl := k3.lt
    go_wp2_with fail
    go_ret
    have hFi := j0.pg.inF
    have hGi := j0.pg.inG
    have hpl := j0.pg.plt
    have hkl := j0.kp.lt
    have hMi := j0.bm.inn
    have hN : ∀ x, Ext (fun _ => False) w2 w3 x → w2.heap.size ≤ x := Ext.le (fun _ h => h.elim) (Nat.le_refl _)
    refine ⟨rfl, w2.heap.size, m, blk, recs, false, com, com.take 72, um, pm, um, pm, F, Ext (fun _ => False) w2 w3, M, ⟨(h2.quiet ho3).keep o4 (fun x hx e => j0.kF (.inl (e ▸ hx))) (fun x hx e => j0.kF (.inr (.inl (e ▸ hx)))) (fun e => j0.kF (.inr (.inr e.symm))), k4, bn3.keep o4 (fun x hx e => by have := hN x hx; omega), (bm2.keep ho3 (fun _ _ h => h)).keep o4 (fun x hx e => j0.MF x hx (.inr (.inr (.inr e)))), (bo2.keep ho3 (fun _ _ h => h)).keep o4 (fun x hx e => j0.MF x hx (.inr (.inr (.inr e)))), j0.sem, j0.sem, ?_, j0.MF, j0.kF⟩, ?_, ?_, .inl ⟨rfl, rfl, rfl, j0.pg.still⟩⟩
    · intro x hx h
      have := hN x hx
      rcases h with h | h | h | h | h
      · have := hFi x h; omega
      · have := hGi x h; omega
      · omega
      · omega
      · have := hMi x h; omega
    · intro x hx
      rcases hx with h | h | h
      · exact .inl h
      · have := hN x h; exact .inr (.inr (.inr (by omega)))
      · exact .inr (.inr (.inl h))
    · exact (((o1.mono (fun _ _ h => h.elim)).trans ho2 (fun _ _ h => by rcases h with h | h; exact .inr (.inl h); exact .inr (.inr (.inr (.inl h))))).trans ho3 (fun _ _ h => h.elim)).trans o4 (fun _ _ h => .inr (.inr (.inr (.inr h))))

set_option maxRecDepth 100000 in
set_option maxHeartbeats 1000000 in
theorem play_commit (a b cc : Int) (s t : ByteArray) (j0 : JK w p l d k c m o blk base recs op com view uc pc um pm uo po F G C M) (hrc : recs.length ≤ 100) :
    Calls Try.prog 11 #[.pointer (some ⟨p, 0, none⟩), .pointer (some ⟨k, 0, none⟩), .agg #[.int .i64 2, .int .i64 a, .int .i64 b, .int .i64 cc, .string s, .string t]] w fun e w' =>
      e = .returned (.bool true) ∧ KP w p l d k o base uo po F G C M blk recs op com 2 w' := by
  have o1 : Only (fun _ => False) w (w.alloc (.cells #[.int .i64 2, .int .i64 a, .int .i64 b, .int .i64 cc, .string s, .string t] 40)) := (Only.refl _ w).alloc _
  have j1 := j0.keep o1
  have J0 := hide j0
  cases op with
  | false =>
    have C1 := hide (pcommit_shut j1.pg)
    have c3 := j1.kp.cell 3
    unfold keeperC at c3
    go_enter Try.func11, Try.ntmps11
    go_wp2_with fail
    refine (unhide C1).mono ?_
    rintro e w1 ⟨rfl, rfl⟩
    go_wp2_with fail
    go_ret
    exact ⟨rfl, (unhide J0).same o1⟩
  | true =>
    have C1 := hide (pcommit_open j1.pg hrc)
    go_enter Try.func11, Try.ntmps11
    go_wp2_with fail
    refine (unhide C1).mono ?_
    rintro e w2 ⟨rfl, rs, com', h2, hcu, ho2⟩
    have s2 := ho2.size
    simp only [World.size_alloc] at s2
    obtain ⟨k2, bc2, bm2, bo2⟩ := j1.ghosts ho2
    have hF2 : ∀ x, Ext F (w.alloc (.cells #[.int .i64 2, .int .i64 a, .int .i64 b, .int .i64 cc, .string s, .string t] 40)) w2 x → (F x ∨ w.heap.size + 1 ≤ x) ∧ x < w2.heap.size := by
      intro x hx
      refine ⟨?_, h2.inF x hx⟩
      rcases hx with hx | hx
      · exact .inl hx
      · simp at hx; exact .inr hx.1
    generalize Ext F (w.alloc (.cells #[.int .i64 2, .int .i64 a, .int .i64 b, .int .i64 cc, .string s, .string t] 40)) w2 = F2 at *
    have c3 := k2.cell 3
    have c0 := k2.cell 0
    unfold keeperC at c3 c0
    have C2 := hide (copyBook_any bc2)
    go_wp2_with fail
    refine (unhide C2).mono ?_
    rintro e w3 ⟨rfl, bn3, ho3⟩
    have s3 := ho3.size
    have k3 := k2.keep ho3 (fun h => h)
    have d1 := k3.cell 1
    have d3 := k3.cell 3
    have z1 := k3.free 1
    have z3 := k3.free 3
    unfold keeperC at d1 d3
    have k4 := (k3.setCell 1 (.pointer (some ⟨w2.heap.size, 0, none⟩))).setCell 3 (.bool false)
    rw [keeper_set1, keeper_set3] at k4
    have o4 := (PAt.only1 (w := w3) (p := k) 1 (.pointer (some ⟨w2.heap.size, 0, none⟩))).trans (PAt.only1 (p := k) 3 (.bool false)) (fun _ _ h => h)
    have kl := k3.lt
    have s4 := o4.size
    go_wp2_with fail
    go_ret
    have hFi := j0.pg.inF
    have hGi := j0.pg.inG
    have hpl := j0.pg.plt
    have hkl := j0.kp.lt
    have hMi := j0.bm.inn
    have hCi := j0.bc.inn
    have hN : ∀ x, Ext (fun _ => False) w2 w3 x → w2.heap.size ≤ x ∧ x < w3.heap.size := by
      intro x hx; rcases hx with hx | hx
      · exact hx.elim
      · exact hx
    have kF' : ¬ (F2 k ∨ G k ∨ k = p) := by
      rintro (h | h | h)
      · rcases (hF2 k h).1 with h | h
        · exact j0.kF (.inl h)
        · omega
      · exact j0.kF (.inr (.inl h))
      · exact j0.kF (.inr (.inr h))
    have hMC : ∀ x, M x → ¬ C x := fun x hx hc => j0.CF x hc (.inr (.inr (.inr (.inr hx))))
    refine ⟨rfl, c, w2.heap.size, replay blk rs, recs ++ rs, false, com', view, uc, pc, uc, pc, F2, C, fun x => M x ∨ Ext (fun _ => False) w2 w3 x, ⟨(h2.quiet ho3).keep o4 (fun x hx e => kF' (.inl (e ▸ hx))) (fun x hx e => kF' (.inr (.inl (e ▸ hx)))) (fun e => kF' (.inr (.inr e.symm))), k4, (bc2.keep ho3 (fun _ _ h => h)).keep o4 (fun x hx e => j0.CF x hx (.inr (.inr (.inr (.inl e))))), (bn3.keep o4 (fun x hx e => by have := hN x hx; omega)).mono (fun x hx => .inr hx) ?_, ((bo2.keep ho3 (fun _ _ h => h)).keep o4 (fun x hx e => j0.MF x hx (.inr (.inr (.inr e))))).mono (fun x hx => .inl hx) ?_, j0.see, ?_, ?_, ?_, kF'⟩, ?_, ?_, .inr ⟨rs, rfl, rfl, hcu⟩⟩
    · rintro x (hx | hx)
      · have := hMi x hx; omega
      · have := hN x hx; omega
    · rintro x (hx | hx)
      · have := hMi x hx; omega
      · have := hN x hx; omega
    · rw [← h2.shut]; exact j0.see
    · intro x hx h
      have hxl := hCi x hx
      rcases h with h | h | h | h | h | h
      · rcases (hF2 x h).1 with h | h
        · exact j0.CF x hx (.inl h)
        · omega
      · exact j0.CF x hx (.inr (.inl h))
      · exact j0.CF x hx (.inr (.inr (.inl h)))
      · exact j0.CF x hx (.inr (.inr (.inr (.inl h))))
      · exact j0.CF x hx (.inr (.inr (.inr (.inr h))))
      · have := hN x h; omega
    · intro x hx h
      rcases hx with hx | hx
      · have hxl := hMi x hx
        rcases h with h | h | h | h
        · rcases (hF2 x h).1 with h | h
          · exact j0.MF x hx (.inl h)
          · omega
        · exact j0.MF x hx (.inr (.inl h))
        · exact j0.MF x hx (.inr (.inr (.inl h)))
        · exact j0.MF x hx (.inr (.inr (.inr h)))
      · have := hN x hx
        rcases h with h | h | h | h
        · have := (hF2 x h).2; omega
        · have := hGi x h; omega
        · omega
        · omega
    · rintro x (h | h | h | h)
      · rcases (hF2 x h).1 with h | h
        · exact .inl h
        · exact .inr (.inr (.inr (by omega)))
      · exact .inr (.inl h)
      · exact .inr (.inr (.inl h))
      · have := hN x h; exact .inr (.inr (.inr (by omega)))
    · exact (((o1.mono (fun _ _ h => h.elim)).trans ho2 (fun _ _ h => by rcases h with h | h | h; exact .inl h; exact .inr (.inl h); exact .inr (.inr (.inr (.inl h))))).trans ho3 (fun _ _ h => h.elim)).trans o4 (fun _ _ h => .inr (.inr (.inr (.inr h))))
end
end Go.Proofs.Qxb6500411a
