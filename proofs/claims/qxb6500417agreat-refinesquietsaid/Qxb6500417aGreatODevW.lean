/-
  OWN WORK. THE DEVICE: Write.
-/
import Derived.Test.Qxb6500417aGreatODevM
import Derived.Deep.RegionLaw
namespace Go.Proofs.Qxb6500417aGreat
open Go.RowKit
set_option linter.unusedSimpArgs false
set_option linter.unusedVariables false

def putB (D : Nat → Nat) (b : Nat) (x : Nat → Nat) : Nat → Nat := fun i => if b * 64 ≤ i ∧ i < b * 64 + 64 then x (i - b * 64) else D i
def putK (D : Nat → Nat) (b : Nat) (x : Nat → Nat) (k : Nat) : Nat → Nat := fun i => if b * 64 ≤ i ∧ i < b * 64 + k then x (i - b * 64) else D i
theorem putK_succ (D : Nat → Nat) (b : Nat) (x : Nat → Nat) (k : Nat) : (fun j => if j = b * 64 + k then x k else putK D b x k j) = putK D b x (k + 1) := by
  funext j
  unfold putK
  by_cases e : j = b * 64 + k
  · subst e
    rw [if_pos rfl, if_pos (by omega)]
    congr 1
    omega
  · rw [if_neg e]
    by_cases h : b * 64 ≤ j ∧ j < b * 64 + k
    · rw [if_pos h, if_pos (by omega)]
    · rw [if_neg h, if_neg (by omega)]
theorem putK_zero (D : Nat → Nat) (b : Nat) (x : Nat → Nat) : putK D b x 0 = D := by
  funext j
  unfold putK
  rw [if_neg (by omega)]
theorem recDat_length (recs : List Rec) : (recDat recs).length = 64 * recs.length := by
  induction recs with
  | nil => rfl
  | cons a r ih =>
    have : recDat (a :: r) = (List.range 64).map (u8f a.2) ++ recDat r := rfl
    rw [this, List.length_append, ih]
    simp
    omega
theorem recDat_snoc (recs : List Rec) (r : Rec) : recDat (recs ++ [r]) = recDat recs ++ (List.range 64).map (u8f r.2) := by
  unfold recDat
  rw [List.flatMap_append]
  simp

theorem Tryz.infoInto : (Tryz.prog.info? 3).map (fun i => (i.zero, i.size, i.bytes)) = some (some (.int .i64 0), 1, 8) := by kernel_rfl

/-- What holds at each head of Write's loop. -/
structure WrI (w : World) (d b0 b1 g : Nat) (D B : Nat → Nat) (recs : List Rec) (b : Nat) (x : Nat → Nat) (av : Value) (F : Nat → Prop) (k : Nat) (dv : Value) (wr : World) : Prop where
  h1 : Has wr d #[.slice (some ⟨b0, 0, none⟩) 9280 9280, .slice (some ⟨b1, 0, none⟩) 9280 9280, av, dv] 93
  h2 : Has wr b0 (tabV 9280 (u8f (putK D b x k))) 5
  h3 : Has wr b1 (tabV 9280 (u8f B)) 5
  hg : Has wr g (tabV 64 (u8f x)) 5
  h4 : wr.ownsRow 0 3 1 av recs.length (recAt recs)
  h5 : wr.ownsRow 0 5 1 dv (64 * recs.length + k) (recDat recs ++ (List.range k).map (u8f x))
  fd : ∀ y, dv.ownBlock = some y → (F y ∨ w.heap.size ≤ y) ∧ y ≠ b0 ∧ y ≠ b1 ∧ y ≠ g
  ho : Only F w wr

set_option maxRecDepth 100000 in
set_option maxHeartbeats 4000000 in
theorem dvwrite_in {w : World} {d g : Nat} {D B : Nat → Nat} {recs : List Rec} {F : Nat → Prop} (h : DevAt w d D B recs F) (b : Nat) (hb : b < 145) (x : Nat → Nat) (hg : Has w g (tabV 64 (u8f x)) 5) (hgF : ¬ F g) (hrl : recs.length ≤ 1000) :
    Calls Tryz.prog 193 #[.pointer (some ⟨d, 0, none⟩), .int .i64 b, .slice (some ⟨g, 0, none⟩) 64 64] w fun e w' => e = .returned (.int .i64 0) ∧ DevAt w' d (putB D b x) B (recs ++ [(b, x)]) (Ext F w w') ∧ Only F w w' := by
  obtain ⟨⟨b0, b1, av, dv, h1, h2, h3, h4, h5, n1, f, f0, f1, fa, fd⟩, hi⟩ := h
  have a0 : decide ((b : Int) < 0) = false := by simp
  have a1 : decide (145 ≤ (b : Int)) = false := by simp; omega
  have m2 := h1.ne h2 (by decide)
  have m3 := h1.ne h3 (by decide)
  have mg := h1.ne hg (by decide)
  have ng0 : g ≠ b0 := fun e => hgF (e ▸ f0)
  have ng1 : g ≠ b1 := fun e => hgF (e ▸ f1)
  have hgl := hg.lt
  have hdl := h1.lt
  have hb0l := h2.lt
  have hb1l := h3.lt
  have hI0 : WrI w d b0 b1 g D B recs b x av F 0 dv w := by
    refine ⟨h1, by rw [putK_zero]; exact h2, h3, hg, h4, by simpa using h5, ?_, Only.refl _ w⟩
    intro y hy
    have := fd y hy
    exact ⟨.inl this.1, this.2.1, this.2.2, fun e => hgF (e ▸ this.1)⟩
  obtain ⟨i0, hi0, hz0, hz1, hz2⟩ := info_parts Tryz.infoU8o
  obtain ⟨j0, hj0, hy0, hy1, hy2⟩ := info_parts Tryz.infoInto
  have HI0 := hide hI0
  clear hI0 h1 h2 h3 hg h4 h5 fd
  go_enter Tryz.func193, Tryz.ntmps193
  go_wp2_with fail
  go_loopw [7] (fun v wr => ∃ (k : Nat) (dv' : Value), k ≤ 64 ∧ v = .int .i64 k ∧ WrI w d b0 b1 g D B recs b x av F k dv' wr) (fun v _ => (64 - intOf v).toNat)
  case atStart => exact ⟨0, dv, by omega, rfl, unhide HI0⟩
  case round =>
    clear HI0
    obtain ⟨k, dv', hk, rfl, hI⟩ := hrel
    have g1 := hI.h1
    have c0 := g1.cell 0
    by_cases hk6 : k < 64
    · have q1 := hI.h2.cell (b * 64 + k)
      rw [u8_get _ _ _ (by omega)] at q1
      have z1 := hI.h2.free (b * 64 + k)
      have qg := hI.hg.cell k
      rw [u8_get _ _ _ hk6] at qg
      have s2 := hI.h2.setCell (b * 64 + k) (.int .u8 (x k : Int))
      rw [u8_set, putK_succ] at s2
      have hk' : (k : Int) < 64 := by omega
      have i2 : (b : Int) * 64 + (k : Int) < 9280 := by omega
      have i3 : (0 : Int) ≤ (b : Int) * 64 + (k : Int) := by omega
      have s1 := g1.setCell_other (p := ⟨b0, b * 64 + k, none⟩) m2 (.int .u8 (x k : Int))
      have s3 := hI.h3.setCell_other (p := ⟨b0, b * 64 + k, none⟩) (fun e => n1 e.symm) (.int .u8 (x k : Int))
      have sg := hI.hg.setCell_other (p := ⟨b0, b * 64 + k, none⟩) ng0 (.int .u8 (x k : Int))
      have ob := only1 (w := wr) (p := b0) (b * 64 + k) (.int .u8 (x k : Int))
      have s4 := ownsRow_keep hI.h4 ob (fun y e => ownsRow_ne hI.h4 hI.h2 (by decide) y e)
      have s5 := ownsRow_keep hI.h5 ob (fun y e => (hI.fd y e).2.1)
      have so : Only F w (wr.setCell ⟨b0, b * 64 + k, none⟩ (.int .u8 (x k : Int))) := hI.ho.setCell (p := ⟨b0, b * 64 + k, none⟩) (fun _ => f0) _
      have sW : (wr.setCell ⟨b0, b * 64 + k, none⟩ (.int .u8 (x k : Int))).drew.heap.size = wr.heap.size := by simp
      have t1 := s1.drew
      have t2 := s2.drew
      have t3 := s3.drew
      have tg := sg.drew
      have t4 := s4.drew
      have t5 := s5.drew
      have to := so.drew
      have HsW := hide sW
      clear sW
      have hfd := hI.fd
      have hws := hI.ho.size
      obtain ⟨a5, c5, rfl⟩ := ownsRow_shape hI.h5
      have Hg := hide t4
      have Ht5 := hide t5
      generalize putK D b x k (b * 64 + k) = y0 at *
      have Hfd := hide hfd
      clear hI s1 s2 s3 sg s4 s5 so ob t4 t5 hfd
      go_wp2_with fail
      go_region
      go_wp2_with fail
      generalize hW : (wr.setCell ⟨b0, b * 64 + k, none⟩ (.int .u8 (x k : Int))).drew = W at *
      clear hW c0 q1 qg z1 g1
      have l5 : 64 * recs.length + k + 1 ≤ maxLen := by unfold maxLen; omega
      have e3 := t1.cell 3
      have eg := tg.cell k
      rw [u8_get _ _ _ hk6] at eg
      have z3 := t1.free 3
      have hfdd : (Value.slice a5 (64 * recs.length + k) c5).ownBlock ≠ some d := fun e => by
        exact ownsRow_ne (unhide Ht5) t1 (by decide) _ e rfl
      have hfdg : (Value.slice a5 (64 * recs.length + k) c5).ownBlock ≠ some g := fun e => ((unhide Hfd) _ e).2.2.2 rfl
      have ldW : d < W.heap.size := t1.lt
      have lgW : g < W.heap.size := tg.lt
      have A1 := (t1.alloc (.cells #[.int .u8 (x k : Int)] 5)).drew
      have AG := (tg.alloc (.cells #[.int .u8 (x k : Int)] 5)).drew
      have e3' := A1.cell 3
      have z3' := A1.free 3
      have eg' := AG.cell k
      rw [u8_get _ _ _ hk6] at eg'
      have nd3 : (64 * recs.length + k : Nat) + 1 = 64 * recs.length + (k + 1) := by omega
      go_region_law
        ((refine step_append_lies _ (by rfl) _ _ _ (by rfl) 0 5 i0 _ 1 1 Tryz.underlying90 hi0 hz0 hz1 hz2 rfl (by omega) (.slice a5 (64 * recs.length + k) c5) (64 * recs.length + k) (recDat recs ++ (List.range k).map (u8f x)) (by rfl) (((unhide Ht5).alloc _).drew) ⟨W.heap.size, 0, none⟩ 1 1 [.int .u8 (x k : Int)] (by rfl) (by rfl) (World.news_of_block (cs := #[.int .u8 (x k : Int)]) (t := 5) (fr := (0, 0)) (heap_alloc_new W _)) (by simp [Value.oneCell']) (by omega) l5 (by omega) (by simp) (W.heap.size + 1) (by simp) ?_; intro gg cap w1 hown1 hgrow hat hlt; have y3 := (hgrow.cell_far ⟨d, 3, none⟩ (by simp; omega) (Ne.symm hfdd)).trans e3'; have yz := (hgrow.frozen_far ⟨d, 3, none⟩ (by simp; omega) (Ne.symm hfdd)).trans z3'))
      all_goals
        go_wp2_with fail
        have oG : Only (fun y => (Value.slice a5 (64 * recs.length + k) c5).ownBlock = some y) W w1 := ((Only.refl (fun y => (Value.slice a5 (64 * recs.length + k) c5).ownBlock = some y) W).alloc _).drew.grown hgrow (fun y hy _ => hy)
        have sG := oG.size
        have o3 := only1 (w := w1) (p := d) 3 (.slice (some ⟨gg, 0, none⟩) (64 * recs.length + (k + 1)) cap)
        have k1 := (t1.keep oG hfdd).setCell 3 (.slice (some ⟨gg, 0, none⟩) (64 * recs.length + (k + 1)) cap)
        have k2 := (t2.keep oG (fun e => ((unhide Hfd) _ e).2.1 rfl)).keep o3 (fun e => m2 e.symm)
        have k3 := (t3.keep oG (fun e => ((unhide Hfd) _ e).2.2.1 rfl)).keep o3 (fun e => m3 e.symm)
        have kg := (tg.keep oG hfdg).keep o3 (fun e => mg e.symm)
        have k4 := ownsRow_keep (ownsRow_keep (unhide Hg) oG (fun y hy e => by
          have a := hide (unhide Ht5)
          rcases (unhide Hg).2 with ⟨e1, _⟩ | ⟨g1, c1, u1, e1, _, e2, _⟩
          · rw [e1] at hy; simp [Value.ownBlock] at hy
          · rcases (unhide Ht5).2 with ⟨e3, _⟩ | ⟨g2, c2, u2, e3, _, e4, _⟩
            · rw [e3] at e; simp [Value.ownBlock] at e
            · rw [e1] at hy
              rw [e3] at e
              simp [Value.ownBlock] at hy e
              subst hy
              subst e
              rw [e2] at e4
              simp at e4)) o3 (fun y hy e => ownsRow_ne (unhide Hg) t1 (by decide) y hy e)
        have k5 := ownsRow_keep hown1 o3 (fun y hy e => by
          simp [Value.ownBlock] at hy
          subst hy
          rcases hat with h | h
          · exact hfdd (e ▸ h)
          · omega)
        have hlst : recDat recs ++ List.map (u8f x) (List.range k) ++ [Value.int IntKind.u8 (x k : Int)] = recDat recs ++ List.map (u8f x) (List.range (k + 1)) := by
          rw [List.range_succ, List.map_append, List.append_assoc]; rfl
        rw [hlst] at k5
        go_roundw
        case rel =>
          refine ⟨k + 1, .slice (some ⟨gg, 0, none⟩) (64 * recs.length + (k + 1)) cap, by omega, by go_num, by simpa using k1, k2, k3, kg, k4, k5, ?_, (to.trans oG (fun y hy e => ?_)).trans o3 (fun _ _ e => e ▸ f)⟩
          · intro y hy
            simp [Value.ownBlock] at hy
            subst hy
            have lb0 := t2.lt
            have lb1 := t3.lt
            have tos := to.size
            rcases hat with h | h
            · exact (unhide Hfd) _ h
            · exact ⟨.inr (by omega), by omega, by omega, by omega⟩
          · rcases ((unhide Hfd) _ e).1 with h | h
            · exact h
            · omega
        case measure => simp [intOf]; omega
    · obtain rfl : k = 64 := by omega
      have hI' := hI
      obtain ⟨q1, q2, q3, qg, q4, q5, qf, qo⟩ := hI
      have hsz := qo.size
      have na1 := ownsRow_ne q4 q1 (by decide)
      have na2 := ownsRow_ne q4 q2 (by decide)
      have na3 := ownsRow_ne q4 q3 (by decide)
      have c2 := q1.cell 2
      go_wp2_with (at_builtin; refine wpList_append2 _ rfl _ _ 91 rfl 3 j0 _ 1 8 Tryz.underlying91 hj0 hy0 hy1 hy2 rfl (by decide) _ _ _ rfl (q4.alloc _) ⟨wr.heap.size, 0, none⟩ 1 1 [.int .i64 (b : Int)] rfl rfl ?c1 ?c2 ?c3 ?c4 ?_)
      try (case c1 => exact news_ok _ _ _ _ rfl)
      case c2 => first | rfl | (intro u hu; simp at hu; subst hu; rfl)
      case c3 => first | omega | (unfold maxLen; omega)
      case c4 => omega
      intro v' w1 hown1 hgrow hwhere
      have oG : Only (fun y => av.ownBlock = some y) wr w1 := ((Only.refl (fun y => av.ownBlock = some y) wr).alloc _).grown hgrow (fun y hy _ => hy)
      have sG := oG.size
      obtain ⟨a', cap', hv'⟩ := ownsRow_shape hown1
      have k1' := q1.keep oG (fun e => na1 _ e rfl)
      have lv := ownsRow_lt hown1
      have nv := ownsRow_ne hown1 k1' (by decide)
      have y2 := k1'.cell 2
      have yz := k1'.free 2
      rw [hv']
      rw [hv'] at hown1 lv nv hwhere
      have o3 := only1 (w := w1) (p := d) 2 (.slice a' (recs.length + 1) cap')
      have k1 := k1'.setCell 2 (.slice a' (recs.length + 1) cap')
      have k2 := (q2.keep oG (fun e => na2 _ e rfl)).keep o3 (fun e => m2 e.symm)
      have k3 := (q3.keep oG (fun e => na3 _ e rfl)).keep o3 (fun e => m3 e.symm)
      have k4 := ownsRow_keep hown1 o3 (fun y hy e => nv y hy e)
      have k5 := ownsRow_keep (ownsRow_keep q5 oG (fun y hy e => by
          rcases q5.2 with ⟨e1, _⟩ | ⟨g1, c1, u1, e1, _, e2, _⟩
          · rw [e1] at hy; simp [Value.ownBlock] at hy
          · rcases q4.2 with ⟨e3, _⟩ | ⟨g2, c2, u2, e3, _, e4, _⟩
            · rw [e3] at e; simp [Value.ownBlock] at e
            · rw [e1] at hy
              rw [e3] at e
              simp [Value.ownBlock] at hy e
              subst hy
              subst e
              rw [e2] at e4
              simp at e4)) o3 (fun y hy e => ownsRow_ne q5 q1 (by decide) y hy e)
      have oall : Only F w (w1.setCell ⟨d, 2, none⟩ (.slice a' (recs.length + 1) cap')) := (qo.trans oG (fun y _ e => fa y e)).trans o3 (fun _ _ e => e ▸ f)
      have sall : (w1.setCell ⟨d, 2, none⟩ (.slice a' (recs.length + 1) cap')).heap.size = w1.heap.size := by simp
      have e1 : putK D b x 64 = putB D b x := rfl
      rw [e1] at k2
      have lq5 := ownsRow_lt q5
      clear e1
      go_wp2_with fail
      go_ret
      refine ⟨rfl, ⟨⟨b0, b1, .slice a' (recs.length + 1) cap', dv', by simpa using k1, k2, k3, ?_, ?_, n1, .inl f, .inl f0, .inl f1, ?_, ?_⟩, Ext.in hi oall.size⟩, oall⟩
      · have e2 : recAt (recs ++ [(b, x)]) = recAt recs ++ [.int .i64 (b : Int)] := by simp [recAt]
        rw [e2, List.length_append]
        exact k4
      · rw [recDat_snoc, List.length_append]
        have e3 : 64 * (recs.length + [(b, x)].length) = 64 * recs.length + 64 := by simp; omega
        rw [e3]
        exact k5
      · intro y hy
        have := lv y hy
        rcases hwhere y hy with h | h
        · exact .inl (fa y h)
        · exact .inr ⟨by omega, by rw [sall]; omega⟩
      · intro y hy
        have h5 := qf y hy
        have := lq5 y hy
        refine ⟨?_, h5.2.1, h5.2.2.1⟩
        rcases h5.1 with h | h
        · exact .inl h
        · exact .inr ⟨h, by rw [sall]; omega⟩
end Go.Proofs.Qxb6500417aGreat
