/-
  OWN WORK. THE B-TREE LAW: Lasting.
-/
import Derived.Test.Qxb6500410aGreatBBel
import Derived.Test.Qxb6500410aGreatBKb
import Derived.Deep.RegionHeld3
import Derived.Deep.DeepCutAuto
namespace Go.Proofs.Qxb6500410aGreat
open Go.RowKit Go.PlainAid
set_option linter.unusedSimpArgs false
set_option linter.unusedVariables false

/-- What a cut shows: the last state or the one before. -/
theorem CutI.vpick {base : List ByteArray} {recs : List (Nat × ByteArray)} {was com : List ByteArray} (h : CutI base recs was com) (lw : was.length = 80) (lc : com.length = 80) {C P : Vu} (hP : ComS was P) (hC : ComS com C) (kk : Int) :
    ∃ X V, X.length = 80 ∧ Shows (recov (replay base (recs.take kk.toNat))) X ∧ ComS X V ∧ (V = P ∨ V = C) ∧ (kk ≤ 0 → V = P) ∧ ((recs.length : Int) ≤ kk → V = C) := by
  obtain ⟨X, hX, hw, h0, h1⟩ := h.pick kk.toNat
  by_cases c : kk.toNat = 0
  · have := h0 c
    subst this
    refine ⟨X, P, lw, hX, hP, .inl rfl, fun _ => rfl, fun d => ?_⟩
    have hs := h.work kk.toNat (by omega)
    have := Shows.eq hX hs lw lc
    subst this
    exact hP.uniq hC
  · by_cases d : recs.length ≤ kk.toNat
    · have := h1 c d
      subst this
      exact ⟨X, C, lc, hX, hC, .inr rfl, fun e => absurd (by omega) c, fun _ => rfl⟩
    · rcases hw with rfl | rfl
      · exact ⟨X, P, lw, hX, hP, .inl rfl, fun _ => rfl, fun e => absurd (by omega) d⟩
      · exact ⟨X, C, lc, hX, hC, .inr rfl, fun e => absurd (by omega) c, fun _ => rfl⟩
/-- The walk's state. -/
structure KW (lo : Nat) (w : World) (kb : Nat) (q : Gnd) (op : Bool) (S C P : Vu) (n b v : Gho) (was : List ByteArray) : Prop where
  j : KJ lo w kb q op S C P n b v q.recs.length
  cu : CutI q.base q.recs was q.com
  cs : ComS was P
  lw : was.length = 80
/-- The keeper's block with the ghosts alone. -/
structure KL (lo : Nat) (w : World) (kb : Nat) (C P : Vu) (b v : Gho) (cs : Array Value) : Prop where
  kp : Has w kb cs 35
  gb : b.At w
  gv : v.At w
  rb : GR C b.T b.its
  rv : GR P v.T v.its
  db : ∀ k, b.F k → k ≠ kb ∧ lo ≤ k
  dv : ∀ k, v.F k → k ≠ kb ∧ lo ≤ k
  dk : lo ≤ kb
/-- The keeper's block with one ghost, over a forest. -/
structure KM (lo : Nat) (w : World) (kb : Nat) (q : Gnd) (ng vg : Nat) (op : Bool) (N : Int) (V : Vu) (b : Gho) : Prop where
  kp : Has w kb (keepC q.d q.p q.f ng b.g vg op N) 35
  gb : b.At w
  rb : GR V b.T b.its
  db : ∀ k, b.F k → ¬ q.A k ∧ k ≠ kb ∧ lo ≤ k
  dk : ¬ q.A kb ∧ lo ≤ kb
  dq : ∀ k, q.A k → lo ≤ k
  fv : FV q w false V
section
variable {lo : Nat} {w w' : World} {kb : Nat} {q : Gnd} {op : Bool} {S C P V : Vu} {n b v : Gho} {N : Int} {cs : Array Value} {was : List ByteArray} {ng vg : Nat}
theorem KL.keep {B : Nat → Prop} (h : KL lo w kb C P b v cs) (ho : Only B w w') (hk : ¬ B kb) (hb : ∀ k, b.F k → ¬ B k) (hv : ∀ k, v.F k → ¬ B k) : KL lo w' kb C P b v cs :=
  ⟨h.kp.keep ho hk, GhAt.keep h.gb ho hb, GhAt.keep h.gv ho hv, h.rb, h.rv, h.db, h.dv, h.dk⟩
theorem KL.quiet (h : KL lo w kb C P b v cs) (ho : Only (fun _ => False) w w') : KL lo w' kb C P b v cs := h.keep ho (fun h => h) (fun _ _ h => h) (fun _ _ h => h)
theorem KL.set (h : KL lo w kb C P b v cs) (i : Nat) (x : Value) : KL lo (w.setCell ⟨kb, i, none⟩ x) kb C P b v (cs.setIfInBounds i x) := by
  have ho : Only (fun k => k = kb) w (w.setCell ⟨kb, i, none⟩ x) := only1 _ _
  exact ⟨h.kp.setCell i x, GhAt.keep h.gb ho (fun k hk e => (h.db k hk).1 e), GhAt.keep h.gv ho (fun k hk e => (h.dv k hk).1 e), h.rb, h.rv, h.db, h.dv, h.dk⟩
theorem KL.low (h : KL lo w kb C P b v cs) : ∀ k, b.F k ∨ v.F k ∨ k = kb → k < w.heap.size := by
  rintro k (c | c | c)
  · exact GhAt.lt h.gb k c
  · exact GhAt.lt h.gv k c
  · rw [c]; exact h.kp.lt
theorem KM.c4 (h : KM lo w kb q ng vg op N V b) : w.cell? ⟨kb, 4, none⟩ = some (.pointer (some ⟨b.g, 0, none⟩)) := by rw [h.kp.cell]; rfl
theorem KM.quiet (h : KM lo w kb q ng vg op N V b) (ho : Only (fun _ => False) w w') : KM lo w' kb q ng vg op N V b := ⟨h.kp.keep ho (fun h => h), GhAt.quiet h.gb ho, h.rb, h.db, h.dk, h.dq, h.fv.quiet ho⟩
theorem KM.fvk (h : KM lo w kb q ng vg op N V b) (i : Nat) (x : Value) : FV q (w.setCell ⟨kb, i, none⟩ x) false V := by
  have ho : Only (fun k => k = kb) w (w.setCell ⟨kb, i, none⟩ x) := only1 _ _
  exact h.fv.keep ho (fun k hk e => h.dk.1 (by rw [← e]; exact .inl hk)) (fun k hk e => h.dk.1 (by rw [← e]; exact .inr (.inl hk))) (fun e => h.dk.1 (.inr (.inr (.inl e.symm)))) (fun e => h.dk.1 (.inr (.inr (.inr e.symm))))
theorem KM.prev (h : KM lo w kb q ng vg op N V b) : KM lo (w.setCell ⟨kb, 5, none⟩ (.pointer (some ⟨b.g, 0, none⟩))) kb q ng b.g op N V b := by
  have ho : Only (fun k => k = kb) w (w.setCell ⟨kb, 5, none⟩ (.pointer (some ⟨b.g, 0, none⟩))) := only1 _ _
  exact ⟨h.kp.setCell 5 _, GhAt.keep h.gb ho (fun k hk e => (h.db k hk).2.1 e), h.rb, h.db, h.dk, h.dq, h.fvk 5 _⟩
theorem KM.now (h : KM lo w kb q ng vg op N V b) (g : Nat) : KM lo (w.setCell ⟨kb, 3, none⟩ (.pointer (some ⟨g, 0, none⟩))) kb q g vg op N V b := by
  have ho : Only (fun k => k = kb) w (w.setCell ⟨kb, 3, none⟩ (.pointer (some ⟨g, 0, none⟩))) := only1 _ _
  exact ⟨h.kp.setCell 3 _, GhAt.keep h.gb ho (fun k hk e => (h.db k hk).2.1 e), h.rb, h.db, h.dk, h.dq, h.fvk 3 _⟩
theorem KM.shut (h : KM lo w kb q ng vg op N V b) : KM lo (w.setCell ⟨kb, 6, none⟩ (.bool false)) kb q ng vg false N V b := by
  have ho : Only (fun k => k = kb) w (w.setCell ⟨kb, 6, none⟩ (.bool false)) := only1 _ _
  exact ⟨h.kp.setCell 6 _, GhAt.keep h.gb ho (fun k hk e => (h.db k hk).2.1 e), h.rb, h.db, h.dk, h.dq, h.fvk 6 _⟩
/-- Out of both ghosts: the one that shows V is Base. -/
theorem KL.pickB (h : KL lo w kb C P b v (keepC q.d q.p q.f ng b.g v.g op N)) (A : FV q w false C) (hb : ∀ k, b.F k → ¬ q.A k) (hk : ¬ q.A kb) (dq : ∀ k, q.A k → lo ≤ k) : KM lo w kb q ng v.g op N C b :=
  ⟨h.kp, h.gb, h.rb, fun k c => ⟨hb k c, h.db k c⟩, ⟨hk, h.dk⟩, dq, A⟩
theorem KL.pickV (h : KL lo w kb C P b v (keepC q.d q.p q.f ng b.g v.g op N)) (A : FV q w false P) (hb : ∀ k, v.F k → ¬ q.A k) (hk : ¬ q.A kb) (dq : ∀ k, q.A k → lo ≤ k) : KM lo (w.setCell ⟨kb, 4, none⟩ (.pointer (some ⟨v.g, 0, none⟩))) kb q ng v.g op N P v := by
  have ho : Only (fun k => k = kb) w (w.setCell ⟨kb, 4, none⟩ (.pointer (some ⟨v.g, 0, none⟩))) := only1 _ _
  exact ⟨h.kp.setCell 4 _, GhAt.keep h.gv ho (fun k hk' e => (h.dv k hk').1 e), h.rv, fun k c => ⟨hb k c, h.dv k c⟩, ⟨hk, h.dk⟩, dq, A.keep ho (fun k hk' e => hk (by rw [← e]; exact .inl hk')) (fun k hk' e => hk (by rw [← e]; exact .inr (.inl hk'))) (fun e => hk (.inr (.inr (.inl e.symm)))) (fun e => hk (.inr (.inr (.inr e.symm))))⟩
/-- The end: all three ghosts show V. -/
theorem KM.done {n : Gho} (h : KM lo w kb q n.g b.g false N V b) (G : n.At w) (R : GR V n.T n.its) (hd : ∀ k, n.F k → ¬ q.A k ∧ k ≠ kb ∧ ¬ b.F k ∧ lo ≤ k) (cf : ComF q.com V) : KJ lo w kb q false V V V n b b N :=
  ⟨⟨h.kp, G, h.gb, h.gb, h.rb, h.rb, fun k hk => ⟨(hd k hk).1, (hd k hk).2.1, (hd k hk).2.2.1, (hd k hk).2.2.1, (hd k hk).2.2.2⟩, h.db, h.db, h.dk, h.dq⟩, h.fv, R, fun _ => rfl, cf⟩
def ShowV (q : Gnd) (w : World) (S S' : Vu) (z : Value) (w' : World) : Prop := ∃ b, z = .bool b ∧ (b = true ↔ S = S') ∧ FV q w' false S ∧ Only q.S w w'
/-- What Lasting leaves. -/
def LastP (lo : Nat) (w : World) (kb : Nat) (w' : World) : Prop := ∃ q op S C P n b v was, KW lo w' kb q op S C P n b v was ∧ Only (fun k => lo ≤ k) w w'
set_option maxRecDepth 100000 in
set_option maxHeartbeats 8000000 in
theorem lasting_any (K : KW lo w kb q op S C P n b v was) (kk : Int) : Calls Tryz.prog 15 #[.pointer (some ⟨kb, 0, none⟩), .int .i64 kk] w fun e w' => e = .returned (.bool true) ∧ LastP lo w kb w' := by
  obtain ⟨view, Fo, A0, I0, hvu⟩ := K.j.fv
  have lc := A0.pg.lcom
  obtain ⟨X, V, lX, hX, hXV, hV, hV0, hVN⟩ := K.cu.vpick K.lw lc K.cs K.j.cf.toS kk
  have C1 := hide (gafter_any q.p kk A0.pg.dk K.cu lX hX)
  have hlo := K.j.low
  have L0 : KL lo w kb C P b v (keepC q.d q.p q.f n.g b.g v.g op q.recs.length) := ⟨K.j.k.kp, K.j.k.gb, K.j.k.gv, K.j.k.rb, K.j.k.rv, fun k hk => (K.j.k.db k hk).2, fun k hk => (K.j.k.dv k hk).2, K.j.k.dk.2⟩
  have ll := L0.low
  have c0 := K.j.k.c0
  have c1 := K.j.k.c1
  have c7 := K.j.k.c7
  generalize hN : q.recs.length = N0 at *
  clear K A0 I0 hvu hX lc
  unfold gbV at C1
  go_enter Tryz.func15, Tryz.ntmps15
  go_wp2_with fail
  refine (unhide C1).mono ?_
  rintro e w1 ⟨p1, l1, d1, D0, F1, G1, rfl, P1, CU1, hF1, o1⟩
  have L1 := L0.quiet o1
  have z1 := o1.size
  have k0 := L1.kp.cell 0
  have k1 := L1.kp.cell 1
  have f0 := L1.kp.free 0
  have f1 := L1.kp.free 1
  have L2 := (L1.set 0 (.pointer (some ⟨d1, 0, none⟩))).set 1 (.pointer (some ⟨p1, 0, none⟩))
  have kbl := ll kb (.inr (.inr rfl))
  have oo2 : Only (fun k => k = kb) w1 ((w1.setCell ⟨kb, 0, none⟩ (.pointer (some ⟨d1, 0, none⟩))).setCell ⟨kb, 1, none⟩ (.pointer (some ⟨p1, 0, none⟩))) := (only1 _ _).trans (only1 _ _) (fun _ _ h => h)
  have P2 := P1.keep oo2 (fun k hk e => by have := hF1 k (.inl hk); omega) (fun k hk e => by have := hF1 k (.inr (.inl hk)); omega) (by have := hF1 p1 (.inr (.inr rfl)); omega)
  have hl2 := recRecs_length D0
  have C2 := hide (vopen_any P2 hXV (by omega))
  have O2 := hide ((o1.mono (T := fun k => lo ≤ k) (fun _ _ h => h.elim)).trans oo2 (fun k _ e => by rw [e]; exact L0.dk))
  have HL2 := hide L2
  clear c0 c1 c7 C1 L0 L1 L2 P1 P2 o1
  simp [keepC] at k0 k1
  go_upto_region 3 with fail
  generalize (w1.setCell ⟨kb, 0, none⟩ (.pointer (some ⟨d1, 0, none⟩))).setCell ⟨kb, 1, none⟩ (.pointer (some ⟨p1, 0, none⟩)) = w2 at *
  have e1 := (unhide HL2).kp.cell 1
  simp [keepC] at e1
  go_wp2_with fail
  refine (unhide C2).mono ?_
  rintro e w3 ⟨f, rs, com', F', rfl, hf, hF', A3, cf, CI, o3⟩
  have z2 := oo2.size
  have z3 := o3.size
  have hR : ∀ k, F1 k ∨ G1 k ∨ k = p1 → w.heap.size ≤ k := hF1
  have L3 := (unhide HL2).keep o3 (fun h => by have := hR kb h; omega) (fun k hk h => by have := hR k h; have := ll k (.inl hk); omega) (fun k hk h => by have := hR k h; have := ll k (.inr (.inl hk)); omega)
  have qA : ∀ k, Gnd.A ⟨f, p1, l1, d1, replay (recov D0) rs, D0, recRecs D0 ++ rs, com', F', G1⟩ k → w.heap.size ≤ k := by
    rintro k (h | h | h | h)
    · rcases hF' k h with c | c
      · exact hR k (.inl c)
      · omega
    · exact hR k (.inr (.inl h))
    · exact hR k (.inr (.inr h))
    · have : k = f := h
      omega
  have HCU := hide (CU1.join CI (by omega))
  have HCF := hide cf
  generalize hq' : (⟨f, p1, l1, d1, replay (recov D0) rs, D0, recRecs D0 ++ rs, com', F', G1⟩ : Gnd) = q' at *
  have ef : f = q'.f := by rw [← hq']
  have ed : d1 = q'.d := by rw [← hq']
  have ep : p1 = q'.p := by rw [← hq']
  have HER := hide (show recRecs D0 ++ rs = q'.recs ∧ D0 = q'.base ∧ com' = q'.com by rw [← hq']; exact ⟨rfl, rfl, rfl⟩)
  clear hq'
  subst ef
  subst ed
  subst ep
  have nkA : ¬ q'.A kb := fun h => by have := qA kb h; omega
  have nbA : ∀ k, b.F k → ¬ q'.A k := fun k hk h => by have := qA k h; have := ll k (.inl hk); omega
  have nvA : ∀ k, v.F k → ¬ q'.A k := fun k hk h => by have := qA k h; have := ll k (.inr (.inl hk)); omega
  have u2 := L3.kp.cell 2
  have g2 := L3.kp.free 2
  simp [keepC] at u2
  have L4 := hide (L3.set 2 (.pointer (some ⟨q'.f, 0, none⟩)))
  have oo4 : Only (fun k => k = kb) w3 (w3.setCell ⟨kb, 2, none⟩ (.pointer (some ⟨q'.f, 0, none⟩))) := only1 _ _
  have A4 := A3.keep oo4 (fun k hk e => nkA (by rw [← e]; exact .inl hk)) (fun k hk e => nkA (by rw [← e]; exact .inr (.inl hk))) (fun e => nkA (.inr (.inr (.inl e.symm)))) (fun e => nkA (.inr (.inr (.inr e.symm))))
  have O4 := hide (((unhide O2).trans o3 (fun k _ h => by have := hR k h; omega)).trans oo4 (fun k _ e => by rw [e]; exact L3.dk))
  have hlo' : ∀ k, q'.A k → lo ≤ k := fun k hk => by have := qA k hk; omega
  clear C2 HL2 e1 L3 A3 o3 oo2 O2 CI cf CU1 k0 k1 f0 f1
  go_upto_region 4 with fail
  generalize w3.setCell ⟨kb, 2, none⟩ (.pointer (some ⟨q'.f, 0, none⟩)) = w4 at *
  have v0 := (unhide L4).kp.cell 0
  have v1 := (unhide L4).kp.cell 1
  have v7 := (unhide L4).kp.cell 7
  have g7 := (unhide L4).kp.free 7
  simp [keepC] at v0 v1 v7
  obtain ⟨view4, Fo4, B4, I4, hvu4⟩ := A4
  have C3 := gsteps_any q'.p B4.pg.dk
  unfold gbV at C3
  have C3 := hide C3
  have A4 := hide (show FV q' w4 false V from ⟨view4, Fo4, B4, I4, hvu4⟩)
  clear B4 I4 hvu4 u2 g2
  go_wp2_with fail
  refine (unhide C3).mono ?_
  rintro e w5 ⟨rfl, o5⟩
  have L5 := (unhide L4).quiet o5
  have v7' := L5.kp.cell 7
  have g7' := L5.kp.free 7
  simp [keepC] at v7'
  have L6 := hide (L5.set 7 (.int .i64 (q'.recs.length : Int)))
  have oo6 : Only (fun k => k = kb) w5 (w5.setCell ⟨kb, 7, none⟩ (.int .i64 (q'.recs.length : Int))) := only1 _ _
  have A6 := hide (((unhide A4).quiet o5).keep oo6 (fun k hk e => nkA (by rw [← e]; exact .inl hk)) (fun k hk e => nkA (by rw [← e]; exact .inr (.inl hk))) (fun e => nkA (.inr (.inr (.inl e.symm)))) (fun e => nkA (.inr (.inr (.inr e.symm)))))
  have O6 := hide (((unhide O4).trans o5 (fun k _ h => h.elim)).trans oo6 (fun k _ e => by rw [e]; exact L5.dk))
  have z6 := (unhide O6).size
  clear C3 L4 L5 A4 O4 o5 oo6 oo4 v0 v1 v7 g7
  go_upto_region 5 with fail
  generalize w5.setCell ⟨kb, 7, none⟩ (.int .i64 (q'.recs.length : Int)) = w6 at *
  have L6 := hide (show KL lo w6 kb C P b v (keepC q'.d q'.p q'.f n.g b.g v.g op q'.recs.length) from by
    exact unhide L6)
  clear v7' g7'
  have x2 := (unhide L6).kp.cell 2
  have x5 := (unhide L6).kp.cell 5
  simp [keepC] at x2 x5
  have C4 := hide (shows_any ((unhide A6).quiet ((Only.refl (fun _ => False) w6).drew)) (GhAt.quiet (unhide L6).gv ((Only.refl (fun _ => False) w6).drew)) (unhide L6).rv (fun k hk h => nvA k hk (Gnd.S_A h)) false)
  have sepS : ∀ k, q'.S k → k ≠ kb ∧ ¬ b.F k ∧ ¬ v.F k := fun k hk => ⟨fun e => nkA (by rw [← e]; exact Gnd.S_A hk), fun h => nbA k h (Gnd.S_A hk), fun h => nvA k h (Gnd.S_A hk)⟩
  go_cut [6] (fun z wx => ShowV q' w6 V P z wx)
  case first =>
    go_region_held3 (fun w' => w'.cell? ⟨kb, 2, none⟩ = some (.pointer (some ⟨q'.f, 0, none⟩)) ∧ w'.cell? ⟨kb, 5, none⟩ = some (.pointer (some ⟨v.g, 0, none⟩))) (first | exact ⟨s2, s5⟩ | exact ⟨x2, x5⟩) (first | (go_at_call 14; refine (unhide C4).mono ?_; rintro e w7 ⟨bx, rfl, hbx, A7, o7⟩; have HH := hide (And.intro (show bx = true ↔ V = P from ⟨fun h => (hbx.mp h).2, fun h => hbx.mpr ⟨rfl, h⟩⟩) (And.intro A7 (((Only.refl q'.S w6).drew).trans o7 (fun _ _ h => h)))); have HL := hide ((unhide L6).keep (unhide HH).2.2 (fun h => (sepS _ h).1 rfl) (fun k hk h => (sepS _ h).2.1 hk) (fun k hk h => (sepS _ h).2.2 hk)); clear hbx A7 o7; have s2 := (unhide HL).kp.cell 2; have s5 := (unhide HL).kp.cell 5; simp [keepC] at s2 s5))
    all_goals
      go_wp2_with fail
      go_meet
      exact ⟨bx, rfl, unhide HH⟩
  case rest =>
  obtain ⟨bx, rfl, hbx, A7, o7⟩ := hcut
  generalize hwc : wc = w7 at *
  clear hwc
  have HBX := hide hbx
  have L7 := hide ((unhide L6).keep o7 (fun h => (sepS _ h).1 rfl) (fun k hk h => (sepS _ h).2.1 hk) (fun k hk h => (sepS _ h).2.2 hk))
  have O7 := hide ((unhide O6).trans o7 (fun k _ h => hlo' k (Gnd.S_A h)))
  have A7 := hide A7
  clear hbx L6 A6 x2 x5 C4 o7 O6
  have x2 := (unhide L7).kp.cell 2
  have x4 := (unhide L7).kp.cell 4
  simp [keepC] at x2 x4
  have C5 := hide (shows_any ((unhide A7).quiet ((Only.refl (fun _ => False) w7).drew)) (GhAt.quiet (unhide L7).gb ((Only.refl (fun _ => False) w7).drew)) (unhide L7).rb (fun k hk h => nbA k hk (Gnd.S_A h)) false)
  go_upto_region 6 with fail
  go_cut [7] (fun z wx => ShowV q' w7 V C z wx)
  case first =>
    go_region_held3 (fun w' => w'.cell? ⟨kb, 2, none⟩ = some (.pointer (some ⟨q'.f, 0, none⟩)) ∧ w'.cell? ⟨kb, 4, none⟩ = some (.pointer (some ⟨b.g, 0, none⟩))) (first | exact ⟨s2, s4⟩ | exact ⟨x2, x4⟩) (first | (go_at_call 14; refine (unhide C5).mono ?_; rintro e w8 ⟨bz, rfl, hbz, A8, o8⟩; have HH := hide (And.intro (show bz = true ↔ V = C from ⟨fun h => (hbz.mp h).2, fun h => hbz.mpr ⟨rfl, h⟩⟩) (And.intro A8 (((Only.refl q'.S w7).drew).trans o8 (fun _ _ h => h)))); have HL := hide ((unhide L7).keep (unhide HH).2.2 (fun h => (sepS _ h).1 rfl) (fun k hk h => (sepS _ h).2.1 hk) (fun k hk h => (sepS _ h).2.2 hk)); clear hbz A8 o8; have s2 := (unhide HL).kp.cell 2; have s4 := (unhide HL).kp.cell 4; simp [keepC] at s2 s4))
    all_goals
      go_wp2_with fail
      go_meet
      exact ⟨bz, rfl, unhide HH⟩
  case rest =>
  obtain ⟨bz, rfl, hbz, A8, o8⟩ := hcut
  generalize hwc : wc = w8 at *
  clear hwc
  have HBZ := hide hbz
  have L8 := hide ((unhide L7).keep o8 (fun h => (sepS _ h).1 rfl) (fun k hk h => (sepS _ h).2.1 hk) (fun k hk h => (sepS _ h).2.2 hk))
  have O8 := hide ((unhide O7).trans o8 (fun k _ h => hlo' k (Gnd.S_A h)))
  have A8 := hide A8
  clear hbz L7 A7 x2 x4 C5 o8 O7
  have HV := hide (And.intro hV (And.intro hV0 hVN))
  clear hV hV0 hVN
  -- what remains, with the ghost bb that shows V as Base
  have FIN : Hid (∀ (w9 : World) (bb : Gho), KM lo w9 kb q' n.g v.g op q'.recs.length V bb → Only (fun k => lo ≤ k) w w9 → ∀ w10 w11 g tb iv, w10 = w9.setCell ⟨kb, 5, none⟩ (.pointer (some ⟨bb.g, 0, none⟩)) → GhAt w11 g tb iv bb.T bb.its → (∀ k, GhF g tb iv k → w10.heap.size ≤ k) → Only (fun _ => False) w10 w11 → LastP lo w kb ((w11.setCell ⟨kb, 3, none⟩ (.pointer (some ⟨g, 0, none⟩))).setCell ⟨kb, 6, none⟩ (.bool false))) := hide (by
    intro w9 bb M9 O9 w10 w11 g tb iv hw10 G11 hg o11
    have M10 := M9.prev
    rw [← hw10] at M10
    have lt10 := M10.kp.lt
    have bl10 := GhAt.lt M10.gb
    have qa10 := M10.fv.Alt
    have M11 := M10.quiet o11
    have M13 := (M11.now g).shut
    have oo : Only (fun k => k = kb) w11 ((w11.setCell ⟨kb, 3, none⟩ (.pointer (some ⟨g, 0, none⟩))).setCell ⟨kb, 6, none⟩ (.bool false)) := (only1 _ _).trans (only1 _ _) (fun _ _ h => h)
    have o9 : Only (fun k => k = kb) w9 w10 := by rw [hw10]; exact only1 _ _
    have z9 := (O9.trans o9 (fun k _ e => by rw [e]; exact M9.dk.2)).size
    have J := KM.done (n := ⟨g, tb, iv, bb.T, bb.its⟩) M13 (GhAt.keep G11 oo (fun k hk e => by have := hg k hk; omega)) M13.rb (fun k hk => ⟨fun h => by have := hg k hk; have := qa10 k h; omega, by have := hg k hk; omega, fun h => by have := hg k hk; have := bl10 k h; omega, by have := hg k hk; omega⟩) (by rw [← (unhide HER).2.2]; exact unhide HCF)
    refine ⟨q', false, V, V, V, _, bb, bb, X, ⟨J, ?_, hXV, lX⟩, ((O9.trans o9 (fun k _ e => by rw [e]; exact M9.dk.2)).trans o11 (fun _ _ h => h.elim)).trans oo (fun k _ e => by rw [e]; exact M9.dk.2)⟩
    have := unhide HCU
    rw [(unhide HER).1, (unhide HER).2.1, (unhide HER).2.2] at this
    exact this)
  have PB : Hid (V = C → KM lo w8 kb q' n.g v.g op q'.recs.length V b) := hide (fun e => by
    have := (unhide L8).pickB (by rw [← e]; exact unhide A8) nbA nkA hlo'
    rw [e]
    exact this)
  have PV : Hid (V = P → KM lo (w8.setCell ⟨kb, 4, none⟩ (.pointer (some ⟨v.g, 0, none⟩))) kb q' n.g v.g op q'.recs.length V v) := hide (fun e => by
    have := (unhide L8).pickV (by rw [← e]; exact unhide A8) nvA nkA hlo'
    rw [e]
    exact this)
  cases bz with
  | true =>
    have hVC : V = C := (unhide HBZ).mp rfl
    cases bx with
    | true =>
      by_cases k0 : kk ≤ 0
      · have d0 : decide (kk ≤ 0) = true := decide_eq_true k0
        by_cases kN : (N0 : Int) ≤ kk
        · have dN : decide ((N0 : Int) ≤ kk) = true := decide_eq_true kN
          have M8 := unhide PB hVC
          clear hVC
          have x4 := M8.c4
          have x5 := M8.kp.cell 5
          have g5 := M8.kp.free 5
          simp [keepC] at x5
          have M10 := M8.prev
          have CC := hide (gcopy_any M10.gb)
          have HM := hide M8
          clear M8
          go_upto_region 16 with fail
          generalize h10 : w8.setCell ⟨kb, 5, none⟩ (.pointer (some ⟨b.g, 0, none⟩)) = w10 at *
          clear x4 x5 g5
          have y4 := M10.c4
          go_wp2_with fail
          refine (unhide CC).mono ?_
          rintro e w11 ⟨g, tb, iv, rfl, G11, hg, o11⟩
          have HP := hide (unhide FIN w8 b (unhide HM) (unhide O8) w10 w11 g tb iv h10.symm G11 hg o11)
          have M11 := (M10.quiet o11).kp
          have y3 := M11.cell 3
          have y6 := M11.cell 6
          have g3 := M11.free 3
          have g6 := M11.free 6
          simp [keepC] at y3 y6
          clear M10 M11 CC G11 hg o11 y4
          go_wp2_with fail
          go_ret
          exact ⟨by rfl, unhide HP⟩
        · have dN : decide ((N0 : Int) ≤ kk) = false := decide_eq_false kN
          have M8 := unhide PB hVC
          clear hVC
          have x4 := M8.c4
          have x5 := M8.kp.cell 5
          have g5 := M8.kp.free 5
          simp [keepC] at x5
          have M10 := M8.prev
          have CC := hide (gcopy_any M10.gb)
          have HM := hide M8
          clear M8
          go_upto_region 16 with fail
          generalize h10 : w8.setCell ⟨kb, 5, none⟩ (.pointer (some ⟨b.g, 0, none⟩)) = w10 at *
          clear x4 x5 g5
          have y4 := M10.c4
          go_wp2_with fail
          refine (unhide CC).mono ?_
          rintro e w11 ⟨g, tb, iv, rfl, G11, hg, o11⟩
          have HP := hide (unhide FIN w8 b (unhide HM) (unhide O8) w10 w11 g tb iv h10.symm G11 hg o11)
          have M11 := (M10.quiet o11).kp
          have y3 := M11.cell 3
          have y6 := M11.cell 6
          have g3 := M11.free 3
          have g6 := M11.free 6
          simp [keepC] at y3 y6
          clear M10 M11 CC G11 hg o11 y4
          go_wp2_with fail
          go_ret
          exact ⟨by rfl, unhide HP⟩
      · have d0 : decide (kk ≤ 0) = false := decide_eq_false k0
        by_cases kN : (N0 : Int) ≤ kk
        · have dN : decide ((N0 : Int) ≤ kk) = true := decide_eq_true kN
          have M8 := unhide PB hVC
          clear hVC
          have x4 := M8.c4
          have x5 := M8.kp.cell 5
          have g5 := M8.kp.free 5
          simp [keepC] at x5
          have M10 := M8.prev
          have CC := hide (gcopy_any M10.gb)
          have HM := hide M8
          clear M8
          go_upto_region 16 with fail
          generalize h10 : w8.setCell ⟨kb, 5, none⟩ (.pointer (some ⟨b.g, 0, none⟩)) = w10 at *
          clear x4 x5 g5
          have y4 := M10.c4
          go_wp2_with fail
          refine (unhide CC).mono ?_
          rintro e w11 ⟨g, tb, iv, rfl, G11, hg, o11⟩
          have HP := hide (unhide FIN w8 b (unhide HM) (unhide O8) w10 w11 g tb iv h10.symm G11 hg o11)
          have M11 := (M10.quiet o11).kp
          have y3 := M11.cell 3
          have y6 := M11.cell 6
          have g3 := M11.free 3
          have g6 := M11.free 6
          simp [keepC] at y3 y6
          clear M10 M11 CC G11 hg o11 y4
          go_wp2_with fail
          go_ret
          exact ⟨by rfl, unhide HP⟩
        · have dN : decide ((N0 : Int) ≤ kk) = false := decide_eq_false kN
          have M8 := unhide PB hVC
          clear hVC
          have x4 := M8.c4
          have x5 := M8.kp.cell 5
          have g5 := M8.kp.free 5
          simp [keepC] at x5
          have M10 := M8.prev
          have CC := hide (gcopy_any M10.gb)
          have HM := hide M8
          clear M8
          go_upto_region 16 with fail
          generalize h10 : w8.setCell ⟨kb, 5, none⟩ (.pointer (some ⟨b.g, 0, none⟩)) = w10 at *
          clear x4 x5 g5
          have y4 := M10.c4
          go_wp2_with fail
          refine (unhide CC).mono ?_
          rintro e w11 ⟨g, tb, iv, rfl, G11, hg, o11⟩
          have HP := hide (unhide FIN w8 b (unhide HM) (unhide O8) w10 w11 g tb iv h10.symm G11 hg o11)
          have M11 := (M10.quiet o11).kp
          have y3 := M11.cell 3
          have y6 := M11.cell 6
          have g3 := M11.free 3
          have g6 := M11.free 6
          simp [keepC] at y3 y6
          clear M10 M11 CC G11 hg o11 y4
          go_wp2_with fail
          go_ret
          exact ⟨by rfl, unhide HP⟩
    | false =>
      have k0 : ¬ kk ≤ 0 := fun h => by have := (unhide HBX).mpr ((unhide HV).2.1 h); cases this
      have d0 : decide (kk ≤ 0) = false := decide_eq_false k0
      by_cases kN : (N0 : Int) ≤ kk
      · have dN : decide ((N0 : Int) ≤ kk) = true := decide_eq_true kN
        have M8 := unhide PB hVC
        clear hVC
        have x4 := M8.c4
        have x5 := M8.kp.cell 5
        have g5 := M8.kp.free 5
        simp [keepC] at x5
        have M10 := M8.prev
        have CC := hide (gcopy_any M10.gb)
        have HM := hide M8
        clear M8
        go_upto_region 16 with fail
        generalize h10 : w8.setCell ⟨kb, 5, none⟩ (.pointer (some ⟨b.g, 0, none⟩)) = w10 at *
        clear x4 x5 g5
        have y4 := M10.c4
        go_wp2_with fail
        refine (unhide CC).mono ?_
        rintro e w11 ⟨g, tb, iv, rfl, G11, hg, o11⟩
        have HP := hide (unhide FIN w8 b (unhide HM) (unhide O8) w10 w11 g tb iv h10.symm G11 hg o11)
        have M11 := (M10.quiet o11).kp
        have y3 := M11.cell 3
        have y6 := M11.cell 6
        have g3 := M11.free 3
        have g6 := M11.free 6
        simp [keepC] at y3 y6
        clear M10 M11 CC G11 hg o11 y4
        go_wp2_with fail
        go_ret
        exact ⟨by rfl, unhide HP⟩
      · have dN : decide ((N0 : Int) ≤ kk) = false := decide_eq_false kN
        have M8 := unhide PB hVC
        clear hVC
        have x4 := M8.c4
        have x5 := M8.kp.cell 5
        have g5 := M8.kp.free 5
        simp [keepC] at x5
        have M10 := M8.prev
        have CC := hide (gcopy_any M10.gb)
        have HM := hide M8
        clear M8
        go_upto_region 16 with fail
        generalize h10 : w8.setCell ⟨kb, 5, none⟩ (.pointer (some ⟨b.g, 0, none⟩)) = w10 at *
        clear x4 x5 g5
        have y4 := M10.c4
        go_wp2_with fail
        refine (unhide CC).mono ?_
        rintro e w11 ⟨g, tb, iv, rfl, G11, hg, o11⟩
        have HP := hide (unhide FIN w8 b (unhide HM) (unhide O8) w10 w11 g tb iv h10.symm G11 hg o11)
        have M11 := (M10.quiet o11).kp
        have y3 := M11.cell 3
        have y6 := M11.cell 6
        have g3 := M11.free 3
        have g6 := M11.free 6
        simp [keepC] at y3 y6
        clear M10 M11 CC G11 hg o11 y4
        go_wp2_with fail
        go_ret
        exact ⟨by rfl, unhide HP⟩
  | false =>
    have hVP : V = P := by
      rcases (unhide HV).1 with h | h
      · exact h
      · have := (unhide HBZ).mpr h; cases this
    have hbx := (unhide HBX).mpr hVP
    subst hbx
    have kN : ¬ (N0 : Int) ≤ kk := fun h => by have := (unhide HBZ).mpr ((unhide HV).2.2 h); cases this
    have dN : decide ((N0 : Int) ≤ kk) = false := decide_eq_false kN
    by_cases k0 : kk ≤ 0
    · have d0 : decide (kk ≤ 0) = true := decide_eq_true k0
      have M9 := unhide PV hVP
      have x5 := (unhide L8).kp.cell 5
      have x4 := (unhide L8).kp.cell 4
      have g4 := (unhide L8).kp.free 4
      simp [keepC] at x4 x5
      have O9 := hide ((unhide O8).trans (only1 (w := w8) (p := kb) 4 (.pointer (some ⟨v.g, 0, none⟩))) (fun k _ e => by rw [e]; exact (unhide L8).dk))
      clear hVP
      go_upto_region 15 with fail
      clear PV
      generalize w8.setCell ⟨kb, 4, none⟩ (.pointer (some ⟨v.g, 0, none⟩)) = w9 at *
      clear x4 x5 g4
      have x4 := M9.c4
      have x5 := M9.kp.cell 5
      have g5 := M9.kp.free 5
      simp [keepC] at x5
      have M10 := M9.prev
      have CC := hide (gcopy_any M10.gb)
      have HM := hide M9
      clear M9
      go_upto_region 16 with fail
      generalize h10 : w9.setCell ⟨kb, 5, none⟩ (.pointer (some ⟨v.g, 0, none⟩)) = w10 at *
      clear x4 x5 g5
      have y4 := M10.c4
      go_wp2_with fail
      refine (unhide CC).mono ?_
      rintro e w11 ⟨g, tb, iv, rfl, G11, hg, o11⟩
      have HP := hide (unhide FIN w9 v (unhide HM) (unhide O9) w10 w11 g tb iv h10.symm G11 hg o11)
      have M11 := (M10.quiet o11).kp
      have y3 := M11.cell 3
      have y6 := M11.cell 6
      have g3 := M11.free 3
      have g6 := M11.free 6
      simp [keepC] at y3 y6
      clear M10 M11 CC G11 hg o11 y4
      go_wp2_with fail
      go_ret
      exact ⟨by rfl, unhide HP⟩
    · have d0 : decide (kk ≤ 0) = false := decide_eq_false k0
      have M9 := unhide PV hVP
      have x5 := (unhide L8).kp.cell 5
      have x4 := (unhide L8).kp.cell 4
      have g4 := (unhide L8).kp.free 4
      simp [keepC] at x4 x5
      have O9 := hide ((unhide O8).trans (only1 (w := w8) (p := kb) 4 (.pointer (some ⟨v.g, 0, none⟩))) (fun k _ e => by rw [e]; exact (unhide L8).dk))
      clear hVP
      go_upto_region 15 with fail
      clear PV
      generalize w8.setCell ⟨kb, 4, none⟩ (.pointer (some ⟨v.g, 0, none⟩)) = w9 at *
      clear x4 x5 g4
      have x4 := M9.c4
      have x5 := M9.kp.cell 5
      have g5 := M9.kp.free 5
      simp [keepC] at x5
      have M10 := M9.prev
      have CC := hide (gcopy_any M10.gb)
      have HM := hide M9
      clear M9
      go_upto_region 16 with fail
      generalize h10 : w9.setCell ⟨kb, 5, none⟩ (.pointer (some ⟨v.g, 0, none⟩)) = w10 at *
      clear x4 x5 g5
      have y4 := M10.c4
      go_wp2_with fail
      refine (unhide CC).mono ?_
      rintro e w11 ⟨g, tb, iv, rfl, G11, hg, o11⟩
      have HP := hide (unhide FIN w9 v (unhide HM) (unhide O9) w10 w11 g tb iv h10.symm G11 hg o11)
      have M11 := (M10.quiet o11).kp
      have y3 := M11.cell 3
      have y6 := M11.cell 6
      have g3 := M11.free 3
      have g6 := M11.free 6
      simp [keepC] at y3 y6
      clear M10 M11 CC G11 hg o11 y4
      go_wp2_with fail
      go_ret
      exact ⟨by rfl, unhide HP⟩
end
end Go.Proofs.Qxb6500410aGreat
