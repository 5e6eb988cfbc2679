/-
  OWN WORK. THE TXN LAW: the shadow: PlayShadow (written by tools/gen_xs1.py).
-/
import Derived.Test.Qxb6500414aGreatXL6
namespace Go.Proofs.Qxb6500414aGreat
open Go.RowKit Go.PlainAid
set_option linter.unusedSimpArgs false
set_option linter.unusedVariables false

/-- What an op does to the shadow, and answers. -/
def shP (D : Db) (kd bb cc : Int) (s t : ByteArray) : Db × An :=
  if kd = 4 then ((crtD D s (colsP t) bb).1, anE (crtD D s (colsP t) bb).2) else if kd = 5 then ((drpD D s).1, anE (drpD D s).2) else if kd = 6 then ((cixD D s bb).1, anE (cixD D s bb).2)
  else if kd = 7 then ((insD D s (rowP t)).1, anE (insD D s (rowP t)).2) else if kd = 8 then ((updD D s (rowP t)).1, anE (updD D s (rowP t)).2) else if kd = 9 then ((delD D s (fstP t)).1, anE (delD D s (fstP t)).2)
  else if kd = 10 then (D, { An.z with e := (lkpD D s (fstP t)).2, row := (lkpD D s (fstP t)).1 })
  else if kd = 11 then (D, { An.z with e := (scnD D s bb (bndOf (bits BinOp.and IntKind.i64 cc 1 != 0) (fstP t)) (bndOf (bits BinOp.and IntKind.i64 cc 2 != 0) (sndP t))).2, rows := (scnD D s bb (bndOf (bits BinOp.and IntKind.i64 cc 1 != 0) (fstP t)) (bndOf (bits BinOp.and IntKind.i64 cc 2 != 0) (sndP t))).1 })
  else (D, An.z)
/-- What PlayShadow leaves. -/
def PsP (ty : TypeId) (w : World) (dk o : Nat) (cs : Array Value) (v : Value) (l : List GE) (R : Db × An) (e : Ending) (w' : World) : Prop :=
  ∃ m v' l', e = .returned (.agg (anC m R.2)) ∧ AnAt w' m R.2 ∧ (∀ k, AnB m k → w.heap.size ≤ k) ∧ MDc ty w' dk o (cs.setIfInBounds o v') v' l' R.1 ∧ (∀ k, MLm v' l' k → MLm v l k ∨ w.heap.size ≤ k) ∧ (∀ k, MLi l' k → MLi l k ∨ w.heap.size ≤ k) ∧ (∀ k, AnB m k → ¬ MLm v' l' k) ∧ Only (fun k => k = dk ∨ MLm v l k) w w'
section
variable {ty : TypeId} {w w0 w1 w' wF : World} {dk o : Nat} {cs : Array Value} {v : Value} {l : List GE} {D : Db} {R : Db × An} {e : Ending} {kd bb cc : Int} {s t : ByteArray}
theorem MDc.lt (h : MDc ty w dk o cs v l D) : ∀ k, (k = dk ∨ MLm v l k ∨ MLi l k) → k < w.heap.size := by
  rintro k (rfl | h1 | h1)
  · exact h.has.lt
  · exact h.ml.lt k (.inl h1)
  · exact h.ml.lt k (.inr h1)
theorem PsP.only (h : PsP ty w dk o cs v l R e w') : Only (fun k => k = dk ∨ MLm v l k) w w' := by
  obtain ⟨_, _, _, _, _, _, _, _, _, _, h⟩ := h
  exact h
theorem MDc.keep {B : Nat → Prop} (h : MDc ty w dk o cs v l D) (ho : Only B w w') (hB : ∀ k, (k = dk ∨ MLm v l k ∨ MLi l k) → ¬ B k) : MDc ty w' dk o cs v l D :=
  ⟨h.sto, h.has.keep ho (hB dk (.inl rfl)), h.at_, h.ml.keep ho (fun k hk => hB k (.inr (.inl hk))) (fun k hk => hB k (.inr (.inr hk))), h.tt, h.ok⟩
theorem PsP.fin {B : Nat → Prop} (h : PsP ty w1 dk o cs v l R e w') (o0 : Only (fun _ => False) w w1) (ho : Only B w' wF) (hB : ∀ k, B k → w.heap.size ≤ k ∧ k < w1.heap.size) (hl : ∀ k, (k = dk ∨ MLm v l k ∨ MLi l k) → k < w.heap.size) : PsP ty w dk o cs v l R e wF := by
  obtain ⟨m, v', l', he, hA, hb, hD, hm, hi, hs, ho1⟩ := h
  have s0 := o0.size
  refine ⟨m, v', l', he, hA.keep ho (fun k h c => by have := hb k h; have := hB k c; omega), fun k h => by have := hb k h; omega, hD.keep ho (fun k h c => ?_), fun k h => (hm k h).imp id (fun c => by omega), fun k h => (hi k h).imp id (fun c => by omega), hs, Only.late ((o0.mono (fun _ _ e => e.elim)).trans ho1 (fun _ _ h => h)) ho (fun k h => (hB k h).1)⟩
  have hb' := hB k c
  rcases h with h | h | h
  · have := hl k (.inl h); omega
  · rcases hm k h with h | h
    · have := hl k (.inr (.inl h)); omega
    · omega
  · rcases hi k h with h | h
    · have := hl k (.inr (.inr h)); omega
    · omega
/-- A change: it answers a number. -/
theorem PsP.num {D' : Db} {z : Int} (h : MdP ty w dk o cs v l D' z e w') (hs : shP D kd bb cc s t = (D', anE z)) : ∃ z, e = .returned (.int .i64 z) ∧ PsP ty w dk o cs v l (shP D kd bb cc s t) (.returned (.agg (anC AnM.z (anE z)))) w' := by
  obtain ⟨v', l', he, hD, hm, hi, ho⟩ := h
  refine ⟨z, he, ?_⟩
  rw [hs]
  exact ⟨AnM.z, v', l', rfl, AnAt.zero _ _ _, fun k h => absurd h AnB.z, hD, hm, hi, fun k h => absurd h AnB.z, ho⟩
theorem PsP.row (M : MDc ty w dk o cs v l D) (h : FrV w (lkpD D s (fstP t)).1 (lkpD D s (fstP t)).2 e w') : ∃ ra rn rc z, e = .returned (.tuple #[.slice ra rn rc, .int .i64 z]) ∧ PsP ty w dk o cs v l (shP D 10 bb cc s t) (.returned (.agg #[.int .i64 z, .int .i64 0, .slice ra rn rc, .slice none 0 0, .string ⟨#[]⟩, .slice none 0 0, .int .i64 0, .int .i64 0, .slice none 0 0])) w' := by
  obtain ⟨rv, rfl, hO, hN, ho⟩ := h
  obtain ⟨ra, rc, rfl⟩ := hO.shape
  have hs : shP D 10 bb cc s t = (D, { An.z with e := (lkpD D s (fstP t)).2, row := (lkpD D s (fstP t)).1 }) := rfl
  refine ⟨ra, _, rc, _, rfl, ?_⟩
  rw [hs]
  have hl := xlkp_len (D := D) ⟨M.ok.tb, M.ok.srt, M.ok.len⟩ s (fstP t)
  refine ⟨⟨.slice ra _ rc, .slice none 0 0, [], .slice none 0 0, .slice none 0 0⟩, v, l, rfl, ⟨hO, World.ownsRow_nil _ _ _ _, (fun y h => by cases h), rfl, OwnC.nil _, World.ownsRow_nil _ _ _ _, ⟨hl, by simp [An.z], by simp [An.z], by simp [An.z], by simp [An.z]⟩⟩, fun k h => ?_, by rw [set_same M.at_]; exact M.quiet ho, fun k h => .inl h, fun k h => .inl h, fun k h c => ?_, ho.mono (fun _ _ h => h.elim)⟩
  · rcases h with h | h | ⟨y, hy, _⟩ | h | h
    · exact hN k h
    · cases h
    · cases hy
    · cases h
    · cases h
  · have hlt := M.lt k (.inr (.inl c))
    rcases h with h | h | ⟨y, hy, _⟩ | h | h
    · have h2 : w.heap.size ≤ k := hN k h
      omega
    · cases h
    · cases hy
    · cases h
    · cases h
theorem PsP.scn (M : MDc ty w dk o cs v l D) (h : FrR w (scnD D s bb (bndOf (bits BinOp.and IntKind.i64 cc 1 != 0) (fstP t)) (bndOf (bits BinOp.and IntKind.i64 cc 2 != 0) (sndP t))).1 (scnD D s bb (bndOf (bits BinOp.and IntKind.i64 cc 1 != 0) (fstP t)) (bndOf (bits BinOp.and IntKind.i64 cc 2 != 0) (sndP t))).2 e w') : ∃ (ra : Option Addr) (rn rc : Nat) (z : Int) (Z : List (Value × List Vl)), e = .returned (.tuple #[.slice ra rn rc, .int .i64 z]) ∧ PsP ty w dk o cs v l (shP D 11 bb cc s t) (.returned (.agg #[.int .i64 z, .int .i64 0, .slice none 0 0, .slice ra rn rc, .string ⟨#[]⟩, .slice none 0 0, .int .i64 0, .int .i64 0, .slice none 0 0])) w' := by
  obtain ⟨rv, Z, rfl, hz, hown, hr, hN, ho⟩ := h
  obtain ⟨ra, rc, rfl⟩ := ownsRow_shape hown
  have hs : shP D 11 bb cc s t = (D, { An.z with e := (scnD D s bb (bndOf (bits BinOp.and IntKind.i64 cc 1 != 0) (fstP t)) (bndOf (bits BinOp.and IntKind.i64 cc 2 != 0) (sndP t))).2, rows := (scnD D s bb (bndOf (bits BinOp.and IntKind.i64 cc 1 != 0) (fstP t)) (bndOf (bits BinOp.and IntKind.i64 cc 2 != 0) (sndP t))).1 }) := rfl
  refine ⟨ra, _, rc, _, Z, rfl, ?_⟩
  rw [hs]
  have hl := scn_bd (D := D) ⟨M.ok.tb, M.ok.srt, M.ok.len⟩ s bb (bndOf (bits BinOp.and IntKind.i64 cc 1 != 0) (fstP t)) (bndOf (bits BinOp.and IntKind.i64 cc 2 != 0) (sndP t))
  refine ⟨⟨.slice none 0 0, .slice ra _ rc, Z, .slice none 0 0, .slice none 0 0⟩, v, l, rfl, ⟨OwnV.nil _, hown, fun y hy => (hr y hy).1, hz, OwnC.nil _, World.ownsRow_nil _ _ _ _, ⟨by simp [An.z], Nat.le_trans hl.1 (by omega), hl.2, by simp [An.z], by simp [An.z]⟩⟩, fun k h => ?_, by rw [set_same M.at_]; exact M.quiet ho, fun k h => .inl h, fun k h => .inl h, fun k h c => ?_, ho.mono (fun _ _ h => h.elim)⟩
  · rcases h with h | h | ⟨y, hy, h⟩ | h | h
    · cases h
    · exact hN k h
    · exact (hr y hy).2 k h
    · cases h
    · cases h
  · have hlt := M.lt k (.inr (.inl c))
    rcases h with h | h | ⟨y, hy, h⟩ | h | h
    · cases h
    · have h2 : w.heap.size ≤ k := hN k h
      omega
    · have h2 : w.heap.size ≤ k := (hr y hy).2 k h
      omega
    · cases h
    · cases h
set_option maxRecDepth 100000 in
set_option maxHeartbeats 2000000 in
theorem sh5_any (D0 : MDc ty w dk o cs v l D) (a bb cc : Int) (s t : ByteArray) (hT : t.size ≤ maxLen) : Calls Tryz.prog 72 #[.pointer (some ⟨dk, o, none⟩), opX 5 a bb cc s t] w (PsP ty w dk o cs v l (shP D 5 bb cc s t)) := by
  have o1 : Only (fun _ => False) w ((w.alloc (.cells #[.int .i64 5, .int .i64 a, .int .i64 bb, .int .i64 cc, .string s, .string t] 44)).alloc (.cells #[.int .i64 0, .int .i64 0, .slice none 0 0, .slice none 0 0, .string ⟨#[]⟩, .slice none 0 0, .int .i64 0, .int .i64 0, .slice none 0 0] 54)) := ((Only.refl _ _).alloc _).alloc _
  have A1 : Has ((w.alloc (.cells #[.int .i64 5, .int .i64 a, .int .i64 bb, .int .i64 cc, .string s, .string t] 44)).alloc (.cells #[.int .i64 0, .int .i64 0, .slice none 0 0, .slice none 0 0, .string ⟨#[]⟩, .slice none 0 0, .int .i64 0, .int .i64 0, .slice none 0 0] 54)) w.heap.size #[.int .i64 5, .int .i64 a, .int .i64 bb, .int .i64 cc, .string s, .string t] 44 := (Has.new w _ _).alloc _
  have B1 : Has ((w.alloc (.cells #[.int .i64 5, .int .i64 a, .int .i64 bb, .int .i64 cc, .string s, .string t] 44)).alloc (.cells #[.int .i64 0, .int .i64 0, .slice none 0 0, .slice none 0 0, .string ⟨#[]⟩, .slice none 0 0, .int .i64 0, .int .i64 0, .slice none 0 0] 54)) (w.heap.size + 1) #[.int .i64 0, .int .i64 0, .slice none 0 0, .slice none 0 0, .string ⟨#[]⟩, .slice none 0 0, .int .i64 0, .int .i64 0, .slice none 0 0] 54 := Has.new' _ _ _ _ (by simp)
  have HD := hide (D0.quiet o1)
  have HDl := hide (show ∀ k, (k = dk ∨ MLm v l k ∨ MLi l k) → k < w.heap.size from fun k h => D0.lt k h)
  have HA := hide A1
  have HB := hide B1
  have HO := hide o1
  have HT := hide hT
  clear D0 o1 A1 B1 hT
  unfold opX
  go_enter Tryz.func72, Tryz.ntmps72
  go_upto_region 1 with fail
  generalize ((w.alloc (.cells #[.int .i64 5, .int .i64 a, .int .i64 bb, .int .i64 cc, .string s, .string t] 44)).alloc (.cells #[.int .i64 0, .int .i64 0, .slice none 0 0, .slice none 0 0, .string ⟨#[]⟩, .slice none 0 0, .int .i64 0, .int .i64 0, .slice none 0 0] 54)) = w1 at *
  have ka1 := (unhide HA).lt
  have kb1 := (unhide HB).lt
  generalize hka : w.heap.size = ka at *
  have Hka := hide hka
  clear hka
  have a0 : w1.cell? ⟨ka, 0, none⟩ = some (.int .i64 5) := (unhide HA).cell 0
  have a4 : w1.cell? ⟨ka, 4, none⟩ = some (.string s) := (unhide HA).cell 4
  have HBx := HB
  have C1 := hide ((mdbDrop_any (unhide HD) s).mono (fun e w' h => PsP.num (kd := 5) (bb := bb) (cc := cc) (s := s) (t := t) h rfl))
  go_wp2_with fail
  refine (unhide C1).mono ?_
  rintro e w2 ⟨z, rfl, hp⟩
  have NZ := (unhide HBx).keep hp.only (fun c => by have c' : ka + 1 = dk ∨ MLm v l (ka + 1) := c; have := unhide HDl (ka + 1) (c'.elim .inl (fun h => .inr (.inl h))); omega)
  have HNZ := hide NZ
  have kz := NZ.lt
  have n0 : w2.cell? ⟨ka + 1, 0, none⟩ = some (.int .i64 0) := NZ.cell 0
  have f0 : w2.frozen? ⟨ka + 1, 0, none⟩ = false := NZ.free 0
  have n1 : w2.cell? ⟨ka + 1, 1, none⟩ = some (.int .i64 0) := NZ.cell 1
  have f1 : w2.frozen? ⟨ka + 1, 1, none⟩ = false := NZ.free 1
  have n2 : w2.cell? ⟨ka + 1, 2, none⟩ = some (.slice none 0 0) := NZ.cell 2
  have f2 : w2.frozen? ⟨ka + 1, 2, none⟩ = false := NZ.free 2
  have n3 : w2.cell? ⟨ka + 1, 3, none⟩ = some (.slice none 0 0) := NZ.cell 3
  have f3 : w2.frozen? ⟨ka + 1, 3, none⟩ = false := NZ.free 3
  have n4 : w2.cell? ⟨ka + 1, 4, none⟩ = some (.string ⟨#[]⟩) := NZ.cell 4
  have f4 : w2.frozen? ⟨ka + 1, 4, none⟩ = false := NZ.free 4
  have n5 : w2.cell? ⟨ka + 1, 5, none⟩ = some (.slice none 0 0) := NZ.cell 5
  have f5 : w2.frozen? ⟨ka + 1, 5, none⟩ = false := NZ.free 5
  have n6 : w2.cell? ⟨ka + 1, 6, none⟩ = some (.int .i64 0) := NZ.cell 6
  have f6 : w2.frozen? ⟨ka + 1, 6, none⟩ = false := NZ.free 6
  have n7 : w2.cell? ⟨ka + 1, 7, none⟩ = some (.int .i64 0) := NZ.cell 7
  have f7 : w2.frozen? ⟨ka + 1, 7, none⟩ = false := NZ.free 7
  have n8 : w2.cell? ⟨ka + 1, 8, none⟩ = some (.slice none 0 0) := NZ.cell 8
  have f8 : w2.frozen? ⟨ka + 1, 8, none⟩ = false := NZ.free 8
  have HP := hide hp
  have FF := hide (fun v0 v1 v2 v3 v4 v5 v6 v7 v8 => (unhide HP).fin (B := fun b => b = ka + 1) (unhide HO) (only9 _ _ _ _ _ _ _ _ _ _ _ : Only _ _ ((((((((((w2.setCell ⟨ka + 1, 0, none⟩ v0).setCell ⟨ka + 1, 1, none⟩ v1).setCell ⟨ka + 1, 2, none⟩ v2).setCell ⟨ka + 1, 3, none⟩ v3).setCell ⟨ka + 1, 4, none⟩ v4).setCell ⟨ka + 1, 5, none⟩ v5).setCell ⟨ka + 1, 6, none⟩ v6).setCell ⟨ka + 1, 7, none⟩ v7).setCell ⟨ka + 1, 8, none⟩ v8))) (fun k h => by have h' : k = ka + 1 := h; have := unhide Hka; omega) (fun k h => by have := unhide HDl k h; have := unhide Hka; omega))
  have HG := hide (fun v0 v1 v2 v3 v4 v5 v6 v7 v8 => set9 (unhide HNZ) v0 v1 v2 v3 v4 v5 v6 v7 v8)
  clear C1 a0 a4 hp NZ
  go_wp2_with fail
  exact bodyPost_ret (res1_an Tryz.results72 _ rfl (unhide HG _ _ _ _ _ _ _ _ _) rfl) rfl (unhide FF _ _ _ _ _ _ _ _ _)
set_option maxRecDepth 100000 in
set_option maxHeartbeats 2000000 in
theorem sh6_any (D0 : MDc ty w dk o cs v l D) (a bb cc : Int) (s t : ByteArray) (hT : t.size ≤ maxLen) : Calls Tryz.prog 72 #[.pointer (some ⟨dk, o, none⟩), opX 6 a bb cc s t] w (PsP ty w dk o cs v l (shP D 6 bb cc s t)) := by
  have o1 : Only (fun _ => False) w ((w.alloc (.cells #[.int .i64 6, .int .i64 a, .int .i64 bb, .int .i64 cc, .string s, .string t] 44)).alloc (.cells #[.int .i64 0, .int .i64 0, .slice none 0 0, .slice none 0 0, .string ⟨#[]⟩, .slice none 0 0, .int .i64 0, .int .i64 0, .slice none 0 0] 54)) := ((Only.refl _ _).alloc _).alloc _
  have A1 : Has ((w.alloc (.cells #[.int .i64 6, .int .i64 a, .int .i64 bb, .int .i64 cc, .string s, .string t] 44)).alloc (.cells #[.int .i64 0, .int .i64 0, .slice none 0 0, .slice none 0 0, .string ⟨#[]⟩, .slice none 0 0, .int .i64 0, .int .i64 0, .slice none 0 0] 54)) w.heap.size #[.int .i64 6, .int .i64 a, .int .i64 bb, .int .i64 cc, .string s, .string t] 44 := (Has.new w _ _).alloc _
  have B1 : Has ((w.alloc (.cells #[.int .i64 6, .int .i64 a, .int .i64 bb, .int .i64 cc, .string s, .string t] 44)).alloc (.cells #[.int .i64 0, .int .i64 0, .slice none 0 0, .slice none 0 0, .string ⟨#[]⟩, .slice none 0 0, .int .i64 0, .int .i64 0, .slice none 0 0] 54)) (w.heap.size + 1) #[.int .i64 0, .int .i64 0, .slice none 0 0, .slice none 0 0, .string ⟨#[]⟩, .slice none 0 0, .int .i64 0, .int .i64 0, .slice none 0 0] 54 := Has.new' _ _ _ _ (by simp)
  have HD := hide (D0.quiet o1)
  have HDl := hide (show ∀ k, (k = dk ∨ MLm v l k ∨ MLi l k) → k < w.heap.size from fun k h => D0.lt k h)
  have HA := hide A1
  have HB := hide B1
  have HO := hide o1
  have HT := hide hT
  clear D0 o1 A1 B1 hT
  unfold opX
  go_enter Tryz.func72, Tryz.ntmps72
  go_upto_region 1 with fail
  generalize ((w.alloc (.cells #[.int .i64 6, .int .i64 a, .int .i64 bb, .int .i64 cc, .string s, .string t] 44)).alloc (.cells #[.int .i64 0, .int .i64 0, .slice none 0 0, .slice none 0 0, .string ⟨#[]⟩, .slice none 0 0, .int .i64 0, .int .i64 0, .slice none 0 0] 54)) = w1 at *
  have ka1 := (unhide HA).lt
  have kb1 := (unhide HB).lt
  generalize hka : w.heap.size = ka at *
  have Hka := hide hka
  clear hka
  have a0 : w1.cell? ⟨ka, 0, none⟩ = some (.int .i64 6) := (unhide HA).cell 0
  have a2 : w1.cell? ⟨ka, 2, none⟩ = some (.int .i64 bb) := (unhide HA).cell 2
  have a4 : w1.cell? ⟨ka, 4, none⟩ = some (.string s) := (unhide HA).cell 4
  have HBx := HB
  have C1 := hide ((mdbIndex_any (unhide HD) s bb).mono (fun e w' h => PsP.num (kd := 6) (bb := bb) (cc := cc) (s := s) (t := t) h rfl))
  go_wp2_with fail
  refine (unhide C1).mono ?_
  rintro e w2 ⟨z, rfl, hp⟩
  have NZ := (unhide HBx).keep hp.only (fun c => by have c' : ka + 1 = dk ∨ MLm v l (ka + 1) := c; have := unhide HDl (ka + 1) (c'.elim .inl (fun h => .inr (.inl h))); omega)
  have HNZ := hide NZ
  have kz := NZ.lt
  have n0 : w2.cell? ⟨ka + 1, 0, none⟩ = some (.int .i64 0) := NZ.cell 0
  have f0 : w2.frozen? ⟨ka + 1, 0, none⟩ = false := NZ.free 0
  have n1 : w2.cell? ⟨ka + 1, 1, none⟩ = some (.int .i64 0) := NZ.cell 1
  have f1 : w2.frozen? ⟨ka + 1, 1, none⟩ = false := NZ.free 1
  have n2 : w2.cell? ⟨ka + 1, 2, none⟩ = some (.slice none 0 0) := NZ.cell 2
  have f2 : w2.frozen? ⟨ka + 1, 2, none⟩ = false := NZ.free 2
  have n3 : w2.cell? ⟨ka + 1, 3, none⟩ = some (.slice none 0 0) := NZ.cell 3
  have f3 : w2.frozen? ⟨ka + 1, 3, none⟩ = false := NZ.free 3
  have n4 : w2.cell? ⟨ka + 1, 4, none⟩ = some (.string ⟨#[]⟩) := NZ.cell 4
  have f4 : w2.frozen? ⟨ka + 1, 4, none⟩ = false := NZ.free 4
  have n5 : w2.cell? ⟨ka + 1, 5, none⟩ = some (.slice none 0 0) := NZ.cell 5
  have f5 : w2.frozen? ⟨ka + 1, 5, none⟩ = false := NZ.free 5
  have n6 : w2.cell? ⟨ka + 1, 6, none⟩ = some (.int .i64 0) := NZ.cell 6
  have f6 : w2.frozen? ⟨ka + 1, 6, none⟩ = false := NZ.free 6
  have n7 : w2.cell? ⟨ka + 1, 7, none⟩ = some (.int .i64 0) := NZ.cell 7
  have f7 : w2.frozen? ⟨ka + 1, 7, none⟩ = false := NZ.free 7
  have n8 : w2.cell? ⟨ka + 1, 8, none⟩ = some (.slice none 0 0) := NZ.cell 8
  have f8 : w2.frozen? ⟨ka + 1, 8, none⟩ = false := NZ.free 8
  have HP := hide hp
  have FF := hide (fun v0 v1 v2 v3 v4 v5 v6 v7 v8 => (unhide HP).fin (B := fun b => b = ka + 1) (unhide HO) (only9 _ _ _ _ _ _ _ _ _ _ _ : Only _ _ ((((((((((w2.setCell ⟨ka + 1, 0, none⟩ v0).setCell ⟨ka + 1, 1, none⟩ v1).setCell ⟨ka + 1, 2, none⟩ v2).setCell ⟨ka + 1, 3, none⟩ v3).setCell ⟨ka + 1, 4, none⟩ v4).setCell ⟨ka + 1, 5, none⟩ v5).setCell ⟨ka + 1, 6, none⟩ v6).setCell ⟨ka + 1, 7, none⟩ v7).setCell ⟨ka + 1, 8, none⟩ v8))) (fun k h => by have h' : k = ka + 1 := h; have := unhide Hka; omega) (fun k h => by have := unhide HDl k h; have := unhide Hka; omega))
  have HG := hide (fun v0 v1 v2 v3 v4 v5 v6 v7 v8 => set9 (unhide HNZ) v0 v1 v2 v3 v4 v5 v6 v7 v8)
  clear C1 a0 a2 a4 hp NZ
  go_wp2_with fail
  exact bodyPost_ret (res1_an Tryz.results72 _ rfl (unhide HG _ _ _ _ _ _ _ _ _) rfl) rfl (unhide FF _ _ _ _ _ _ _ _ _)
set_option maxRecDepth 100000 in
set_option maxHeartbeats 2000000 in
theorem sh4_any (D0 : MDc ty w dk o cs v l D) (a bb cc : Int) (s t : ByteArray) (hT : t.size ≤ maxLen) : Calls Tryz.prog 72 #[.pointer (some ⟨dk, o, none⟩), opX 4 a bb cc s t] w (PsP ty w dk o cs v l (shP D 4 bb cc s t)) := by
  have o1 : Only (fun _ => False) w ((w.alloc (.cells #[.int .i64 4, .int .i64 a, .int .i64 bb, .int .i64 cc, .string s, .string t] 44)).alloc (.cells #[.int .i64 0, .int .i64 0, .slice none 0 0, .slice none 0 0, .string ⟨#[]⟩, .slice none 0 0, .int .i64 0, .int .i64 0, .slice none 0 0] 54)) := ((Only.refl _ _).alloc _).alloc _
  have A1 : Has ((w.alloc (.cells #[.int .i64 4, .int .i64 a, .int .i64 bb, .int .i64 cc, .string s, .string t] 44)).alloc (.cells #[.int .i64 0, .int .i64 0, .slice none 0 0, .slice none 0 0, .string ⟨#[]⟩, .slice none 0 0, .int .i64 0, .int .i64 0, .slice none 0 0] 54)) w.heap.size #[.int .i64 4, .int .i64 a, .int .i64 bb, .int .i64 cc, .string s, .string t] 44 := (Has.new w _ _).alloc _
  have B1 : Has ((w.alloc (.cells #[.int .i64 4, .int .i64 a, .int .i64 bb, .int .i64 cc, .string s, .string t] 44)).alloc (.cells #[.int .i64 0, .int .i64 0, .slice none 0 0, .slice none 0 0, .string ⟨#[]⟩, .slice none 0 0, .int .i64 0, .int .i64 0, .slice none 0 0] 54)) (w.heap.size + 1) #[.int .i64 0, .int .i64 0, .slice none 0 0, .slice none 0 0, .string ⟨#[]⟩, .slice none 0 0, .int .i64 0, .int .i64 0, .slice none 0 0] 54 := Has.new' _ _ _ _ (by simp)
  have HD := hide (D0.quiet o1)
  have HDl := hide (show ∀ k, (k = dk ∨ MLm v l k ∨ MLi l k) → k < w.heap.size from fun k h => D0.lt k h)
  have HA := hide A1
  have HB := hide B1
  have HO := hide o1
  have HT := hide hT
  clear D0 o1 A1 B1 hT
  unfold opX
  go_enter Tryz.func72, Tryz.ntmps72
  go_upto_region 1 with fail
  generalize ((w.alloc (.cells #[.int .i64 4, .int .i64 a, .int .i64 bb, .int .i64 cc, .string s, .string t] 44)).alloc (.cells #[.int .i64 0, .int .i64 0, .slice none 0 0, .slice none 0 0, .string ⟨#[]⟩, .slice none 0 0, .int .i64 0, .int .i64 0, .slice none 0 0] 54)) = w1 at *
  have ka1 := (unhide HA).lt
  have kb1 := (unhide HB).lt
  generalize hka : w.heap.size = ka at *
  have Hka := hide hka
  clear hka
  have a0 : w1.cell? ⟨ka, 0, none⟩ = some (.int .i64 4) := (unhide HA).cell 0
  have a5 : w1.cell? ⟨ka, 5, none⟩ = some (.string t) := (unhide HA).cell 5
  have C1 := hide (eColsOf_any t (unhide HT) w1)
  go_wp2_with fail
  refine (unhide C1).mono ?_
  rintro e w2 ⟨u, rfl, hG⟩
  have O2 : OwnC w2 u (colsP t) := hG.own
  obtain ⟨va, vc, hv⟩ := O2.shape
  have o2 := hG.ho
  have s2 := o2.size
  have HD2 := hide ((unhide HD).quiet o2)
  have HA2 := hide ((unhide HA).keep o2 (fun h => h))
  have HBx := hide ((unhide HB).keep o2 (fun h => h))
  have HO2 := hide ((unhide HO).trans o2 (fun _ _ h => h))
  have C2 := (mdbCreate_any (unhide HD2) s O2 bb).mono (fun e w' h => PsP.num (kd := 4) (bb := bb) (cc := cc) (s := s) (t := t) h rfl)
  subst hv
  have C2 := hide C2
  clear C1 hG O2 o2 a0 a5
  have a2 : w2.cell? ⟨ka, 2, none⟩ = some (.int .i64 bb) := (unhide HA2).cell 2
  have a4 : w2.cell? ⟨ka, 4, none⟩ = some (.string s) := (unhide HA2).cell 4
  have ka2 := (unhide HA2).lt
  go_wp2_with fail
  refine (unhide C2).mono ?_
  rintro e w3 ⟨z, rfl, hp⟩
  have NZ := (unhide HBx).keep hp.only (fun c => by have c' : ka + 1 = dk ∨ MLm v l (ka + 1) := c; have := unhide HDl (ka + 1) (c'.elim .inl (fun h => .inr (.inl h))); omega)
  have HNZ := hide NZ
  have kz := NZ.lt
  have n0 : w3.cell? ⟨ka + 1, 0, none⟩ = some (.int .i64 0) := NZ.cell 0
  have f0 : w3.frozen? ⟨ka + 1, 0, none⟩ = false := NZ.free 0
  have n1 : w3.cell? ⟨ka + 1, 1, none⟩ = some (.int .i64 0) := NZ.cell 1
  have f1 : w3.frozen? ⟨ka + 1, 1, none⟩ = false := NZ.free 1
  have n2 : w3.cell? ⟨ka + 1, 2, none⟩ = some (.slice none 0 0) := NZ.cell 2
  have f2 : w3.frozen? ⟨ka + 1, 2, none⟩ = false := NZ.free 2
  have n3 : w3.cell? ⟨ka + 1, 3, none⟩ = some (.slice none 0 0) := NZ.cell 3
  have f3 : w3.frozen? ⟨ka + 1, 3, none⟩ = false := NZ.free 3
  have n4 : w3.cell? ⟨ka + 1, 4, none⟩ = some (.string ⟨#[]⟩) := NZ.cell 4
  have f4 : w3.frozen? ⟨ka + 1, 4, none⟩ = false := NZ.free 4
  have n5 : w3.cell? ⟨ka + 1, 5, none⟩ = some (.slice none 0 0) := NZ.cell 5
  have f5 : w3.frozen? ⟨ka + 1, 5, none⟩ = false := NZ.free 5
  have n6 : w3.cell? ⟨ka + 1, 6, none⟩ = some (.int .i64 0) := NZ.cell 6
  have f6 : w3.frozen? ⟨ka + 1, 6, none⟩ = false := NZ.free 6
  have n7 : w3.cell? ⟨ka + 1, 7, none⟩ = some (.int .i64 0) := NZ.cell 7
  have f7 : w3.frozen? ⟨ka + 1, 7, none⟩ = false := NZ.free 7
  have n8 : w3.cell? ⟨ka + 1, 8, none⟩ = some (.slice none 0 0) := NZ.cell 8
  have f8 : w3.frozen? ⟨ka + 1, 8, none⟩ = false := NZ.free 8
  have HP := hide hp
  have FF := hide (fun v0 v1 v2 v3 v4 v5 v6 v7 v8 => (unhide HP).fin (B := fun b => b = ka + 1) (unhide HO2) (only9 _ _ _ _ _ _ _ _ _ _ _ : Only _ _ ((((((((((w3.setCell ⟨ka + 1, 0, none⟩ v0).setCell ⟨ka + 1, 1, none⟩ v1).setCell ⟨ka + 1, 2, none⟩ v2).setCell ⟨ka + 1, 3, none⟩ v3).setCell ⟨ka + 1, 4, none⟩ v4).setCell ⟨ka + 1, 5, none⟩ v5).setCell ⟨ka + 1, 6, none⟩ v6).setCell ⟨ka + 1, 7, none⟩ v7).setCell ⟨ka + 1, 8, none⟩ v8))) (fun k h => by have h' : k = ka + 1 := h; have := unhide Hka; omega) (fun k h => by have := unhide HDl k h; have := unhide Hka; omega))
  have HG := hide (fun v0 v1 v2 v3 v4 v5 v6 v7 v8 => set9 (unhide HNZ) v0 v1 v2 v3 v4 v5 v6 v7 v8)
  clear C2 a2 a4 hp NZ
  go_wp2_with fail
  exact bodyPost_ret (res1_an Tryz.results72 _ rfl (unhide HG _ _ _ _ _ _ _ _ _) rfl) rfl (unhide FF _ _ _ _ _ _ _ _ _)
set_option maxRecDepth 100000 in
set_option maxHeartbeats 2000000 in
theorem sh7_any (D0 : MDc ty w dk o cs v l D) (a bb cc : Int) (s t : ByteArray) (hT : t.size ≤ maxLen) : Calls Tryz.prog 72 #[.pointer (some ⟨dk, o, none⟩), opX 7 a bb cc s t] w (PsP ty w dk o cs v l (shP D 7 bb cc s t)) := by
  have o1 : Only (fun _ => False) w ((w.alloc (.cells #[.int .i64 7, .int .i64 a, .int .i64 bb, .int .i64 cc, .string s, .string t] 44)).alloc (.cells #[.int .i64 0, .int .i64 0, .slice none 0 0, .slice none 0 0, .string ⟨#[]⟩, .slice none 0 0, .int .i64 0, .int .i64 0, .slice none 0 0] 54)) := ((Only.refl _ _).alloc _).alloc _
  have A1 : Has ((w.alloc (.cells #[.int .i64 7, .int .i64 a, .int .i64 bb, .int .i64 cc, .string s, .string t] 44)).alloc (.cells #[.int .i64 0, .int .i64 0, .slice none 0 0, .slice none 0 0, .string ⟨#[]⟩, .slice none 0 0, .int .i64 0, .int .i64 0, .slice none 0 0] 54)) w.heap.size #[.int .i64 7, .int .i64 a, .int .i64 bb, .int .i64 cc, .string s, .string t] 44 := (Has.new w _ _).alloc _
  have B1 : Has ((w.alloc (.cells #[.int .i64 7, .int .i64 a, .int .i64 bb, .int .i64 cc, .string s, .string t] 44)).alloc (.cells #[.int .i64 0, .int .i64 0, .slice none 0 0, .slice none 0 0, .string ⟨#[]⟩, .slice none 0 0, .int .i64 0, .int .i64 0, .slice none 0 0] 54)) (w.heap.size + 1) #[.int .i64 0, .int .i64 0, .slice none 0 0, .slice none 0 0, .string ⟨#[]⟩, .slice none 0 0, .int .i64 0, .int .i64 0, .slice none 0 0] 54 := Has.new' _ _ _ _ (by simp)
  have HD := hide (D0.quiet o1)
  have HDl := hide (show ∀ k, (k = dk ∨ MLm v l k ∨ MLi l k) → k < w.heap.size from fun k h => D0.lt k h)
  have HA := hide A1
  have HB := hide B1
  have HO := hide o1
  have HT := hide hT
  clear D0 o1 A1 B1 hT
  unfold opX
  go_enter Tryz.func72, Tryz.ntmps72
  go_upto_region 1 with fail
  generalize ((w.alloc (.cells #[.int .i64 7, .int .i64 a, .int .i64 bb, .int .i64 cc, .string s, .string t] 44)).alloc (.cells #[.int .i64 0, .int .i64 0, .slice none 0 0, .slice none 0 0, .string ⟨#[]⟩, .slice none 0 0, .int .i64 0, .int .i64 0, .slice none 0 0] 54)) = w1 at *
  have ka1 := (unhide HA).lt
  have kb1 := (unhide HB).lt
  generalize hka : w.heap.size = ka at *
  have Hka := hide hka
  clear hka
  have a0 : w1.cell? ⟨ka, 0, none⟩ = some (.int .i64 7) := (unhide HA).cell 0
  have a5 : w1.cell? ⟨ka, 5, none⟩ = some (.string t) := (unhide HA).cell 5
  have C1 := hide (eRowOf_any t (unhide HT) w1)
  go_wp2_with fail
  refine (unhide C1).mono ?_
  rintro e w2 ⟨u, rfl, hG⟩
  have O2 : OwnV w2 u (rowP t) := hG.own
  obtain ⟨va, vc, hv⟩ := O2.shape
  have o2 := hG.ho
  have s2 := o2.size
  have HD2 := hide ((unhide HD).quiet o2)
  have HA2 := hide ((unhide HA).keep o2 (fun h => h))
  have HBx := hide ((unhide HB).keep o2 (fun h => h))
  have HO2 := hide ((unhide HO).trans o2 (fun _ _ h => h))
  have C2 := (mdbInsert_any (unhide HD2) s O2 (rowP_wf t) (by have := rowP_len t; omega)).mono (fun e w' h => PsP.num (kd := 7) (bb := bb) (cc := cc) (s := s) (t := t) h rfl)
  subst hv
  have C2 := hide C2
  clear C1 hG O2 o2 a0 a5
  have a4 : w2.cell? ⟨ka, 4, none⟩ = some (.string s) := (unhide HA2).cell 4
  have ka2 := (unhide HA2).lt
  go_wp2_with fail
  refine (unhide C2).mono ?_
  rintro e w3 ⟨z, rfl, hp⟩
  have NZ := (unhide HBx).keep hp.only (fun c => by have c' : ka + 1 = dk ∨ MLm v l (ka + 1) := c; have := unhide HDl (ka + 1) (c'.elim .inl (fun h => .inr (.inl h))); omega)
  have HNZ := hide NZ
  have kz := NZ.lt
  have n0 : w3.cell? ⟨ka + 1, 0, none⟩ = some (.int .i64 0) := NZ.cell 0
  have f0 : w3.frozen? ⟨ka + 1, 0, none⟩ = false := NZ.free 0
  have n1 : w3.cell? ⟨ka + 1, 1, none⟩ = some (.int .i64 0) := NZ.cell 1
  have f1 : w3.frozen? ⟨ka + 1, 1, none⟩ = false := NZ.free 1
  have n2 : w3.cell? ⟨ka + 1, 2, none⟩ = some (.slice none 0 0) := NZ.cell 2
  have f2 : w3.frozen? ⟨ka + 1, 2, none⟩ = false := NZ.free 2
  have n3 : w3.cell? ⟨ka + 1, 3, none⟩ = some (.slice none 0 0) := NZ.cell 3
  have f3 : w3.frozen? ⟨ka + 1, 3, none⟩ = false := NZ.free 3
  have n4 : w3.cell? ⟨ka + 1, 4, none⟩ = some (.string ⟨#[]⟩) := NZ.cell 4
  have f4 : w3.frozen? ⟨ka + 1, 4, none⟩ = false := NZ.free 4
  have n5 : w3.cell? ⟨ka + 1, 5, none⟩ = some (.slice none 0 0) := NZ.cell 5
  have f5 : w3.frozen? ⟨ka + 1, 5, none⟩ = false := NZ.free 5
  have n6 : w3.cell? ⟨ka + 1, 6, none⟩ = some (.int .i64 0) := NZ.cell 6
  have f6 : w3.frozen? ⟨ka + 1, 6, none⟩ = false := NZ.free 6
  have n7 : w3.cell? ⟨ka + 1, 7, none⟩ = some (.int .i64 0) := NZ.cell 7
  have f7 : w3.frozen? ⟨ka + 1, 7, none⟩ = false := NZ.free 7
  have n8 : w3.cell? ⟨ka + 1, 8, none⟩ = some (.slice none 0 0) := NZ.cell 8
  have f8 : w3.frozen? ⟨ka + 1, 8, none⟩ = false := NZ.free 8
  have HP := hide hp
  have FF := hide (fun v0 v1 v2 v3 v4 v5 v6 v7 v8 => (unhide HP).fin (B := fun b => b = ka + 1) (unhide HO2) (only9 _ _ _ _ _ _ _ _ _ _ _ : Only _ _ ((((((((((w3.setCell ⟨ka + 1, 0, none⟩ v0).setCell ⟨ka + 1, 1, none⟩ v1).setCell ⟨ka + 1, 2, none⟩ v2).setCell ⟨ka + 1, 3, none⟩ v3).setCell ⟨ka + 1, 4, none⟩ v4).setCell ⟨ka + 1, 5, none⟩ v5).setCell ⟨ka + 1, 6, none⟩ v6).setCell ⟨ka + 1, 7, none⟩ v7).setCell ⟨ka + 1, 8, none⟩ v8))) (fun k h => by have h' : k = ka + 1 := h; have := unhide Hka; omega) (fun k h => by have := unhide HDl k h; have := unhide Hka; omega))
  have HG := hide (fun v0 v1 v2 v3 v4 v5 v6 v7 v8 => set9 (unhide HNZ) v0 v1 v2 v3 v4 v5 v6 v7 v8)
  clear C2 a4 hp NZ
  go_wp2_with fail
  exact bodyPost_ret (res1_an Tryz.results72 _ rfl (unhide HG _ _ _ _ _ _ _ _ _) rfl) rfl (unhide FF _ _ _ _ _ _ _ _ _)
set_option maxRecDepth 100000 in
set_option maxHeartbeats 2000000 in
theorem sh8_any (D0 : MDc ty w dk o cs v l D) (a bb cc : Int) (s t : ByteArray) (hT : t.size ≤ maxLen) : Calls Tryz.prog 72 #[.pointer (some ⟨dk, o, none⟩), opX 8 a bb cc s t] w (PsP ty w dk o cs v l (shP D 8 bb cc s t)) := by
  have o1 : Only (fun _ => False) w ((w.alloc (.cells #[.int .i64 8, .int .i64 a, .int .i64 bb, .int .i64 cc, .string s, .string t] 44)).alloc (.cells #[.int .i64 0, .int .i64 0, .slice none 0 0, .slice none 0 0, .string ⟨#[]⟩, .slice none 0 0, .int .i64 0, .int .i64 0, .slice none 0 0] 54)) := ((Only.refl _ _).alloc _).alloc _
  have A1 : Has ((w.alloc (.cells #[.int .i64 8, .int .i64 a, .int .i64 bb, .int .i64 cc, .string s, .string t] 44)).alloc (.cells #[.int .i64 0, .int .i64 0, .slice none 0 0, .slice none 0 0, .string ⟨#[]⟩, .slice none 0 0, .int .i64 0, .int .i64 0, .slice none 0 0] 54)) w.heap.size #[.int .i64 8, .int .i64 a, .int .i64 bb, .int .i64 cc, .string s, .string t] 44 := (Has.new w _ _).alloc _
  have B1 : Has ((w.alloc (.cells #[.int .i64 8, .int .i64 a, .int .i64 bb, .int .i64 cc, .string s, .string t] 44)).alloc (.cells #[.int .i64 0, .int .i64 0, .slice none 0 0, .slice none 0 0, .string ⟨#[]⟩, .slice none 0 0, .int .i64 0, .int .i64 0, .slice none 0 0] 54)) (w.heap.size + 1) #[.int .i64 0, .int .i64 0, .slice none 0 0, .slice none 0 0, .string ⟨#[]⟩, .slice none 0 0, .int .i64 0, .int .i64 0, .slice none 0 0] 54 := Has.new' _ _ _ _ (by simp)
  have HD := hide (D0.quiet o1)
  have HDl := hide (show ∀ k, (k = dk ∨ MLm v l k ∨ MLi l k) → k < w.heap.size from fun k h => D0.lt k h)
  have HA := hide A1
  have HB := hide B1
  have HO := hide o1
  have HT := hide hT
  clear D0 o1 A1 B1 hT
  unfold opX
  go_enter Tryz.func72, Tryz.ntmps72
  go_upto_region 1 with fail
  generalize ((w.alloc (.cells #[.int .i64 8, .int .i64 a, .int .i64 bb, .int .i64 cc, .string s, .string t] 44)).alloc (.cells #[.int .i64 0, .int .i64 0, .slice none 0 0, .slice none 0 0, .string ⟨#[]⟩, .slice none 0 0, .int .i64 0, .int .i64 0, .slice none 0 0] 54)) = w1 at *
  have ka1 := (unhide HA).lt
  have kb1 := (unhide HB).lt
  generalize hka : w.heap.size = ka at *
  have Hka := hide hka
  clear hka
  have a0 : w1.cell? ⟨ka, 0, none⟩ = some (.int .i64 8) := (unhide HA).cell 0
  have a5 : w1.cell? ⟨ka, 5, none⟩ = some (.string t) := (unhide HA).cell 5
  have C1 := hide (eRowOf_any t (unhide HT) w1)
  go_wp2_with fail
  refine (unhide C1).mono ?_
  rintro e w2 ⟨u, rfl, hG⟩
  have O2 : OwnV w2 u (rowP t) := hG.own
  obtain ⟨va, vc, hv⟩ := O2.shape
  have o2 := hG.ho
  have s2 := o2.size
  have HD2 := hide ((unhide HD).quiet o2)
  have HA2 := hide ((unhide HA).keep o2 (fun h => h))
  have HBx := hide ((unhide HB).keep o2 (fun h => h))
  have HO2 := hide ((unhide HO).trans o2 (fun _ _ h => h))
  have C2 := (mdbUpdate_any (unhide HD2) s O2 (rowP_wf t) (by have := rowP_len t; omega)).mono (fun e w' h => PsP.num (kd := 8) (bb := bb) (cc := cc) (s := s) (t := t) h rfl)
  subst hv
  have C2 := hide C2
  clear C1 hG O2 o2 a0 a5
  have a4 : w2.cell? ⟨ka, 4, none⟩ = some (.string s) := (unhide HA2).cell 4
  have ka2 := (unhide HA2).lt
  go_wp2_with fail
  refine (unhide C2).mono ?_
  rintro e w3 ⟨z, rfl, hp⟩
  have NZ := (unhide HBx).keep hp.only (fun c => by have c' : ka + 1 = dk ∨ MLm v l (ka + 1) := c; have := unhide HDl (ka + 1) (c'.elim .inl (fun h => .inr (.inl h))); omega)
  have HNZ := hide NZ
  have kz := NZ.lt
  have n0 : w3.cell? ⟨ka + 1, 0, none⟩ = some (.int .i64 0) := NZ.cell 0
  have f0 : w3.frozen? ⟨ka + 1, 0, none⟩ = false := NZ.free 0
  have n1 : w3.cell? ⟨ka + 1, 1, none⟩ = some (.int .i64 0) := NZ.cell 1
  have f1 : w3.frozen? ⟨ka + 1, 1, none⟩ = false := NZ.free 1
  have n2 : w3.cell? ⟨ka + 1, 2, none⟩ = some (.slice none 0 0) := NZ.cell 2
  have f2 : w3.frozen? ⟨ka + 1, 2, none⟩ = false := NZ.free 2
  have n3 : w3.cell? ⟨ka + 1, 3, none⟩ = some (.slice none 0 0) := NZ.cell 3
  have f3 : w3.frozen? ⟨ka + 1, 3, none⟩ = false := NZ.free 3
  have n4 : w3.cell? ⟨ka + 1, 4, none⟩ = some (.string ⟨#[]⟩) := NZ.cell 4
  have f4 : w3.frozen? ⟨ka + 1, 4, none⟩ = false := NZ.free 4
  have n5 : w3.cell? ⟨ka + 1, 5, none⟩ = some (.slice none 0 0) := NZ.cell 5
  have f5 : w3.frozen? ⟨ka + 1, 5, none⟩ = false := NZ.free 5
  have n6 : w3.cell? ⟨ka + 1, 6, none⟩ = some (.int .i64 0) := NZ.cell 6
  have f6 : w3.frozen? ⟨ka + 1, 6, none⟩ = false := NZ.free 6
  have n7 : w3.cell? ⟨ka + 1, 7, none⟩ = some (.int .i64 0) := NZ.cell 7
  have f7 : w3.frozen? ⟨ka + 1, 7, none⟩ = false := NZ.free 7
  have n8 : w3.cell? ⟨ka + 1, 8, none⟩ = some (.slice none 0 0) := NZ.cell 8
  have f8 : w3.frozen? ⟨ka + 1, 8, none⟩ = false := NZ.free 8
  have HP := hide hp
  have FF := hide (fun v0 v1 v2 v3 v4 v5 v6 v7 v8 => (unhide HP).fin (B := fun b => b = ka + 1) (unhide HO2) (only9 _ _ _ _ _ _ _ _ _ _ _ : Only _ _ ((((((((((w3.setCell ⟨ka + 1, 0, none⟩ v0).setCell ⟨ka + 1, 1, none⟩ v1).setCell ⟨ka + 1, 2, none⟩ v2).setCell ⟨ka + 1, 3, none⟩ v3).setCell ⟨ka + 1, 4, none⟩ v4).setCell ⟨ka + 1, 5, none⟩ v5).setCell ⟨ka + 1, 6, none⟩ v6).setCell ⟨ka + 1, 7, none⟩ v7).setCell ⟨ka + 1, 8, none⟩ v8))) (fun k h => by have h' : k = ka + 1 := h; have := unhide Hka; omega) (fun k h => by have := unhide HDl k h; have := unhide Hka; omega))
  have HG := hide (fun v0 v1 v2 v3 v4 v5 v6 v7 v8 => set9 (unhide HNZ) v0 v1 v2 v3 v4 v5 v6 v7 v8)
  clear C2 a4 hp NZ
  go_wp2_with fail
  exact bodyPost_ret (res1_an Tryz.results72 _ rfl (unhide HG _ _ _ _ _ _ _ _ _) rfl) rfl (unhide FF _ _ _ _ _ _ _ _ _)
set_option maxRecDepth 100000 in
set_option maxHeartbeats 2000000 in
theorem sh9_any (D0 : MDc ty w dk o cs v l D) (a bb cc : Int) (s t : ByteArray) (hT : t.size ≤ maxLen) : Calls Tryz.prog 72 #[.pointer (some ⟨dk, o, none⟩), opX 9 a bb cc s t] w (PsP ty w dk o cs v l (shP D 9 bb cc s t)) := by
  have o1 : Only (fun _ => False) w ((w.alloc (.cells #[.int .i64 9, .int .i64 a, .int .i64 bb, .int .i64 cc, .string s, .string t] 44)).alloc (.cells #[.int .i64 0, .int .i64 0, .slice none 0 0, .slice none 0 0, .string ⟨#[]⟩, .slice none 0 0, .int .i64 0, .int .i64 0, .slice none 0 0] 54)) := ((Only.refl _ _).alloc _).alloc _
  have A1 : Has ((w.alloc (.cells #[.int .i64 9, .int .i64 a, .int .i64 bb, .int .i64 cc, .string s, .string t] 44)).alloc (.cells #[.int .i64 0, .int .i64 0, .slice none 0 0, .slice none 0 0, .string ⟨#[]⟩, .slice none 0 0, .int .i64 0, .int .i64 0, .slice none 0 0] 54)) w.heap.size #[.int .i64 9, .int .i64 a, .int .i64 bb, .int .i64 cc, .string s, .string t] 44 := (Has.new w _ _).alloc _
  have B1 : Has ((w.alloc (.cells #[.int .i64 9, .int .i64 a, .int .i64 bb, .int .i64 cc, .string s, .string t] 44)).alloc (.cells #[.int .i64 0, .int .i64 0, .slice none 0 0, .slice none 0 0, .string ⟨#[]⟩, .slice none 0 0, .int .i64 0, .int .i64 0, .slice none 0 0] 54)) (w.heap.size + 1) #[.int .i64 0, .int .i64 0, .slice none 0 0, .slice none 0 0, .string ⟨#[]⟩, .slice none 0 0, .int .i64 0, .int .i64 0, .slice none 0 0] 54 := Has.new' _ _ _ _ (by simp)
  have HD := hide (D0.quiet o1)
  have HDl := hide (show ∀ k, (k = dk ∨ MLm v l k ∨ MLi l k) → k < w.heap.size from fun k h => D0.lt k h)
  have HA := hide A1
  have HB := hide B1
  have HO := hide o1
  have HT := hide hT
  clear D0 o1 A1 B1 hT
  unfold opX
  go_enter Tryz.func72, Tryz.ntmps72
  go_upto_region 1 with fail
  generalize ((w.alloc (.cells #[.int .i64 9, .int .i64 a, .int .i64 bb, .int .i64 cc, .string s, .string t] 44)).alloc (.cells #[.int .i64 0, .int .i64 0, .slice none 0 0, .slice none 0 0, .string ⟨#[]⟩, .slice none 0 0, .int .i64 0, .int .i64 0, .slice none 0 0] 54)) = w1 at *
  have ka1 := (unhide HA).lt
  have kb1 := (unhide HB).lt
  generalize hka : w.heap.size = ka at *
  have Hka := hide hka
  clear hka
  have a0 : w1.cell? ⟨ka, 0, none⟩ = some (.int .i64 9) := (unhide HA).cell 0
  have a5 : w1.cell? ⟨ka, 5, none⟩ = some (.string t) := (unhide HA).cell 5
  have C1 := eFirst_any t (unhide HT) w1
  obtain ⟨key, hkey⟩ : ∃ key, fstP t = key := ⟨_, rfl⟩
  rw [hkey] at C1
  unfold vlA at C1
  have C1 := hide C1
  have Hkey := hide hkey
  clear hkey
  go_wp2_with fail
  refine (unhide C1).mono ?_
  rintro e w2 ⟨rfl, o2⟩
  have oA : Only (fun _ => False) w2 (w2.alloc (.cells #[.bool key.str, .int .i64 key.i, .string key.s] 106)) := (Only.refl _ _).alloc _
  have HK2 := hide (Has.new w2 #[.bool key.str, .int .i64 key.i, .string key.s] 106)
  have o3 := o2.trans oA (fun _ _ h => h)
  have HD2 := hide ((unhide HD).quiet o3)
  have HA2 := hide ((unhide HA).keep o3 (fun h => h))
  have HBx := hide ((unhide HB).keep o3 (fun h => h))
  have HO2 := hide ((unhide HO).trans o3 (fun _ _ h => h))
  have s3 := o3.size
  clear C1 o2 oA o3 a0 a5
  go_upto_region 17 with fail
  generalize w2.alloc (.cells #[.bool key.str, .int .i64 key.i, .string key.s] 106) = w3 at *
  generalize w2.heap.size = kk at *
  have a4 : w3.cell? ⟨ka, 4, none⟩ = some (.string s) := (unhide HA2).cell 4
  have k0 : w3.cell? ⟨kk, 0, none⟩ = some (.bool key.str) := (unhide HK2).cell 0
  have k1 : w3.cell? ⟨kk, 1, none⟩ = some (.int .i64 key.i) := (unhide HK2).cell 1
  have k2 : w3.cell? ⟨kk, 2, none⟩ = some (.string key.s) := (unhide HK2).cell 2
  have ka3 := (unhide HA2).lt
  have C2 := (mdbDelete_any (unhide HD2) s (fstP t) (fstP_wf t)).mono (fun e w' h => PsP.num (kd := 9) (bb := bb) (cc := cc) (s := s) (t := t) h rfl)
  rw [unhide Hkey] at C2
  unfold vlA at C2
  have C2 := hide C2
  go_wp2_with fail
  refine (unhide C2).mono ?_
  rintro e w4 ⟨z, rfl, hp⟩
  have NZ := (unhide HBx).keep hp.only (fun c => by have c' : ka + 1 = dk ∨ MLm v l (ka + 1) := c; have := unhide HDl (ka + 1) (c'.elim .inl (fun h => .inr (.inl h))); omega)
  have HNZ := hide NZ
  have kz := NZ.lt
  have n0 : w4.cell? ⟨ka + 1, 0, none⟩ = some (.int .i64 0) := NZ.cell 0
  have f0 : w4.frozen? ⟨ka + 1, 0, none⟩ = false := NZ.free 0
  have n1 : w4.cell? ⟨ka + 1, 1, none⟩ = some (.int .i64 0) := NZ.cell 1
  have f1 : w4.frozen? ⟨ka + 1, 1, none⟩ = false := NZ.free 1
  have n2 : w4.cell? ⟨ka + 1, 2, none⟩ = some (.slice none 0 0) := NZ.cell 2
  have f2 : w4.frozen? ⟨ka + 1, 2, none⟩ = false := NZ.free 2
  have n3 : w4.cell? ⟨ka + 1, 3, none⟩ = some (.slice none 0 0) := NZ.cell 3
  have f3 : w4.frozen? ⟨ka + 1, 3, none⟩ = false := NZ.free 3
  have n4 : w4.cell? ⟨ka + 1, 4, none⟩ = some (.string ⟨#[]⟩) := NZ.cell 4
  have f4 : w4.frozen? ⟨ka + 1, 4, none⟩ = false := NZ.free 4
  have n5 : w4.cell? ⟨ka + 1, 5, none⟩ = some (.slice none 0 0) := NZ.cell 5
  have f5 : w4.frozen? ⟨ka + 1, 5, none⟩ = false := NZ.free 5
  have n6 : w4.cell? ⟨ka + 1, 6, none⟩ = some (.int .i64 0) := NZ.cell 6
  have f6 : w4.frozen? ⟨ka + 1, 6, none⟩ = false := NZ.free 6
  have n7 : w4.cell? ⟨ka + 1, 7, none⟩ = some (.int .i64 0) := NZ.cell 7
  have f7 : w4.frozen? ⟨ka + 1, 7, none⟩ = false := NZ.free 7
  have n8 : w4.cell? ⟨ka + 1, 8, none⟩ = some (.slice none 0 0) := NZ.cell 8
  have f8 : w4.frozen? ⟨ka + 1, 8, none⟩ = false := NZ.free 8
  have HP := hide hp
  have FF := hide (fun v0 v1 v2 v3 v4 v5 v6 v7 v8 => (unhide HP).fin (B := fun b => b = ka + 1) (unhide HO2) (only9 _ _ _ _ _ _ _ _ _ _ _ : Only _ _ ((((((((((w4.setCell ⟨ka + 1, 0, none⟩ v0).setCell ⟨ka + 1, 1, none⟩ v1).setCell ⟨ka + 1, 2, none⟩ v2).setCell ⟨ka + 1, 3, none⟩ v3).setCell ⟨ka + 1, 4, none⟩ v4).setCell ⟨ka + 1, 5, none⟩ v5).setCell ⟨ka + 1, 6, none⟩ v6).setCell ⟨ka + 1, 7, none⟩ v7).setCell ⟨ka + 1, 8, none⟩ v8))) (fun k h => by have h' : k = ka + 1 := h; have := unhide Hka; omega) (fun k h => by have := unhide HDl k h; have := unhide Hka; omega))
  have HG := hide (fun v0 v1 v2 v3 v4 v5 v6 v7 v8 => set9 (unhide HNZ) v0 v1 v2 v3 v4 v5 v6 v7 v8)
  clear C2 a4 k0 k1 k2 hp NZ
  go_wp2_with fail
  exact bodyPost_ret (res1_an Tryz.results72 _ rfl (unhide HG _ _ _ _ _ _ _ _ _) rfl) rfl (unhide FF _ _ _ _ _ _ _ _ _)
set_option maxRecDepth 100000 in
set_option maxHeartbeats 2000000 in
theorem sh10_any (D0 : MDc ty w dk o cs v l D) (a bb cc : Int) (s t : ByteArray) (hT : t.size ≤ maxLen) : Calls Tryz.prog 72 #[.pointer (some ⟨dk, o, none⟩), opX 10 a bb cc s t] w (PsP ty w dk o cs v l (shP D 10 bb cc s t)) := by
  have o1 : Only (fun _ => False) w ((w.alloc (.cells #[.int .i64 10, .int .i64 a, .int .i64 bb, .int .i64 cc, .string s, .string t] 44)).alloc (.cells #[.int .i64 0, .int .i64 0, .slice none 0 0, .slice none 0 0, .string ⟨#[]⟩, .slice none 0 0, .int .i64 0, .int .i64 0, .slice none 0 0] 54)) := ((Only.refl _ _).alloc _).alloc _
  have A1 : Has ((w.alloc (.cells #[.int .i64 10, .int .i64 a, .int .i64 bb, .int .i64 cc, .string s, .string t] 44)).alloc (.cells #[.int .i64 0, .int .i64 0, .slice none 0 0, .slice none 0 0, .string ⟨#[]⟩, .slice none 0 0, .int .i64 0, .int .i64 0, .slice none 0 0] 54)) w.heap.size #[.int .i64 10, .int .i64 a, .int .i64 bb, .int .i64 cc, .string s, .string t] 44 := (Has.new w _ _).alloc _
  have B1 : Has ((w.alloc (.cells #[.int .i64 10, .int .i64 a, .int .i64 bb, .int .i64 cc, .string s, .string t] 44)).alloc (.cells #[.int .i64 0, .int .i64 0, .slice none 0 0, .slice none 0 0, .string ⟨#[]⟩, .slice none 0 0, .int .i64 0, .int .i64 0, .slice none 0 0] 54)) (w.heap.size + 1) #[.int .i64 0, .int .i64 0, .slice none 0 0, .slice none 0 0, .string ⟨#[]⟩, .slice none 0 0, .int .i64 0, .int .i64 0, .slice none 0 0] 54 := Has.new' _ _ _ _ (by simp)
  have HD := hide (D0.quiet o1)
  have HDl := hide (show ∀ k, (k = dk ∨ MLm v l k ∨ MLi l k) → k < w.heap.size from fun k h => D0.lt k h)
  have HA := hide A1
  have HB := hide B1
  have HO := hide o1
  have HT := hide hT
  clear D0 o1 A1 B1 hT
  unfold opX
  go_enter Tryz.func72, Tryz.ntmps72
  go_upto_region 1 with fail
  generalize ((w.alloc (.cells #[.int .i64 10, .int .i64 a, .int .i64 bb, .int .i64 cc, .string s, .string t] 44)).alloc (.cells #[.int .i64 0, .int .i64 0, .slice none 0 0, .slice none 0 0, .string ⟨#[]⟩, .slice none 0 0, .int .i64 0, .int .i64 0, .slice none 0 0] 54)) = w1 at *
  have ka1 := (unhide HA).lt
  have kb1 := (unhide HB).lt
  generalize hka : w.heap.size = ka at *
  have Hka := hide hka
  clear hka
  have a0 : w1.cell? ⟨ka, 0, none⟩ = some (.int .i64 10) := (unhide HA).cell 0
  have a5 : w1.cell? ⟨ka, 5, none⟩ = some (.string t) := (unhide HA).cell 5
  have C1 := eFirst_any t (unhide HT) w1
  obtain ⟨key, hkey⟩ : ∃ key, fstP t = key := ⟨_, rfl⟩
  rw [hkey] at C1
  unfold vlA at C1
  have C1 := hide C1
  have Hkey := hide hkey
  clear hkey
  go_wp2_with fail
  refine (unhide C1).mono ?_
  rintro e w2 ⟨rfl, o2⟩
  have oA : Only (fun _ => False) w2 (w2.alloc (.cells #[.bool key.str, .int .i64 key.i, .string key.s] 106)) := (Only.refl _ _).alloc _
  have HK2 := hide (Has.new w2 #[.bool key.str, .int .i64 key.i, .string key.s] 106)
  have o3 := o2.trans oA (fun _ _ h => h)
  have HD2 := hide ((unhide HD).quiet o3)
  have HA2 := hide ((unhide HA).keep o3 (fun h => h))
  have HBx := hide ((unhide HB).keep o3 (fun h => h))
  have HO2 := hide ((unhide HO).trans o3 (fun _ _ h => h))
  have s3 := o3.size
  clear C1 o2 oA o3 a0 a5
  go_upto_region 20 with fail
  generalize w2.alloc (.cells #[.bool key.str, .int .i64 key.i, .string key.s] 106) = w3 at *
  generalize w2.heap.size = kk at *
  have a4 : w3.cell? ⟨ka, 4, none⟩ = some (.string s) := (unhide HA2).cell 4
  have k0 : w3.cell? ⟨kk, 0, none⟩ = some (.bool key.str) := (unhide HK2).cell 0
  have k1 : w3.cell? ⟨kk, 1, none⟩ = some (.int .i64 key.i) := (unhide HK2).cell 1
  have k2 : w3.cell? ⟨kk, 2, none⟩ = some (.string key.s) := (unhide HK2).cell 2
  have ka3 := (unhide HA2).lt
  have C2 := (mdbLookup_any (unhide HD2).db s (fstP t) (fstP_wf t)).mono (fun e w' h => PsP.row (bb := bb) (cc := cc) (unhide HD2) h)
  rw [unhide Hkey] at C2
  unfold vlA at C2
  have C2 := hide C2
  go_wp2_with fail
  refine (unhide C2).mono ?_
  rintro e w4 ⟨ra, rn, rc, z, rfl, hp⟩
  have NZ := (unhide HBx).keep hp.only (fun c => by have c' : ka + 1 = dk ∨ MLm v l (ka + 1) := c; have := unhide HDl (ka + 1) (c'.elim .inl (fun h => .inr (.inl h))); omega)
  have HNZ := hide NZ
  have kz := NZ.lt
  have n0 : w4.cell? ⟨ka + 1, 0, none⟩ = some (.int .i64 0) := NZ.cell 0
  have f0 : w4.frozen? ⟨ka + 1, 0, none⟩ = false := NZ.free 0
  have n1 : w4.cell? ⟨ka + 1, 1, none⟩ = some (.int .i64 0) := NZ.cell 1
  have f1 : w4.frozen? ⟨ka + 1, 1, none⟩ = false := NZ.free 1
  have n2 : w4.cell? ⟨ka + 1, 2, none⟩ = some (.slice none 0 0) := NZ.cell 2
  have f2 : w4.frozen? ⟨ka + 1, 2, none⟩ = false := NZ.free 2
  have n3 : w4.cell? ⟨ka + 1, 3, none⟩ = some (.slice none 0 0) := NZ.cell 3
  have f3 : w4.frozen? ⟨ka + 1, 3, none⟩ = false := NZ.free 3
  have n4 : w4.cell? ⟨ka + 1, 4, none⟩ = some (.string ⟨#[]⟩) := NZ.cell 4
  have f4 : w4.frozen? ⟨ka + 1, 4, none⟩ = false := NZ.free 4
  have n5 : w4.cell? ⟨ka + 1, 5, none⟩ = some (.slice none 0 0) := NZ.cell 5
  have f5 : w4.frozen? ⟨ka + 1, 5, none⟩ = false := NZ.free 5
  have n6 : w4.cell? ⟨ka + 1, 6, none⟩ = some (.int .i64 0) := NZ.cell 6
  have f6 : w4.frozen? ⟨ka + 1, 6, none⟩ = false := NZ.free 6
  have n7 : w4.cell? ⟨ka + 1, 7, none⟩ = some (.int .i64 0) := NZ.cell 7
  have f7 : w4.frozen? ⟨ka + 1, 7, none⟩ = false := NZ.free 7
  have n8 : w4.cell? ⟨ka + 1, 8, none⟩ = some (.slice none 0 0) := NZ.cell 8
  have f8 : w4.frozen? ⟨ka + 1, 8, none⟩ = false := NZ.free 8
  have HP := hide hp
  have FF := hide (fun v0 v1 v2 v3 v4 v5 v6 v7 v8 => (unhide HP).fin (B := fun b => b = ka + 1) (unhide HO2) (only9 _ _ _ _ _ _ _ _ _ _ _ : Only _ _ ((((((((((w4.setCell ⟨ka + 1, 0, none⟩ v0).setCell ⟨ka + 1, 1, none⟩ v1).setCell ⟨ka + 1, 2, none⟩ v2).setCell ⟨ka + 1, 3, none⟩ v3).setCell ⟨ka + 1, 4, none⟩ v4).setCell ⟨ka + 1, 5, none⟩ v5).setCell ⟨ka + 1, 6, none⟩ v6).setCell ⟨ka + 1, 7, none⟩ v7).setCell ⟨ka + 1, 8, none⟩ v8))) (fun k h => by have h' : k = ka + 1 := h; have := unhide Hka; omega) (fun k h => by have := unhide HDl k h; have := unhide Hka; omega))
  have HG := hide (fun v0 v1 v2 v3 v4 v5 v6 v7 v8 => set9 (unhide HNZ) v0 v1 v2 v3 v4 v5 v6 v7 v8)
  clear C2 a4 k0 k1 k2 hp NZ
  go_wp2_with fail
  exact bodyPost_ret (res1_an Tryz.results72 _ rfl (unhide HG _ _ _ _ _ _ _ _ _) rfl) rfl (unhide FF _ _ _ _ _ _ _ _ _)
set_option maxRecDepth 100000 in
set_option maxHeartbeats 2000000 in
theorem sh11_any (D0 : MDc ty w dk o cs v l D) (a bb cc : Int) (s t : ByteArray) (hT : t.size ≤ maxLen) : Calls Tryz.prog 72 #[.pointer (some ⟨dk, o, none⟩), opX 11 a bb cc s t] w (PsP ty w dk o cs v l (shP D 11 bb cc s t)) := by
  have o1 : Only (fun _ => False) w ((w.alloc (.cells #[.int .i64 11, .int .i64 a, .int .i64 bb, .int .i64 cc, .string s, .string t] 44)).alloc (.cells #[.int .i64 0, .int .i64 0, .slice none 0 0, .slice none 0 0, .string ⟨#[]⟩, .slice none 0 0, .int .i64 0, .int .i64 0, .slice none 0 0] 54)) := ((Only.refl _ _).alloc _).alloc _
  have A1 : Has ((w.alloc (.cells #[.int .i64 11, .int .i64 a, .int .i64 bb, .int .i64 cc, .string s, .string t] 44)).alloc (.cells #[.int .i64 0, .int .i64 0, .slice none 0 0, .slice none 0 0, .string ⟨#[]⟩, .slice none 0 0, .int .i64 0, .int .i64 0, .slice none 0 0] 54)) w.heap.size #[.int .i64 11, .int .i64 a, .int .i64 bb, .int .i64 cc, .string s, .string t] 44 := (Has.new w _ _).alloc _
  have B1 : Has ((w.alloc (.cells #[.int .i64 11, .int .i64 a, .int .i64 bb, .int .i64 cc, .string s, .string t] 44)).alloc (.cells #[.int .i64 0, .int .i64 0, .slice none 0 0, .slice none 0 0, .string ⟨#[]⟩, .slice none 0 0, .int .i64 0, .int .i64 0, .slice none 0 0] 54)) (w.heap.size + 1) #[.int .i64 0, .int .i64 0, .slice none 0 0, .slice none 0 0, .string ⟨#[]⟩, .slice none 0 0, .int .i64 0, .int .i64 0, .slice none 0 0] 54 := Has.new' _ _ _ _ (by simp)
  have HD := hide (D0.quiet o1)
  have HDl := hide (show ∀ k, (k = dk ∨ MLm v l k ∨ MLi l k) → k < w.heap.size from fun k h => D0.lt k h)
  have HA := hide A1
  have HB := hide B1
  have HO := hide o1
  have HT := hide hT
  clear D0 o1 A1 B1 hT
  unfold opX
  go_enter Tryz.func72, Tryz.ntmps72
  go_upto_region 1 with fail
  generalize ((w.alloc (.cells #[.int .i64 11, .int .i64 a, .int .i64 bb, .int .i64 cc, .string s, .string t] 44)).alloc (.cells #[.int .i64 0, .int .i64 0, .slice none 0 0, .slice none 0 0, .string ⟨#[]⟩, .slice none 0 0, .int .i64 0, .int .i64 0, .slice none 0 0] 54)) = w1 at *
  have ka1 := (unhide HA).lt
  have kb1 := (unhide HB).lt
  generalize hka : w.heap.size = ka at *
  have Hka := hide hka
  clear hka
  have a0 : w1.cell? ⟨ka, 0, none⟩ = some (.int .i64 11) := (unhide HA).cell 0
  have a1 : w1.cell? ⟨ka, 1, none⟩ = some (.int .i64 a) := (unhide HA).cell 1
  have a2 : w1.cell? ⟨ka, 2, none⟩ = some (.int .i64 bb) := (unhide HA).cell 2
  have a3 : w1.cell? ⟨ka, 3, none⟩ = some (.int .i64 cc) := (unhide HA).cell 3
  have a4 : w1.cell? ⟨ka, 4, none⟩ = some (.string s) := (unhide HA).cell 4
  have a5 : w1.cell? ⟨ka, 5, none⟩ = some (.string t) := (unhide HA).cell 5
  obtain ⟨key, hkey⟩ : ∃ key, fstP t = key := ⟨_, rfl⟩
  obtain ⟨kez, hkez⟩ : ∃ key, sndP t = key := ⟨_, rfl⟩
  obtain ⟨lb, hlb⟩ : ∃ lb : Bool, (bits BinOp.and IntKind.i64 cc 1 != 0) = lb := ⟨_, rfl⟩
  obtain ⟨ub, hub⟩ : ∃ ub : Bool, (bits BinOp.and IntKind.i64 cc 2 != 0) = ub := ⟨_, rfl⟩
  have C1 := lo_any 11 a bb cc s t (unhide HT) w1
  rw [hkey, hlb] at C1
  unfold opX bdA at C1
  have C1 := hide C1
  have Hk := hide (And.intro (And.intro hkey hkez) (And.intro hlb hub))
  clear hkey hkez hlb hub
  go_wp2_with fail
  refine (unhide C1).mono ?_
  rintro e w2 ⟨rfl, o2⟩
  have oA : Only (fun _ => False) w2 (w2.alloc (.cells #[.bool lb, .bool key.str, .int .i64 key.i, .string key.s] 113)) := (Only.refl _ _).alloc _
  have HL2 := hide (Has.new w2 #[.bool lb, .bool key.str, .int .i64 key.i, .string key.s] 113)
  have o3 := o2.trans oA (fun _ _ h => h)
  have HDa := hide ((unhide HD).quiet o3)
  have HAa := hide ((unhide HA).keep o3 (fun h => h))
  have HBa := hide ((unhide HB).keep o3 (fun h => h))
  have HOa := hide ((unhide HO).trans o3 (fun _ _ h => h))
  have s3 := o3.size
  clear C1 o2 oA o3 a0 a1 a2 a3 a4 a5
  go_upto_region 24 with fail
  generalize w2.alloc (.cells #[.bool lb, .bool key.str, .int .i64 key.i, .string key.s] 113) = w3 at *
  generalize w2.heap.size = kl at *
  have a0 : w3.cell? ⟨ka, 0, none⟩ = some (.int .i64 11) := (unhide HAa).cell 0
  have a1 : w3.cell? ⟨ka, 1, none⟩ = some (.int .i64 a) := (unhide HAa).cell 1
  have a2 : w3.cell? ⟨ka, 2, none⟩ = some (.int .i64 bb) := (unhide HAa).cell 2
  have a3 : w3.cell? ⟨ka, 3, none⟩ = some (.int .i64 cc) := (unhide HAa).cell 3
  have a4 : w3.cell? ⟨ka, 4, none⟩ = some (.string s) := (unhide HAa).cell 4
  have a5 : w3.cell? ⟨ka, 5, none⟩ = some (.string t) := (unhide HAa).cell 5
  have ka3 := (unhide HAa).lt
  have C1 := hi_any 11 a bb cc s t (unhide HT) w3
  rw [(unhide Hk).1.2, (unhide Hk).2.2] at C1
  unfold opX bdA at C1
  have C1 := hide C1
  go_wp2_with fail
  refine (unhide C1).mono ?_
  rintro e wa ⟨rfl, o2⟩
  have oA : Only (fun _ => False) wa (wa.alloc (.cells #[.bool ub, .bool kez.str, .int .i64 kez.i, .string kez.s] 113)) := (Only.refl _ _).alloc _
  have HU2 := hide (Has.new wa #[.bool ub, .bool kez.str, .int .i64 kez.i, .string kez.s] 113)
  have o3 := o2.trans oA (fun _ _ h => h)
  have HD2 := hide ((unhide HDa).quiet o3)
  have HA2 := hide ((unhide HAa).keep o3 (fun h => h))
  have HBx := hide ((unhide HBa).keep o3 (fun h => h))
  have HL3 := hide ((unhide HL2).keep o3 (fun h => h))
  have HO2 := hide ((unhide HOa).trans o3 (fun _ _ h => h))
  have s3b := o3.size
  clear C1 o2 oA o3 a0 a1 a2 a3 a4 a5 HDa HAa HBa HOa HL2
  go_upto_region 25 with fail
  generalize wa.alloc (.cells #[.bool ub, .bool kez.str, .int .i64 kez.i, .string kez.s] 113) = wb at *
  generalize wa.heap.size = ku at *
  have a2 : wb.cell? ⟨ka, 2, none⟩ = some (.int .i64 bb) := (unhide HA2).cell 2
  have a4 : wb.cell? ⟨ka, 4, none⟩ = some (.string s) := (unhide HA2).cell 4
  have l0 : wb.cell? ⟨kl, 0, none⟩ = some (.bool lb) := (unhide HL3).cell 0
  have l1 : wb.cell? ⟨kl, 1, none⟩ = some (.bool key.str) := (unhide HL3).cell 1
  have l2 : wb.cell? ⟨kl, 2, none⟩ = some (.int .i64 key.i) := (unhide HL3).cell 2
  have l3 : wb.cell? ⟨kl, 3, none⟩ = some (.string key.s) := (unhide HL3).cell 3
  have u0 : wb.cell? ⟨ku, 0, none⟩ = some (.bool ub) := (unhide HU2).cell 0
  have u1 : wb.cell? ⟨ku, 1, none⟩ = some (.bool kez.str) := (unhide HU2).cell 1
  have u2 : wb.cell? ⟨ku, 2, none⟩ = some (.int .i64 kez.i) := (unhide HU2).cell 2
  have u3 : wb.cell? ⟨ku, 3, none⟩ = some (.string kez.s) := (unhide HU2).cell 3
  have kab := (unhide HA2).lt
  have C2 := (mdbScan_any (unhide HD2).db s bb (bits BinOp.and IntKind.i64 cc 1 != 0) (bits BinOp.and IntKind.i64 cc 2 != 0) (fstP t) (sndP t) (fstP_wf t) (sndP_wf t)).mono (fun e w' h => PsP.scn (unhide HD2) h)
  rw [(unhide Hk).1.1, (unhide Hk).1.2, (unhide Hk).2.1, (unhide Hk).2.2] at C2
  unfold bdA at C2
  have C2 := hide C2
  go_wp2_with fail
  refine (unhide C2).mono ?_
  rintro e w4 ⟨ra, rn, rc, z, Z, rfl, hp⟩
  have NZ := (unhide HBx).keep hp.only (fun c => by have c' : ka + 1 = dk ∨ MLm v l (ka + 1) := c; have := unhide HDl (ka + 1) (c'.elim .inl (fun h => .inr (.inl h))); omega)
  have HNZ := hide NZ
  have kz := NZ.lt
  have n0 : w4.cell? ⟨ka + 1, 0, none⟩ = some (.int .i64 0) := NZ.cell 0
  have f0 : w4.frozen? ⟨ka + 1, 0, none⟩ = false := NZ.free 0
  have n1 : w4.cell? ⟨ka + 1, 1, none⟩ = some (.int .i64 0) := NZ.cell 1
  have f1 : w4.frozen? ⟨ka + 1, 1, none⟩ = false := NZ.free 1
  have n2 : w4.cell? ⟨ka + 1, 2, none⟩ = some (.slice none 0 0) := NZ.cell 2
  have f2 : w4.frozen? ⟨ka + 1, 2, none⟩ = false := NZ.free 2
  have n3 : w4.cell? ⟨ka + 1, 3, none⟩ = some (.slice none 0 0) := NZ.cell 3
  have f3 : w4.frozen? ⟨ka + 1, 3, none⟩ = false := NZ.free 3
  have n4 : w4.cell? ⟨ka + 1, 4, none⟩ = some (.string ⟨#[]⟩) := NZ.cell 4
  have f4 : w4.frozen? ⟨ka + 1, 4, none⟩ = false := NZ.free 4
  have n5 : w4.cell? ⟨ka + 1, 5, none⟩ = some (.slice none 0 0) := NZ.cell 5
  have f5 : w4.frozen? ⟨ka + 1, 5, none⟩ = false := NZ.free 5
  have n6 : w4.cell? ⟨ka + 1, 6, none⟩ = some (.int .i64 0) := NZ.cell 6
  have f6 : w4.frozen? ⟨ka + 1, 6, none⟩ = false := NZ.free 6
  have n7 : w4.cell? ⟨ka + 1, 7, none⟩ = some (.int .i64 0) := NZ.cell 7
  have f7 : w4.frozen? ⟨ka + 1, 7, none⟩ = false := NZ.free 7
  have n8 : w4.cell? ⟨ka + 1, 8, none⟩ = some (.slice none 0 0) := NZ.cell 8
  have f8 : w4.frozen? ⟨ka + 1, 8, none⟩ = false := NZ.free 8
  have HP := hide hp
  have FF := hide (fun v0 v1 v2 v3 v4 v5 v6 v7 v8 => (unhide HP).fin (B := fun b => b = ka + 1) (unhide HO2) (only9 _ _ _ _ _ _ _ _ _ _ _ : Only _ _ ((((((((((w4.setCell ⟨ka + 1, 0, none⟩ v0).setCell ⟨ka + 1, 1, none⟩ v1).setCell ⟨ka + 1, 2, none⟩ v2).setCell ⟨ka + 1, 3, none⟩ v3).setCell ⟨ka + 1, 4, none⟩ v4).setCell ⟨ka + 1, 5, none⟩ v5).setCell ⟨ka + 1, 6, none⟩ v6).setCell ⟨ka + 1, 7, none⟩ v7).setCell ⟨ka + 1, 8, none⟩ v8))) (fun k h => by have h' : k = ka + 1 := h; have := unhide Hka; omega) (fun k h => by have := unhide HDl k h; have := unhide Hka; omega))
  have HG := hide (fun v0 v1 v2 v3 v4 v5 v6 v7 v8 => set9 (unhide HNZ) v0 v1 v2 v3 v4 v5 v6 v7 v8)
  clear C2 a2 a4 l0 l1 l2 l3 u0 u1 u2 u3 hp NZ
  go_wp2_with fail
  exact bodyPost_ret (res1_an Tryz.results72 _ rfl (unhide HG _ _ _ _ _ _ _ _ _) rfl) rfl (unhide FF _ _ _ _ _ _ _ _ _)
set_option maxRecDepth 100000 in
set_option maxHeartbeats 2000000 in
theorem shX_any (D0 : MDc ty w dk o cs v l D) (kd : Int) (hkd : kd < 4 ∨ 12 ≤ kd) (a bb cc : Int) (s t : ByteArray) (hT : t.size ≤ maxLen) : Calls Tryz.prog 72 #[.pointer (some ⟨dk, o, none⟩), opX kd a bb cc s t] w (PsP ty w dk o cs v l (shP D kd bb cc s t)) := by
  have o1 : Only (fun _ => False) w ((w.alloc (.cells #[.int .i64 kd, .int .i64 a, .int .i64 bb, .int .i64 cc, .string s, .string t] 44)).alloc (.cells #[.int .i64 0, .int .i64 0, .slice none 0 0, .slice none 0 0, .string ⟨#[]⟩, .slice none 0 0, .int .i64 0, .int .i64 0, .slice none 0 0] 54)) := ((Only.refl _ _).alloc _).alloc _
  have A1 : Has ((w.alloc (.cells #[.int .i64 kd, .int .i64 a, .int .i64 bb, .int .i64 cc, .string s, .string t] 44)).alloc (.cells #[.int .i64 0, .int .i64 0, .slice none 0 0, .slice none 0 0, .string ⟨#[]⟩, .slice none 0 0, .int .i64 0, .int .i64 0, .slice none 0 0] 54)) w.heap.size #[.int .i64 kd, .int .i64 a, .int .i64 bb, .int .i64 cc, .string s, .string t] 44 := (Has.new w _ _).alloc _
  have B1 : Has ((w.alloc (.cells #[.int .i64 kd, .int .i64 a, .int .i64 bb, .int .i64 cc, .string s, .string t] 44)).alloc (.cells #[.int .i64 0, .int .i64 0, .slice none 0 0, .slice none 0 0, .string ⟨#[]⟩, .slice none 0 0, .int .i64 0, .int .i64 0, .slice none 0 0] 54)) (w.heap.size + 1) #[.int .i64 0, .int .i64 0, .slice none 0 0, .slice none 0 0, .string ⟨#[]⟩, .slice none 0 0, .int .i64 0, .int .i64 0, .slice none 0 0] 54 := Has.new' _ _ _ _ (by simp)
  have HD := hide (D0.quiet o1)
  have HDl := hide (show ∀ k, (k = dk ∨ MLm v l k ∨ MLi l k) → k < w.heap.size from fun k h => D0.lt k h)
  have HA := hide A1
  have HB := hide B1
  have HO := hide o1
  have HT := hide hT
  clear D0 o1 A1 B1 hT
  unfold opX
  go_enter Tryz.func72, Tryz.ntmps72
  go_upto_region 1 with fail
  generalize ((w.alloc (.cells #[.int .i64 kd, .int .i64 a, .int .i64 bb, .int .i64 cc, .string s, .string t] 44)).alloc (.cells #[.int .i64 0, .int .i64 0, .slice none 0 0, .slice none 0 0, .string ⟨#[]⟩, .slice none 0 0, .int .i64 0, .int .i64 0, .slice none 0 0] 54)) = w1 at *
  have ka1 := (unhide HA).lt
  have kb1 := (unhide HB).lt
  generalize hka : w.heap.size = ka at *
  have Hka := hide hka
  clear hka
  have a0 : w1.cell? ⟨ka, 0, none⟩ = some (.int .i64 kd) := (unhide HA).cell 0
  have e4 : (kd == 4) = false := ne_intO (by omega)
  have e5 : (kd == 5) = false := ne_intO (by omega)
  have e6 : (kd == 6) = false := ne_intO (by omega)
  have e7 : (kd == 7) = false := ne_intO (by omega)
  have e8 : (kd == 8) = false := ne_intO (by omega)
  have e9 : (kd == 9) = false := ne_intO (by omega)
  have e10 : (kd == 10) = false := ne_intO (by omega)
  have e11 : (kd == 11) = false := ne_intO (by omega)
  have hs : shP D kd bb cc s t = (D, An.z) := by
    unfold shP
    iterate 8 rw [if_neg (by omega)]
  have HP := hide (show PsP ty w1 dk o cs v l (shP D kd bb cc s t) (.returned (.agg (anC AnM.z An.z))) w1 from by rw [hs]; exact ⟨AnM.z, v, l, rfl, AnAt.zero _ 0 0, fun k h => absurd h AnB.z, by rw [set_same (unhide HD).at_]; exact unhide HD, fun k h => .inl h, fun k h => .inl h, fun k h => absurd h AnB.z, Only.refl _ _⟩)
  have HNZ := HB
  clear hs
  have n0 : w1.cell? ⟨ka + 1, 0, none⟩ = some (.int .i64 0) := (unhide HB).cell 0
  have f0 : w1.frozen? ⟨ka + 1, 0, none⟩ = false := (unhide HB).free 0
  have n1 : w1.cell? ⟨ka + 1, 1, none⟩ = some (.int .i64 0) := (unhide HB).cell 1
  have f1 : w1.frozen? ⟨ka + 1, 1, none⟩ = false := (unhide HB).free 1
  have n2 : w1.cell? ⟨ka + 1, 2, none⟩ = some (.slice none 0 0) := (unhide HB).cell 2
  have f2 : w1.frozen? ⟨ka + 1, 2, none⟩ = false := (unhide HB).free 2
  have n3 : w1.cell? ⟨ka + 1, 3, none⟩ = some (.slice none 0 0) := (unhide HB).cell 3
  have f3 : w1.frozen? ⟨ka + 1, 3, none⟩ = false := (unhide HB).free 3
  have n4 : w1.cell? ⟨ka + 1, 4, none⟩ = some (.string ⟨#[]⟩) := (unhide HB).cell 4
  have f4 : w1.frozen? ⟨ka + 1, 4, none⟩ = false := (unhide HB).free 4
  have n5 : w1.cell? ⟨ka + 1, 5, none⟩ = some (.slice none 0 0) := (unhide HB).cell 5
  have f5 : w1.frozen? ⟨ka + 1, 5, none⟩ = false := (unhide HB).free 5
  have n6 : w1.cell? ⟨ka + 1, 6, none⟩ = some (.int .i64 0) := (unhide HB).cell 6
  have f6 : w1.frozen? ⟨ka + 1, 6, none⟩ = false := (unhide HB).free 6
  have n7 : w1.cell? ⟨ka + 1, 7, none⟩ = some (.int .i64 0) := (unhide HB).cell 7
  have f7 : w1.frozen? ⟨ka + 1, 7, none⟩ = false := (unhide HB).free 7
  have n8 : w1.cell? ⟨ka + 1, 8, none⟩ = some (.slice none 0 0) := (unhide HB).cell 8
  have f8 : w1.frozen? ⟨ka + 1, 8, none⟩ = false := (unhide HB).free 8
  have FF := hide (fun v0 v1 v2 v3 v4 v5 v6 v7 v8 => (unhide HP).fin (B := fun b => b = ka + 1) (unhide HO) (only9 _ _ _ _ _ _ _ _ _ _ _ : Only _ _ ((((((((((w1.setCell ⟨ka + 1, 0, none⟩ v0).setCell ⟨ka + 1, 1, none⟩ v1).setCell ⟨ka + 1, 2, none⟩ v2).setCell ⟨ka + 1, 3, none⟩ v3).setCell ⟨ka + 1, 4, none⟩ v4).setCell ⟨ka + 1, 5, none⟩ v5).setCell ⟨ka + 1, 6, none⟩ v6).setCell ⟨ka + 1, 7, none⟩ v7).setCell ⟨ka + 1, 8, none⟩ v8))) (fun k h => by have h' : k = ka + 1 := h; have := unhide Hka; omega) (fun k h => by have := unhide HDl k h; have := unhide Hka; omega))
  have HG := hide (fun v0 v1 v2 v3 v4 v5 v6 v7 v8 => set9 (unhide HNZ) v0 v1 v2 v3 v4 v5 v6 v7 v8)
  go_wp2_with fail
  exact bodyPost_ret (res1_an Tryz.results72 _ rfl (unhide HG _ _ _ _ _ _ _ _ _) rfl) rfl (unhide FF _ _ _ _ _ _ _ _ _)
theorem playShadow_any (D0 : MDc ty w dk o cs v l D) (kd a bb cc : Int) (s t : ByteArray) (hT : t.size ≤ maxLen) : Calls Tryz.prog 72 #[.pointer (some ⟨dk, o, none⟩), opX kd a bb cc s t] w (PsP ty w dk o cs v l (shP D kd bb cc s t)) := by
  by_cases h : kd < 4 ∨ 12 ≤ kd
  · exact shX_any D0 kd h a bb cc s t hT
  · have : kd = 4 ∨ kd = 5 ∨ kd = 6 ∨ kd = 7 ∨ kd = 8 ∨ kd = 9 ∨ kd = 10 ∨ kd = 11 := by omega
    rcases this with rfl | rfl | rfl | rfl | rfl | rfl | rfl | rfl
    · exact sh4_any D0 a bb cc s t hT
    · exact sh5_any D0 a bb cc s t hT
    · exact sh6_any D0 a bb cc s t hT
    · exact sh7_any D0 a bb cc s t hT
    · exact sh8_any D0 a bb cc s t hT
    · exact sh9_any D0 a bb cc s t hT
    · exact sh10_any D0 a bb cc s t hT
    · exact sh11_any D0 a bb cc s t hT
end
end Go.Proofs.Qxb6500414aGreat
