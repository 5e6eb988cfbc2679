/-
  OWN WORK. THE TXN LAW: PlayModel (written by tools/gen_xn4.py).
-/
import Derived.Test.Qxb6500414aGreatXN2
import Derived.Test.Qxb6500414aGreatXL7
namespace Go.Proofs.Qxb6500414aGreat
open Go.RowKit Go.PlainAid
set_option linter.unusedSimpArgs false
set_option linter.unusedVariables false

/-- What PlayModel leaves. -/
def PmP (w : World) (m : Nat) (M : Mu) (U : Db) (H : Nat → Prop) (kd a bb cc : Int) (s t : ByteArray) (e : Ending) (w' : World) : Prop :=
  ∃ an am, e = .returned (.agg (anC am an)) ∧ AnAt w' am an ∧ PmB w m M U H kd a bb cc s t an (AnB am) w'
section
variable {w w0 w1 w' wF : World} {m : Nat} {M : Mu} {U : Db} {hist : Option Db} {H : Nat → Prop} {e : Ending} {kd a bb cc : Int} {s t : ByteArray} {an : An} {am : AnM}
theorem PmP.only (h : PmP w m M U H kd a bb cc s t e w') : Only H w w' := by
  obtain ⟨_, _, _, _, _, _, _, _, _, _, _, h, _⟩ := h
  exact h
theorem PmP.fin {B : Nat → Prop} (h : PmP w1 m M U H kd a bb cc s t e w') (o0 : Only (fun _ => False) w w1) (ho : Only B w' wF) (hB : ∀ k, B k → w.heap.size ≤ k ∧ k < w1.heap.size) (hl : ∀ b, H b → b < w.heap.size) : PmP w m M U H kd a bb cc s t e wF := by
  obtain ⟨an, am, he, hA, M', hist', H', hop, hN, hH, hb, ho1, hh⟩ := h
  have s0 := o0.size
  refine ⟨an, am, he, hA.keep ho (fun k h c => by have := (hb k h).1; have := hB k c; omega), M', hist', H', hop, hN.keep ho (fun b hb' c => ?_), fun b hb' => (hH b hb').imp id (fun c => by omega), fun b c => ⟨by have := (hb b c).1; omega, (hb b c).2⟩, Only.late ((o0.mono (fun _ _ e => e.elim)).trans ho1 (fun _ _ h => h)) ho (fun k h => (hB k h).1), hh⟩
  have := hB b c
  rcases hH b hb' with d | d
  · have := hl b d; omega
  · omega
theorem PmP.quiet (h : PmP w m M U H kd a bb cc s t e w') (o : Only (fun _ => False) w' wF) : PmP w m M U H kd a bb cc s t e wF := by
  obtain ⟨an, am, he, hA, M', hist', H', hop, hN, hH, hb, ho1, hh⟩ := h
  exact ⟨an, am, he, hA.quiet o, M', hist', H', hop, hN.quiet o, hH, hb, ho1.trans (o.mono (T := H) (fun _ _ e => e.elim)) (fun _ _ e => e), hh⟩
theorem PmP.num (h : ∃ z, e = .returned (.int .i64 z) ∧ PmQ w m M U H kd a bb cc s t (anE z) w') : ∃ z, e = .returned (.int .i64 z) ∧ PmP w m M U H kd a bb cc s t (.returned (.agg (anC AnM.z (anE z)))) w' := by
  obtain ⟨z, he, hq⟩ := h
  exact ⟨z, he, anE z, AnM.z, rfl, AnAt.zero _ _ _, hq.b⟩
theorem PmP.obs (h : NX w m M U none H) (hop : MuOp M a bb cc s t kd M an) (hA : AnAt w am an) (hb : ∀ b, AnB am b → w.heap.size ≤ b) : PmP w m M U H kd a bb cc s t (.returned (.agg (anC am an))) w :=
  ⟨an, am, rfl, hA, M, none, H, hop, h, fun b hb => .inl hb, fun b c => ⟨hb b c, fun d => (by have := hb b c; have := h.lt b d; omega)⟩, Only.refl _ _, .inl ⟨rfl, rfl⟩⟩
theorem PmP.obs' (h : NX w m M U none H) (o : Only (fun _ => False) w w') (hop : MuOp M a bb cc s t kd M an) (hA : AnAt w' am an) (hb : ∀ b, AnB am b → w.heap.size ≤ b) : PmP w m M U H kd a bb cc s t (.returned (.agg (anC am an))) w' :=
  ⟨an, am, rfl, hA, M, none, H, hop, h.quiet o, fun b hb => .inl hb, fun b c => ⟨hb b c, fun d => (by have := hb b c; have := h.lt b d; omega)⟩, o.mono (fun _ _ e => e.elim), .inl ⟨rfl, rfl⟩⟩
theorem PmB.sub {B B' : Nat → Prop} (h : PmB w m M U H kd a bb cc s t an B w') (hB : ∀ b, B' b → B b) : PmB w m M U H kd a bb cc s t an B' w' := by
  obtain ⟨M', hist', H', h1, h2, h3, hb, h4, h5⟩ := h
  exact ⟨M', hist', H', h1, h2, h3, fun b c => hb b (hB b c), h4, h5⟩
theorem PmP.row (h : NlP w m M U H a bb cc s t e w') : ∃ ra rn rc z, e = .returned (.tuple #[.slice ra rn rc, .int .i64 z]) ∧ PmP w m M U H 10 a bb cc s t (.returned (.agg #[.int .i64 z, .int .i64 0, .slice ra rn rc, .slice none 0 0, .string ⟨#[]⟩, .slice none 0 0, .int .i64 0, .int .i64 0, .slice none 0 0])) w' := by
  obtain ⟨ra, rn, rc, z, row, hx, hO, hl, hB⟩ := h
  refine ⟨ra, rn, rc, z, hx, { An.z with e := z, row := row }, ⟨.slice ra rn rc, .slice none 0 0, [], .slice none 0 0, .slice none 0 0⟩, rfl, ⟨hO, World.ownsRow_nil _ _ _ _, (fun y h => by cases h), rfl, OwnC.nil _, World.ownsRow_nil _ _ _ _, ⟨hl, by simp [An.z], by simp [An.z], by simp [An.z], by simp [An.z]⟩⟩, hB.sub (fun k h => ?_)⟩
  rcases h with h | h | ⟨y, hy, _⟩ | h | h
  · exact h
  · cases h
  · cases hy
  · cases h
  · cases h
theorem PmP.scn (h : NsP kd w m M U H a bb cc s t e w') : ∃ ra rn rc z, e = .returned (.tuple #[.slice ra rn rc, .int .i64 z]) ∧ PmP w m M U H kd a bb cc s t (.returned (.agg #[.int .i64 z, .int .i64 0, .slice none 0 0, .slice ra rn rc, .string ⟨#[]⟩, .slice none 0 0, .int .i64 0, .int .i64 0, .slice none 0 0])) w' := by
  obtain ⟨ra, rn, rc, z, Z, hx, own, hr, h1, h2, hB⟩ := h
  refine ⟨ra, rn, rc, z, hx, { An.z with e := z, rows := Z.map (·.2) }, ⟨.slice none 0 0, .slice ra rn rc, Z, .slice none 0 0, .slice none 0 0⟩, rfl, ⟨OwnV.nil _, own, hr, rfl, OwnC.nil _, World.ownsRow_nil _ _ _ _, ⟨by simp [An.z], by simpa using h1, fun r hr' => ?_, by simp [An.z], by simp [An.z]⟩⟩, hB.sub (fun k h => ?_)⟩
  · obtain ⟨y, hy, rfl⟩ := List.mem_map.mp hr'
    exact h2 y hy
  · rcases h with h | h | ⟨y, hy, h⟩ | h | h
    · cases h
    · exact .inl h
    · exact .inr ⟨y, hy, h⟩
    · cases h
    · cases h
theorem anS_sch (D : Db) (nm : ByteArray) : anS D nm = { An.z with e := (schD D nm).z, nm := (schD D nm).nm, cols := (schD D nm).cols, pk := (schD D nm).pk, ix := (schD D nm).ix } := by
  unfold anS schD
  cases findD D nm <;> rfl
theorem schD_len {D : Db} (G : DGd D) (nm : ByteArray) : (schD D nm).cols.length ≤ 1000 := by
  unfold schD
  cases hf : findD D nm with
  | none => simp
  | some t =>
    have := (G.tb t (findD_mem hf).1).n3
    simp only
    omega
theorem PmP.sch (h : NX w m M U none H) (ok : MuOk M) (hp : SgP w (schD M.com s) e w') : ∃ (x0 : ByteArray) (x1 : Option Addr) (x1n x1c : Nat) (x2 x3 z : Int), e = .returned (.tuple #[.agg #[.string x0, .slice x1 x1n x1c, .int .i64 x2, .int .i64 x3], .int .i64 z]) ∧ PmP w m M U H 15 a bb cc s t (.returned (.agg #[.int .i64 z, .int .i64 0, .slice none 0 0, .slice none 0 0, .string x0, .slice x1 x1n x1c, .int .i64 x2, .int .i64 x3, .slice none 0 0])) w' := by
  obtain ⟨cv, rfl, hO, hN, o⟩ := hp
  obtain ⟨ca, cc', rfl⟩ := hO.shape
  refine ⟨_, ca, _, cc', _, _, _, rfl, ?_⟩
  have hop := MuOp.sch (M := M) (a := a) (bb := bb) (cc := cc) (s := s) (t := t)
  rw [anS_sch] at hop
  refine PmP.obs' (am := ⟨.slice none 0 0, .slice none 0 0, [], .slice ca _ cc', .slice none 0 0⟩) h o hop ⟨OwnV.nil _, World.ownsRow_nil _ _ _ _, (fun y h => by cases h), rfl, hO, World.ownsRow_nil _ _ _ _, ⟨by simp [An.z], by simp [An.z], by simp [An.z], schD_len ok.g s, by simp [An.z]⟩⟩ (fun b hb => ?_)
  rcases hb with h | h | ⟨y, hy, _⟩ | h | h
  · cases h
  · cases h
  · cases hy
  · exact hN b h
  · cases h
theorem PmP.nms (h : NX w m M U none H) (ok : MuOk M) (hp : NmP w (namesD M.com) e w') : ∃ va vn vc, e = .returned (.slice va vn vc) ∧ PmP w m M U H 16 a bb cc s t (.returned (.agg #[.int .i64 0, .int .i64 0, .slice none 0 0, .slice none 0 0, .string ⟨#[]⟩, .slice none 0 0, .int .i64 0, .int .i64 0, .slice va vn vc])) w' := by
  obtain ⟨nv, rfl, hG⟩ := hp
  obtain ⟨va, vc, rfl⟩ := ownsRow_shape hG.own
  refine ⟨va, _, vc, rfl, PmP.obs' (an := { An.z with names := namesD M.com }) (am := ⟨.slice none 0 0, .slice none 0 0, [], .slice none 0 0, .slice va _ vc⟩) h hG.ho .tab ⟨OwnV.nil _, World.ownsRow_nil _ _ _ _, (fun y h => by cases h), rfl, OwnC.nil _, hG.own, ⟨by simp [An.z], by simp [An.z], by simp [An.z], by simp [An.z], ?_⟩⟩ (fun b hb => ?_)⟩
  · unfold namesD
    rw [List.length_map]
    have := ok.g.len
    omega
  · rcases hb with h | h | ⟨y, hy, _⟩ | h | h
    · cases h
    · cases h
    · cases hy
    · cases h
    · exact hG.hb b h
set_option maxRecDepth 100000 in
set_option maxHeartbeats 2000000 in
theorem pm1_any (D0 : NX w m M U none H) (ok : MuOk M) (a bb cc : Int) (s t : ByteArray) (hT : t.size ≤ maxLen) : Calls Tryz.prog 30 #[.pointer (some ⟨m, 0, none⟩), opX 1 a bb cc s t] w (PmP w m M U H 1 a bb cc s t) := by
  have o1 : Only (fun _ => False) w ((w.alloc (.cells #[.int .i64 1, .int .i64 a, .int .i64 bb, .int .i64 cc, .string s, .string t] 44)).alloc (.cells #[.int .i64 0, .int .i64 0, .slice none 0 0, .slice none 0 0, .string ⟨#[]⟩, .slice none 0 0, .int .i64 0, .int .i64 0, .slice none 0 0] 54)) := ((Only.refl _ _).alloc _).alloc _
  have A1 : Has ((w.alloc (.cells #[.int .i64 1, .int .i64 a, .int .i64 bb, .int .i64 cc, .string s, .string t] 44)).alloc (.cells #[.int .i64 0, .int .i64 0, .slice none 0 0, .slice none 0 0, .string ⟨#[]⟩, .slice none 0 0, .int .i64 0, .int .i64 0, .slice none 0 0] 54)) w.heap.size #[.int .i64 1, .int .i64 a, .int .i64 bb, .int .i64 cc, .string s, .string t] 44 := (Has.new w _ _).alloc _
  have B1 : Has ((w.alloc (.cells #[.int .i64 1, .int .i64 a, .int .i64 bb, .int .i64 cc, .string s, .string t] 44)).alloc (.cells #[.int .i64 0, .int .i64 0, .slice none 0 0, .slice none 0 0, .string ⟨#[]⟩, .slice none 0 0, .int .i64 0, .int .i64 0, .slice none 0 0] 54)) (w.heap.size + 1) #[.int .i64 0, .int .i64 0, .slice none 0 0, .slice none 0 0, .string ⟨#[]⟩, .slice none 0 0, .int .i64 0, .int .i64 0, .slice none 0 0] 54 := Has.new' _ _ _ _ (by simp)
  have HD := hide (D0.quiet o1)
  have HDl := hide (show ∀ b, H b → b < w.heap.size from D0.lt)
  have HOK := hide ok
  have HA := hide A1
  have HB := hide B1
  have HO := hide o1
  have HT := hide hT
  clear D0 o1 A1 B1 hT ok
  unfold opX
  go_enter Tryz.func30, Tryz.ntmps30
  go_upto_region 1 with fail
  generalize ((w.alloc (.cells #[.int .i64 1, .int .i64 a, .int .i64 bb, .int .i64 cc, .string s, .string t] 44)).alloc (.cells #[.int .i64 0, .int .i64 0, .slice none 0 0, .slice none 0 0, .string ⟨#[]⟩, .slice none 0 0, .int .i64 0, .int .i64 0, .slice none 0 0] 54)) = w1 at *
  have ka1 := (unhide HA).lt
  have kb1 := (unhide HB).lt
  generalize hka : w.heap.size = ka at *
  have Hka := hide hka
  clear hka
  have a0 : w1.cell? ⟨ka, 0, none⟩ = some (.int .i64 1) := (unhide HA).cell 0
  have a1 : w1.cell? ⟨ka, 1, none⟩ = some (.int .i64 a) := (unhide HA).cell 1
  have HBx := HB
  have C1 := hide ((n1_any (unhide HD) a bb cc s t).mono (fun e w' h => PmP.num h))
  go_wp2_with fail
  refine (unhide C1).mono ?_
  rintro e w2 ⟨z, rfl, hp⟩
  have NZ := (unhide HBx).keep hp.only (fun c => by have := unhide HDl (ka + 1) c; omega)
  have HNZ := hide NZ
  have kz := NZ.lt
  have n0 : w2.cell? ⟨ka + 1, 0, none⟩ = some (.int .i64 0) := NZ.cell 0
  have f0 : w2.frozen? ⟨ka + 1, 0, none⟩ = false := NZ.free 0
  have n1 : w2.cell? ⟨ka + 1, 1, none⟩ = some (.int .i64 0) := NZ.cell 1
  have f1 : w2.frozen? ⟨ka + 1, 1, none⟩ = false := NZ.free 1
  have n2 : w2.cell? ⟨ka + 1, 2, none⟩ = some (.slice none 0 0) := NZ.cell 2
  have f2 : w2.frozen? ⟨ka + 1, 2, none⟩ = false := NZ.free 2
  have n3 : w2.cell? ⟨ka + 1, 3, none⟩ = some (.slice none 0 0) := NZ.cell 3
  have f3 : w2.frozen? ⟨ka + 1, 3, none⟩ = false := NZ.free 3
  have n4 : w2.cell? ⟨ka + 1, 4, none⟩ = some (.string ⟨#[]⟩) := NZ.cell 4
  have f4 : w2.frozen? ⟨ka + 1, 4, none⟩ = false := NZ.free 4
  have n5 : w2.cell? ⟨ka + 1, 5, none⟩ = some (.slice none 0 0) := NZ.cell 5
  have f5 : w2.frozen? ⟨ka + 1, 5, none⟩ = false := NZ.free 5
  have n6 : w2.cell? ⟨ka + 1, 6, none⟩ = some (.int .i64 0) := NZ.cell 6
  have f6 : w2.frozen? ⟨ka + 1, 6, none⟩ = false := NZ.free 6
  have n7 : w2.cell? ⟨ka + 1, 7, none⟩ = some (.int .i64 0) := NZ.cell 7
  have f7 : w2.frozen? ⟨ka + 1, 7, none⟩ = false := NZ.free 7
  have n8 : w2.cell? ⟨ka + 1, 8, none⟩ = some (.slice none 0 0) := NZ.cell 8
  have f8 : w2.frozen? ⟨ka + 1, 8, none⟩ = false := NZ.free 8
  have HP := hide hp
  have FF := hide (fun v0 v1 v2 v3 v4 v5 v6 v7 v8 => (unhide HP).fin (B := fun b => b = ka + 1) (unhide HO) (only9 _ _ _ _ _ _ _ _ _ _ _ : Only _ _ ((((((((((w2.setCell ⟨ka + 1, 0, none⟩ v0).setCell ⟨ka + 1, 1, none⟩ v1).setCell ⟨ka + 1, 2, none⟩ v2).setCell ⟨ka + 1, 3, none⟩ v3).setCell ⟨ka + 1, 4, none⟩ v4).setCell ⟨ka + 1, 5, none⟩ v5).setCell ⟨ka + 1, 6, none⟩ v6).setCell ⟨ka + 1, 7, none⟩ v7).setCell ⟨ka + 1, 8, none⟩ v8))) (fun k h => by have h' : k = ka + 1 := h; have := unhide Hka; omega) (fun k h => by have := unhide HDl k h; have := unhide Hka; omega))
  have HG := hide (fun v0 v1 v2 v3 v4 v5 v6 v7 v8 => set9 (unhide HNZ) v0 v1 v2 v3 v4 v5 v6 v7 v8)
  clear C1 a0 a1 hp NZ
  go_wp2_with fail
  exact bodyPost_ret (res1_an Tryz.results30 _ rfl (unhide HG _ _ _ _ _ _ _ _ _) rfl) rfl (unhide FF _ _ _ _ _ _ _ _ _)
set_option maxRecDepth 100000 in
set_option maxHeartbeats 2000000 in
theorem pm2_any (D0 : NX w m M U none H) (ok : MuOk M) (a bb cc : Int) (s t : ByteArray) (hT : t.size ≤ maxLen) : Calls Tryz.prog 30 #[.pointer (some ⟨m, 0, none⟩), opX 2 a bb cc s t] w (PmP w m M U H 2 a bb cc s t) := by
  have o1 : Only (fun _ => False) w ((w.alloc (.cells #[.int .i64 2, .int .i64 a, .int .i64 bb, .int .i64 cc, .string s, .string t] 44)).alloc (.cells #[.int .i64 0, .int .i64 0, .slice none 0 0, .slice none 0 0, .string ⟨#[]⟩, .slice none 0 0, .int .i64 0, .int .i64 0, .slice none 0 0] 54)) := ((Only.refl _ _).alloc _).alloc _
  have A1 : Has ((w.alloc (.cells #[.int .i64 2, .int .i64 a, .int .i64 bb, .int .i64 cc, .string s, .string t] 44)).alloc (.cells #[.int .i64 0, .int .i64 0, .slice none 0 0, .slice none 0 0, .string ⟨#[]⟩, .slice none 0 0, .int .i64 0, .int .i64 0, .slice none 0 0] 54)) w.heap.size #[.int .i64 2, .int .i64 a, .int .i64 bb, .int .i64 cc, .string s, .string t] 44 := (Has.new w _ _).alloc _
  have B1 : Has ((w.alloc (.cells #[.int .i64 2, .int .i64 a, .int .i64 bb, .int .i64 cc, .string s, .string t] 44)).alloc (.cells #[.int .i64 0, .int .i64 0, .slice none 0 0, .slice none 0 0, .string ⟨#[]⟩, .slice none 0 0, .int .i64 0, .int .i64 0, .slice none 0 0] 54)) (w.heap.size + 1) #[.int .i64 0, .int .i64 0, .slice none 0 0, .slice none 0 0, .string ⟨#[]⟩, .slice none 0 0, .int .i64 0, .int .i64 0, .slice none 0 0] 54 := Has.new' _ _ _ _ (by simp)
  have HD := hide (D0.quiet o1)
  have HDl := hide (show ∀ b, H b → b < w.heap.size from D0.lt)
  have HOK := hide ok
  have HA := hide A1
  have HB := hide B1
  have HO := hide o1
  have HT := hide hT
  clear D0 o1 A1 B1 hT ok
  unfold opX
  go_enter Tryz.func30, Tryz.ntmps30
  go_upto_region 1 with fail
  generalize ((w.alloc (.cells #[.int .i64 2, .int .i64 a, .int .i64 bb, .int .i64 cc, .string s, .string t] 44)).alloc (.cells #[.int .i64 0, .int .i64 0, .slice none 0 0, .slice none 0 0, .string ⟨#[]⟩, .slice none 0 0, .int .i64 0, .int .i64 0, .slice none 0 0] 54)) = w1 at *
  have ka1 := (unhide HA).lt
  have kb1 := (unhide HB).lt
  generalize hka : w.heap.size = ka at *
  have Hka := hide hka
  clear hka
  have a0 : w1.cell? ⟨ka, 0, none⟩ = some (.int .i64 2) := (unhide HA).cell 0
  have a1 : w1.cell? ⟨ka, 1, none⟩ = some (.int .i64 a) := (unhide HA).cell 1
  have HBx := HB
  have C1 := hide ((n2_any (unhide HD) (unhide HOK) a bb cc s t).mono (fun e w' h => PmP.num h))
  go_wp2_with fail
  refine (unhide C1).mono ?_
  rintro e w2 ⟨z, rfl, hp⟩
  have NZ := (unhide HBx).keep hp.only (fun c => by have := unhide HDl (ka + 1) c; omega)
  have HNZ := hide NZ
  have kz := NZ.lt
  have n0 : w2.cell? ⟨ka + 1, 0, none⟩ = some (.int .i64 0) := NZ.cell 0
  have f0 : w2.frozen? ⟨ka + 1, 0, none⟩ = false := NZ.free 0
  have n1 : w2.cell? ⟨ka + 1, 1, none⟩ = some (.int .i64 0) := NZ.cell 1
  have f1 : w2.frozen? ⟨ka + 1, 1, none⟩ = false := NZ.free 1
  have n2 : w2.cell? ⟨ka + 1, 2, none⟩ = some (.slice none 0 0) := NZ.cell 2
  have f2 : w2.frozen? ⟨ka + 1, 2, none⟩ = false := NZ.free 2
  have n3 : w2.cell? ⟨ka + 1, 3, none⟩ = some (.slice none 0 0) := NZ.cell 3
  have f3 : w2.frozen? ⟨ka + 1, 3, none⟩ = false := NZ.free 3
  have n4 : w2.cell? ⟨ka + 1, 4, none⟩ = some (.string ⟨#[]⟩) := NZ.cell 4
  have f4 : w2.frozen? ⟨ka + 1, 4, none⟩ = false := NZ.free 4
  have n5 : w2.cell? ⟨ka + 1, 5, none⟩ = some (.slice none 0 0) := NZ.cell 5
  have f5 : w2.frozen? ⟨ka + 1, 5, none⟩ = false := NZ.free 5
  have n6 : w2.cell? ⟨ka + 1, 6, none⟩ = some (.int .i64 0) := NZ.cell 6
  have f6 : w2.frozen? ⟨ka + 1, 6, none⟩ = false := NZ.free 6
  have n7 : w2.cell? ⟨ka + 1, 7, none⟩ = some (.int .i64 0) := NZ.cell 7
  have f7 : w2.frozen? ⟨ka + 1, 7, none⟩ = false := NZ.free 7
  have n8 : w2.cell? ⟨ka + 1, 8, none⟩ = some (.slice none 0 0) := NZ.cell 8
  have f8 : w2.frozen? ⟨ka + 1, 8, none⟩ = false := NZ.free 8
  have HP := hide hp
  have FF := hide (fun v0 v1 v2 v3 v4 v5 v6 v7 v8 => (unhide HP).fin (B := fun b => b = ka + 1) (unhide HO) (only9 _ _ _ _ _ _ _ _ _ _ _ : Only _ _ ((((((((((w2.setCell ⟨ka + 1, 0, none⟩ v0).setCell ⟨ka + 1, 1, none⟩ v1).setCell ⟨ka + 1, 2, none⟩ v2).setCell ⟨ka + 1, 3, none⟩ v3).setCell ⟨ka + 1, 4, none⟩ v4).setCell ⟨ka + 1, 5, none⟩ v5).setCell ⟨ka + 1, 6, none⟩ v6).setCell ⟨ka + 1, 7, none⟩ v7).setCell ⟨ka + 1, 8, none⟩ v8))) (fun k h => by have h' : k = ka + 1 := h; have := unhide Hka; omega) (fun k h => by have := unhide HDl k h; have := unhide Hka; omega))
  have HG := hide (fun v0 v1 v2 v3 v4 v5 v6 v7 v8 => set9 (unhide HNZ) v0 v1 v2 v3 v4 v5 v6 v7 v8)
  clear C1 a0 a1 hp NZ
  go_wp2_with fail
  exact bodyPost_ret (res1_an Tryz.results30 _ rfl (unhide HG _ _ _ _ _ _ _ _ _) rfl) rfl (unhide FF _ _ _ _ _ _ _ _ _)
set_option maxRecDepth 100000 in
set_option maxHeartbeats 2000000 in
theorem pm3_any (D0 : NX w m M U none H) (ok : MuOk M) (a bb cc : Int) (s t : ByteArray) (hT : t.size ≤ maxLen) : Calls Tryz.prog 30 #[.pointer (some ⟨m, 0, none⟩), opX 3 a bb cc s t] w (PmP w m M U H 3 a bb cc s t) := by
  have o1 : Only (fun _ => False) w ((w.alloc (.cells #[.int .i64 3, .int .i64 a, .int .i64 bb, .int .i64 cc, .string s, .string t] 44)).alloc (.cells #[.int .i64 0, .int .i64 0, .slice none 0 0, .slice none 0 0, .string ⟨#[]⟩, .slice none 0 0, .int .i64 0, .int .i64 0, .slice none 0 0] 54)) := ((Only.refl _ _).alloc _).alloc _
  have A1 : Has ((w.alloc (.cells #[.int .i64 3, .int .i64 a, .int .i64 bb, .int .i64 cc, .string s, .string t] 44)).alloc (.cells #[.int .i64 0, .int .i64 0, .slice none 0 0, .slice none 0 0, .string ⟨#[]⟩, .slice none 0 0, .int .i64 0, .int .i64 0, .slice none 0 0] 54)) w.heap.size #[.int .i64 3, .int .i64 a, .int .i64 bb, .int .i64 cc, .string s, .string t] 44 := (Has.new w _ _).alloc _
  have B1 : Has ((w.alloc (.cells #[.int .i64 3, .int .i64 a, .int .i64 bb, .int .i64 cc, .string s, .string t] 44)).alloc (.cells #[.int .i64 0, .int .i64 0, .slice none 0 0, .slice none 0 0, .string ⟨#[]⟩, .slice none 0 0, .int .i64 0, .int .i64 0, .slice none 0 0] 54)) (w.heap.size + 1) #[.int .i64 0, .int .i64 0, .slice none 0 0, .slice none 0 0, .string ⟨#[]⟩, .slice none 0 0, .int .i64 0, .int .i64 0, .slice none 0 0] 54 := Has.new' _ _ _ _ (by simp)
  have HD := hide (D0.quiet o1)
  have HDl := hide (show ∀ b, H b → b < w.heap.size from D0.lt)
  have HOK := hide ok
  have HA := hide A1
  have HB := hide B1
  have HO := hide o1
  have HT := hide hT
  clear D0 o1 A1 B1 hT ok
  unfold opX
  go_enter Tryz.func30, Tryz.ntmps30
  go_upto_region 1 with fail
  generalize ((w.alloc (.cells #[.int .i64 3, .int .i64 a, .int .i64 bb, .int .i64 cc, .string s, .string t] 44)).alloc (.cells #[.int .i64 0, .int .i64 0, .slice none 0 0, .slice none 0 0, .string ⟨#[]⟩, .slice none 0 0, .int .i64 0, .int .i64 0, .slice none 0 0] 54)) = w1 at *
  have ka1 := (unhide HA).lt
  have kb1 := (unhide HB).lt
  generalize hka : w.heap.size = ka at *
  have Hka := hide hka
  clear hka
  have a0 : w1.cell? ⟨ka, 0, none⟩ = some (.int .i64 3) := (unhide HA).cell 0
  have a1 : w1.cell? ⟨ka, 1, none⟩ = some (.int .i64 a) := (unhide HA).cell 1
  have HBx := HB
  have C1 := hide ((n3_any (unhide HD) a bb cc s t).mono (fun e w' h => PmP.num h))
  go_wp2_with fail
  refine (unhide C1).mono ?_
  rintro e w2 ⟨z, rfl, hp⟩
  have NZ := (unhide HBx).keep hp.only (fun c => by have := unhide HDl (ka + 1) c; omega)
  have HNZ := hide NZ
  have kz := NZ.lt
  have n0 : w2.cell? ⟨ka + 1, 0, none⟩ = some (.int .i64 0) := NZ.cell 0
  have f0 : w2.frozen? ⟨ka + 1, 0, none⟩ = false := NZ.free 0
  have n1 : w2.cell? ⟨ka + 1, 1, none⟩ = some (.int .i64 0) := NZ.cell 1
  have f1 : w2.frozen? ⟨ka + 1, 1, none⟩ = false := NZ.free 1
  have n2 : w2.cell? ⟨ka + 1, 2, none⟩ = some (.slice none 0 0) := NZ.cell 2
  have f2 : w2.frozen? ⟨ka + 1, 2, none⟩ = false := NZ.free 2
  have n3 : w2.cell? ⟨ka + 1, 3, none⟩ = some (.slice none 0 0) := NZ.cell 3
  have f3 : w2.frozen? ⟨ka + 1, 3, none⟩ = false := NZ.free 3
  have n4 : w2.cell? ⟨ka + 1, 4, none⟩ = some (.string ⟨#[]⟩) := NZ.cell 4
  have f4 : w2.frozen? ⟨ka + 1, 4, none⟩ = false := NZ.free 4
  have n5 : w2.cell? ⟨ka + 1, 5, none⟩ = some (.slice none 0 0) := NZ.cell 5
  have f5 : w2.frozen? ⟨ka + 1, 5, none⟩ = false := NZ.free 5
  have n6 : w2.cell? ⟨ka + 1, 6, none⟩ = some (.int .i64 0) := NZ.cell 6
  have f6 : w2.frozen? ⟨ka + 1, 6, none⟩ = false := NZ.free 6
  have n7 : w2.cell? ⟨ka + 1, 7, none⟩ = some (.int .i64 0) := NZ.cell 7
  have f7 : w2.frozen? ⟨ka + 1, 7, none⟩ = false := NZ.free 7
  have n8 : w2.cell? ⟨ka + 1, 8, none⟩ = some (.slice none 0 0) := NZ.cell 8
  have f8 : w2.frozen? ⟨ka + 1, 8, none⟩ = false := NZ.free 8
  have HP := hide hp
  have FF := hide (fun v0 v1 v2 v3 v4 v5 v6 v7 v8 => (unhide HP).fin (B := fun b => b = ka + 1) (unhide HO) (only9 _ _ _ _ _ _ _ _ _ _ _ : Only _ _ ((((((((((w2.setCell ⟨ka + 1, 0, none⟩ v0).setCell ⟨ka + 1, 1, none⟩ v1).setCell ⟨ka + 1, 2, none⟩ v2).setCell ⟨ka + 1, 3, none⟩ v3).setCell ⟨ka + 1, 4, none⟩ v4).setCell ⟨ka + 1, 5, none⟩ v5).setCell ⟨ka + 1, 6, none⟩ v6).setCell ⟨ka + 1, 7, none⟩ v7).setCell ⟨ka + 1, 8, none⟩ v8))) (fun k h => by have h' : k = ka + 1 := h; have := unhide Hka; omega) (fun k h => by have := unhide HDl k h; have := unhide Hka; omega))
  have HG := hide (fun v0 v1 v2 v3 v4 v5 v6 v7 v8 => set9 (unhide HNZ) v0 v1 v2 v3 v4 v5 v6 v7 v8)
  clear C1 a0 a1 hp NZ
  go_wp2_with fail
  exact bodyPost_ret (res1_an Tryz.results30 _ rfl (unhide HG _ _ _ _ _ _ _ _ _) rfl) rfl (unhide FF _ _ _ _ _ _ _ _ _)
set_option maxRecDepth 100000 in
set_option maxHeartbeats 2000000 in
theorem pm5_any (D0 : NX w m M U none H) (ok : MuOk M) (a bb cc : Int) (s t : ByteArray) (hT : t.size ≤ maxLen) : Calls Tryz.prog 30 #[.pointer (some ⟨m, 0, none⟩), opX 5 a bb cc s t] w (PmP w m M U H 5 a bb cc s t) := by
  have o1 : Only (fun _ => False) w ((w.alloc (.cells #[.int .i64 5, .int .i64 a, .int .i64 bb, .int .i64 cc, .string s, .string t] 44)).alloc (.cells #[.int .i64 0, .int .i64 0, .slice none 0 0, .slice none 0 0, .string ⟨#[]⟩, .slice none 0 0, .int .i64 0, .int .i64 0, .slice none 0 0] 54)) := ((Only.refl _ _).alloc _).alloc _
  have A1 : Has ((w.alloc (.cells #[.int .i64 5, .int .i64 a, .int .i64 bb, .int .i64 cc, .string s, .string t] 44)).alloc (.cells #[.int .i64 0, .int .i64 0, .slice none 0 0, .slice none 0 0, .string ⟨#[]⟩, .slice none 0 0, .int .i64 0, .int .i64 0, .slice none 0 0] 54)) w.heap.size #[.int .i64 5, .int .i64 a, .int .i64 bb, .int .i64 cc, .string s, .string t] 44 := (Has.new w _ _).alloc _
  have B1 : Has ((w.alloc (.cells #[.int .i64 5, .int .i64 a, .int .i64 bb, .int .i64 cc, .string s, .string t] 44)).alloc (.cells #[.int .i64 0, .int .i64 0, .slice none 0 0, .slice none 0 0, .string ⟨#[]⟩, .slice none 0 0, .int .i64 0, .int .i64 0, .slice none 0 0] 54)) (w.heap.size + 1) #[.int .i64 0, .int .i64 0, .slice none 0 0, .slice none 0 0, .string ⟨#[]⟩, .slice none 0 0, .int .i64 0, .int .i64 0, .slice none 0 0] 54 := Has.new' _ _ _ _ (by simp)
  have HD := hide (D0.quiet o1)
  have HDl := hide (show ∀ b, H b → b < w.heap.size from D0.lt)
  have HOK := hide ok
  have HA := hide A1
  have HB := hide B1
  have HO := hide o1
  have HT := hide hT
  clear D0 o1 A1 B1 hT ok
  unfold opX
  go_enter Tryz.func30, Tryz.ntmps30
  go_upto_region 1 with fail
  generalize ((w.alloc (.cells #[.int .i64 5, .int .i64 a, .int .i64 bb, .int .i64 cc, .string s, .string t] 44)).alloc (.cells #[.int .i64 0, .int .i64 0, .slice none 0 0, .slice none 0 0, .string ⟨#[]⟩, .slice none 0 0, .int .i64 0, .int .i64 0, .slice none 0 0] 54)) = w1 at *
  have ka1 := (unhide HA).lt
  have kb1 := (unhide HB).lt
  generalize hka : w.heap.size = ka at *
  have Hka := hide hka
  clear hka
  have a0 : w1.cell? ⟨ka, 0, none⟩ = some (.int .i64 5) := (unhide HA).cell 0
  have a1 : w1.cell? ⟨ka, 1, none⟩ = some (.int .i64 a) := (unhide HA).cell 1
  have a4 : w1.cell? ⟨ka, 4, none⟩ = some (.string s) := (unhide HA).cell 4
  have HBx := HB
  have C1 := hide ((n5_any (unhide HD) a bb cc s t).mono (fun e w' h => PmP.num h))
  go_wp2_with fail
  refine (unhide C1).mono ?_
  rintro e w2 ⟨z, rfl, hp⟩
  have NZ := (unhide HBx).keep hp.only (fun c => by have := unhide HDl (ka + 1) c; omega)
  have HNZ := hide NZ
  have kz := NZ.lt
  have n0 : w2.cell? ⟨ka + 1, 0, none⟩ = some (.int .i64 0) := NZ.cell 0
  have f0 : w2.frozen? ⟨ka + 1, 0, none⟩ = false := NZ.free 0
  have n1 : w2.cell? ⟨ka + 1, 1, none⟩ = some (.int .i64 0) := NZ.cell 1
  have f1 : w2.frozen? ⟨ka + 1, 1, none⟩ = false := NZ.free 1
  have n2 : w2.cell? ⟨ka + 1, 2, none⟩ = some (.slice none 0 0) := NZ.cell 2
  have f2 : w2.frozen? ⟨ka + 1, 2, none⟩ = false := NZ.free 2
  have n3 : w2.cell? ⟨ka + 1, 3, none⟩ = some (.slice none 0 0) := NZ.cell 3
  have f3 : w2.frozen? ⟨ka + 1, 3, none⟩ = false := NZ.free 3
  have n4 : w2.cell? ⟨ka + 1, 4, none⟩ = some (.string ⟨#[]⟩) := NZ.cell 4
  have f4 : w2.frozen? ⟨ka + 1, 4, none⟩ = false := NZ.free 4
  have n5 : w2.cell? ⟨ka + 1, 5, none⟩ = some (.slice none 0 0) := NZ.cell 5
  have f5 : w2.frozen? ⟨ka + 1, 5, none⟩ = false := NZ.free 5
  have n6 : w2.cell? ⟨ka + 1, 6, none⟩ = some (.int .i64 0) := NZ.cell 6
  have f6 : w2.frozen? ⟨ka + 1, 6, none⟩ = false := NZ.free 6
  have n7 : w2.cell? ⟨ka + 1, 7, none⟩ = some (.int .i64 0) := NZ.cell 7
  have f7 : w2.frozen? ⟨ka + 1, 7, none⟩ = false := NZ.free 7
  have n8 : w2.cell? ⟨ka + 1, 8, none⟩ = some (.slice none 0 0) := NZ.cell 8
  have f8 : w2.frozen? ⟨ka + 1, 8, none⟩ = false := NZ.free 8
  have HP := hide hp
  have FF := hide (fun v0 v1 v2 v3 v4 v5 v6 v7 v8 => (unhide HP).fin (B := fun b => b = ka + 1) (unhide HO) (only9 _ _ _ _ _ _ _ _ _ _ _ : Only _ _ ((((((((((w2.setCell ⟨ka + 1, 0, none⟩ v0).setCell ⟨ka + 1, 1, none⟩ v1).setCell ⟨ka + 1, 2, none⟩ v2).setCell ⟨ka + 1, 3, none⟩ v3).setCell ⟨ka + 1, 4, none⟩ v4).setCell ⟨ka + 1, 5, none⟩ v5).setCell ⟨ka + 1, 6, none⟩ v6).setCell ⟨ka + 1, 7, none⟩ v7).setCell ⟨ka + 1, 8, none⟩ v8))) (fun k h => by have h' : k = ka + 1 := h; have := unhide Hka; omega) (fun k h => by have := unhide HDl k h; have := unhide Hka; omega))
  have HG := hide (fun v0 v1 v2 v3 v4 v5 v6 v7 v8 => set9 (unhide HNZ) v0 v1 v2 v3 v4 v5 v6 v7 v8)
  clear C1 a0 a1 a4 hp NZ
  go_wp2_with fail
  exact bodyPost_ret (res1_an Tryz.results30 _ rfl (unhide HG _ _ _ _ _ _ _ _ _) rfl) rfl (unhide FF _ _ _ _ _ _ _ _ _)
set_option maxRecDepth 100000 in
set_option maxHeartbeats 2000000 in
theorem pm6_any (D0 : NX w m M U none H) (ok : MuOk M) (a bb cc : Int) (s t : ByteArray) (hT : t.size ≤ maxLen) : Calls Tryz.prog 30 #[.pointer (some ⟨m, 0, none⟩), opX 6 a bb cc s t] w (PmP w m M U H 6 a bb cc s t) := by
  have o1 : Only (fun _ => False) w ((w.alloc (.cells #[.int .i64 6, .int .i64 a, .int .i64 bb, .int .i64 cc, .string s, .string t] 44)).alloc (.cells #[.int .i64 0, .int .i64 0, .slice none 0 0, .slice none 0 0, .string ⟨#[]⟩, .slice none 0 0, .int .i64 0, .int .i64 0, .slice none 0 0] 54)) := ((Only.refl _ _).alloc _).alloc _
  have A1 : Has ((w.alloc (.cells #[.int .i64 6, .int .i64 a, .int .i64 bb, .int .i64 cc, .string s, .string t] 44)).alloc (.cells #[.int .i64 0, .int .i64 0, .slice none 0 0, .slice none 0 0, .string ⟨#[]⟩, .slice none 0 0, .int .i64 0, .int .i64 0, .slice none 0 0] 54)) w.heap.size #[.int .i64 6, .int .i64 a, .int .i64 bb, .int .i64 cc, .string s, .string t] 44 := (Has.new w _ _).alloc _
  have B1 : Has ((w.alloc (.cells #[.int .i64 6, .int .i64 a, .int .i64 bb, .int .i64 cc, .string s, .string t] 44)).alloc (.cells #[.int .i64 0, .int .i64 0, .slice none 0 0, .slice none 0 0, .string ⟨#[]⟩, .slice none 0 0, .int .i64 0, .int .i64 0, .slice none 0 0] 54)) (w.heap.size + 1) #[.int .i64 0, .int .i64 0, .slice none 0 0, .slice none 0 0, .string ⟨#[]⟩, .slice none 0 0, .int .i64 0, .int .i64 0, .slice none 0 0] 54 := Has.new' _ _ _ _ (by simp)
  have HD := hide (D0.quiet o1)
  have HDl := hide (show ∀ b, H b → b < w.heap.size from D0.lt)
  have HOK := hide ok
  have HA := hide A1
  have HB := hide B1
  have HO := hide o1
  have HT := hide hT
  clear D0 o1 A1 B1 hT ok
  unfold opX
  go_enter Tryz.func30, Tryz.ntmps30
  go_upto_region 1 with fail
  generalize ((w.alloc (.cells #[.int .i64 6, .int .i64 a, .int .i64 bb, .int .i64 cc, .string s, .string t] 44)).alloc (.cells #[.int .i64 0, .int .i64 0, .slice none 0 0, .slice none 0 0, .string ⟨#[]⟩, .slice none 0 0, .int .i64 0, .int .i64 0, .slice none 0 0] 54)) = w1 at *
  have ka1 := (unhide HA).lt
  have kb1 := (unhide HB).lt
  generalize hka : w.heap.size = ka at *
  have Hka := hide hka
  clear hka
  have a0 : w1.cell? ⟨ka, 0, none⟩ = some (.int .i64 6) := (unhide HA).cell 0
  have a1 : w1.cell? ⟨ka, 1, none⟩ = some (.int .i64 a) := (unhide HA).cell 1
  have a2 : w1.cell? ⟨ka, 2, none⟩ = some (.int .i64 bb) := (unhide HA).cell 2
  have a4 : w1.cell? ⟨ka, 4, none⟩ = some (.string s) := (unhide HA).cell 4
  have HBx := HB
  have C1 := hide ((n6_any (unhide HD) a bb cc s t).mono (fun e w' h => PmP.num h))
  go_wp2_with fail
  refine (unhide C1).mono ?_
  rintro e w2 ⟨z, rfl, hp⟩
  have NZ := (unhide HBx).keep hp.only (fun c => by have := unhide HDl (ka + 1) c; omega)
  have HNZ := hide NZ
  have kz := NZ.lt
  have n0 : w2.cell? ⟨ka + 1, 0, none⟩ = some (.int .i64 0) := NZ.cell 0
  have f0 : w2.frozen? ⟨ka + 1, 0, none⟩ = false := NZ.free 0
  have n1 : w2.cell? ⟨ka + 1, 1, none⟩ = some (.int .i64 0) := NZ.cell 1
  have f1 : w2.frozen? ⟨ka + 1, 1, none⟩ = false := NZ.free 1
  have n2 : w2.cell? ⟨ka + 1, 2, none⟩ = some (.slice none 0 0) := NZ.cell 2
  have f2 : w2.frozen? ⟨ka + 1, 2, none⟩ = false := NZ.free 2
  have n3 : w2.cell? ⟨ka + 1, 3, none⟩ = some (.slice none 0 0) := NZ.cell 3
  have f3 : w2.frozen? ⟨ka + 1, 3, none⟩ = false := NZ.free 3
  have n4 : w2.cell? ⟨ka + 1, 4, none⟩ = some (.string ⟨#[]⟩) := NZ.cell 4
  have f4 : w2.frozen? ⟨ka + 1, 4, none⟩ = false := NZ.free 4
  have n5 : w2.cell? ⟨ka + 1, 5, none⟩ = some (.slice none 0 0) := NZ.cell 5
  have f5 : w2.frozen? ⟨ka + 1, 5, none⟩ = false := NZ.free 5
  have n6 : w2.cell? ⟨ka + 1, 6, none⟩ = some (.int .i64 0) := NZ.cell 6
  have f6 : w2.frozen? ⟨ka + 1, 6, none⟩ = false := NZ.free 6
  have n7 : w2.cell? ⟨ka + 1, 7, none⟩ = some (.int .i64 0) := NZ.cell 7
  have f7 : w2.frozen? ⟨ka + 1, 7, none⟩ = false := NZ.free 7
  have n8 : w2.cell? ⟨ka + 1, 8, none⟩ = some (.slice none 0 0) := NZ.cell 8
  have f8 : w2.frozen? ⟨ka + 1, 8, none⟩ = false := NZ.free 8
  have HP := hide hp
  have FF := hide (fun v0 v1 v2 v3 v4 v5 v6 v7 v8 => (unhide HP).fin (B := fun b => b = ka + 1) (unhide HO) (only9 _ _ _ _ _ _ _ _ _ _ _ : Only _ _ ((((((((((w2.setCell ⟨ka + 1, 0, none⟩ v0).setCell ⟨ka + 1, 1, none⟩ v1).setCell ⟨ka + 1, 2, none⟩ v2).setCell ⟨ka + 1, 3, none⟩ v3).setCell ⟨ka + 1, 4, none⟩ v4).setCell ⟨ka + 1, 5, none⟩ v5).setCell ⟨ka + 1, 6, none⟩ v6).setCell ⟨ka + 1, 7, none⟩ v7).setCell ⟨ka + 1, 8, none⟩ v8))) (fun k h => by have h' : k = ka + 1 := h; have := unhide Hka; omega) (fun k h => by have := unhide HDl k h; have := unhide Hka; omega))
  have HG := hide (fun v0 v1 v2 v3 v4 v5 v6 v7 v8 => set9 (unhide HNZ) v0 v1 v2 v3 v4 v5 v6 v7 v8)
  clear C1 a0 a1 a2 a4 hp NZ
  go_wp2_with fail
  exact bodyPost_ret (res1_an Tryz.results30 _ rfl (unhide HG _ _ _ _ _ _ _ _ _) rfl) rfl (unhide FF _ _ _ _ _ _ _ _ _)
set_option maxRecDepth 100000 in
set_option maxHeartbeats 2000000 in
theorem pm4_any (D0 : NX w m M U none H) (ok : MuOk M) (a bb cc : Int) (s t : ByteArray) (hT : t.size ≤ maxLen) : Calls Tryz.prog 30 #[.pointer (some ⟨m, 0, none⟩), opX 4 a bb cc s t] w (PmP w m M U H 4 a bb cc s t) := by
  have o1 : Only (fun _ => False) w ((w.alloc (.cells #[.int .i64 4, .int .i64 a, .int .i64 bb, .int .i64 cc, .string s, .string t] 44)).alloc (.cells #[.int .i64 0, .int .i64 0, .slice none 0 0, .slice none 0 0, .string ⟨#[]⟩, .slice none 0 0, .int .i64 0, .int .i64 0, .slice none 0 0] 54)) := ((Only.refl _ _).alloc _).alloc _
  have A1 : Has ((w.alloc (.cells #[.int .i64 4, .int .i64 a, .int .i64 bb, .int .i64 cc, .string s, .string t] 44)).alloc (.cells #[.int .i64 0, .int .i64 0, .slice none 0 0, .slice none 0 0, .string ⟨#[]⟩, .slice none 0 0, .int .i64 0, .int .i64 0, .slice none 0 0] 54)) w.heap.size #[.int .i64 4, .int .i64 a, .int .i64 bb, .int .i64 cc, .string s, .string t] 44 := (Has.new w _ _).alloc _
  have B1 : Has ((w.alloc (.cells #[.int .i64 4, .int .i64 a, .int .i64 bb, .int .i64 cc, .string s, .string t] 44)).alloc (.cells #[.int .i64 0, .int .i64 0, .slice none 0 0, .slice none 0 0, .string ⟨#[]⟩, .slice none 0 0, .int .i64 0, .int .i64 0, .slice none 0 0] 54)) (w.heap.size + 1) #[.int .i64 0, .int .i64 0, .slice none 0 0, .slice none 0 0, .string ⟨#[]⟩, .slice none 0 0, .int .i64 0, .int .i64 0, .slice none 0 0] 54 := Has.new' _ _ _ _ (by simp)
  have HD := hide (D0.quiet o1)
  have HDl := hide (show ∀ b, H b → b < w.heap.size from D0.lt)
  have HOK := hide ok
  have HA := hide A1
  have HB := hide B1
  have HO := hide o1
  have HT := hide hT
  clear D0 o1 A1 B1 hT ok
  unfold opX
  go_enter Tryz.func30, Tryz.ntmps30
  go_upto_region 1 with fail
  generalize ((w.alloc (.cells #[.int .i64 4, .int .i64 a, .int .i64 bb, .int .i64 cc, .string s, .string t] 44)).alloc (.cells #[.int .i64 0, .int .i64 0, .slice none 0 0, .slice none 0 0, .string ⟨#[]⟩, .slice none 0 0, .int .i64 0, .int .i64 0, .slice none 0 0] 54)) = w1 at *
  have ka1 := (unhide HA).lt
  have kb1 := (unhide HB).lt
  generalize hka : w.heap.size = ka at *
  have Hka := hide hka
  clear hka
  have a0 : w1.cell? ⟨ka, 0, none⟩ = some (.int .i64 4) := (unhide HA).cell 0
  have a5 : w1.cell? ⟨ka, 5, none⟩ = some (.string t) := (unhide HA).cell 5
  have C1 := hide (eColsOf_any t (unhide HT) w1)
  go_wp2_with fail
  refine (unhide C1).mono ?_
  rintro e w2 ⟨u, rfl, hG⟩
  have O2 : OwnC w2 u (colsP t) := hG.own
  obtain ⟨va, vc, hv⟩ := O2.shape
  have o2 := hG.ho
  have s2 := o2.size
  have HD2 := hide ((unhide HD).quiet o2)
  have HA2 := hide ((unhide HA).keep o2 (fun h => h))
  have HBx := hide ((unhide HB).keep o2 (fun h => h))
  have HO2 := hide ((unhide HO).trans o2 (fun _ _ h => h))
  have hub : ∀ b, u.ownBlock = some b → ¬ H b := fun b hb h => by have := hG.hb b hb; have := unhide HDl b h; omega
  rw [hv] at O2 hub
  have C2 := (n4_any (unhide HD2) a bb cc s t O2).mono (fun e w' h => PmP.num h)
  subst hv
  have C2 := hide C2
  clear C1 hG O2 o2 a0 a5 hub
  have a1 : w2.cell? ⟨ka, 1, none⟩ = some (.int .i64 a) := (unhide HA2).cell 1
  have a2 : w2.cell? ⟨ka, 2, none⟩ = some (.int .i64 bb) := (unhide HA2).cell 2
  have a4 : w2.cell? ⟨ka, 4, none⟩ = some (.string s) := (unhide HA2).cell 4
  have ka2 := (unhide HA2).lt
  go_wp2_with fail
  refine (unhide C2).mono ?_
  rintro e w3 ⟨z, rfl, hp⟩
  have NZ := (unhide HBx).keep hp.only (fun c => by have := unhide HDl (ka + 1) c; omega)
  have HNZ := hide NZ
  have kz := NZ.lt
  have n0 : w3.cell? ⟨ka + 1, 0, none⟩ = some (.int .i64 0) := NZ.cell 0
  have f0 : w3.frozen? ⟨ka + 1, 0, none⟩ = false := NZ.free 0
  have n1 : w3.cell? ⟨ka + 1, 1, none⟩ = some (.int .i64 0) := NZ.cell 1
  have f1 : w3.frozen? ⟨ka + 1, 1, none⟩ = false := NZ.free 1
  have n2 : w3.cell? ⟨ka + 1, 2, none⟩ = some (.slice none 0 0) := NZ.cell 2
  have f2 : w3.frozen? ⟨ka + 1, 2, none⟩ = false := NZ.free 2
  have n3 : w3.cell? ⟨ka + 1, 3, none⟩ = some (.slice none 0 0) := NZ.cell 3
  have f3 : w3.frozen? ⟨ka + 1, 3, none⟩ = false := NZ.free 3
  have n4 : w3.cell? ⟨ka + 1, 4, none⟩ = some (.string ⟨#[]⟩) := NZ.cell 4
  have f4 : w3.frozen? ⟨ka + 1, 4, none⟩ = false := NZ.free 4
  have n5 : w3.cell? ⟨ka + 1, 5, none⟩ = some (.slice none 0 0) := NZ.cell 5
  have f5 : w3.frozen? ⟨ka + 1, 5, none⟩ = false := NZ.free 5
  have n6 : w3.cell? ⟨ka + 1, 6, none⟩ = some (.int .i64 0) := NZ.cell 6
  have f6 : w3.frozen? ⟨ka + 1, 6, none⟩ = false := NZ.free 6
  have n7 : w3.cell? ⟨ka + 1, 7, none⟩ = some (.int .i64 0) := NZ.cell 7
  have f7 : w3.frozen? ⟨ka + 1, 7, none⟩ = false := NZ.free 7
  have n8 : w3.cell? ⟨ka + 1, 8, none⟩ = some (.slice none 0 0) := NZ.cell 8
  have f8 : w3.frozen? ⟨ka + 1, 8, none⟩ = false := NZ.free 8
  have HP := hide hp
  have FF := hide (fun v0 v1 v2 v3 v4 v5 v6 v7 v8 => (unhide HP).fin (B := fun b => b = ka + 1) (unhide HO2) (only9 _ _ _ _ _ _ _ _ _ _ _ : Only _ _ ((((((((((w3.setCell ⟨ka + 1, 0, none⟩ v0).setCell ⟨ka + 1, 1, none⟩ v1).setCell ⟨ka + 1, 2, none⟩ v2).setCell ⟨ka + 1, 3, none⟩ v3).setCell ⟨ka + 1, 4, none⟩ v4).setCell ⟨ka + 1, 5, none⟩ v5).setCell ⟨ka + 1, 6, none⟩ v6).setCell ⟨ka + 1, 7, none⟩ v7).setCell ⟨ka + 1, 8, none⟩ v8))) (fun k h => by have h' : k = ka + 1 := h; have := unhide Hka; omega) (fun k h => by have := unhide HDl k h; have := unhide Hka; omega))
  have HG := hide (fun v0 v1 v2 v3 v4 v5 v6 v7 v8 => set9 (unhide HNZ) v0 v1 v2 v3 v4 v5 v6 v7 v8)
  clear C2 a1 a2 a4 hp NZ
  go_wp2_with fail
  exact bodyPost_ret (res1_an Tryz.results30 _ rfl (unhide HG _ _ _ _ _ _ _ _ _) rfl) rfl (unhide FF _ _ _ _ _ _ _ _ _)
set_option maxRecDepth 100000 in
set_option maxHeartbeats 2000000 in
theorem pm7_any (D0 : NX w m M U none H) (ok : MuOk M) (a bb cc : Int) (s t : ByteArray) (hT : t.size ≤ maxLen) : Calls Tryz.prog 30 #[.pointer (some ⟨m, 0, none⟩), opX 7 a bb cc s t] w (PmP w m M U H 7 a bb cc s t) := by
  have o1 : Only (fun _ => False) w ((w.alloc (.cells #[.int .i64 7, .int .i64 a, .int .i64 bb, .int .i64 cc, .string s, .string t] 44)).alloc (.cells #[.int .i64 0, .int .i64 0, .slice none 0 0, .slice none 0 0, .string ⟨#[]⟩, .slice none 0 0, .int .i64 0, .int .i64 0, .slice none 0 0] 54)) := ((Only.refl _ _).alloc _).alloc _
  have A1 : Has ((w.alloc (.cells #[.int .i64 7, .int .i64 a, .int .i64 bb, .int .i64 cc, .string s, .string t] 44)).alloc (.cells #[.int .i64 0, .int .i64 0, .slice none 0 0, .slice none 0 0, .string ⟨#[]⟩, .slice none 0 0, .int .i64 0, .int .i64 0, .slice none 0 0] 54)) w.heap.size #[.int .i64 7, .int .i64 a, .int .i64 bb, .int .i64 cc, .string s, .string t] 44 := (Has.new w _ _).alloc _
  have B1 : Has ((w.alloc (.cells #[.int .i64 7, .int .i64 a, .int .i64 bb, .int .i64 cc, .string s, .string t] 44)).alloc (.cells #[.int .i64 0, .int .i64 0, .slice none 0 0, .slice none 0 0, .string ⟨#[]⟩, .slice none 0 0, .int .i64 0, .int .i64 0, .slice none 0 0] 54)) (w.heap.size + 1) #[.int .i64 0, .int .i64 0, .slice none 0 0, .slice none 0 0, .string ⟨#[]⟩, .slice none 0 0, .int .i64 0, .int .i64 0, .slice none 0 0] 54 := Has.new' _ _ _ _ (by simp)
  have HD := hide (D0.quiet o1)
  have HDl := hide (show ∀ b, H b → b < w.heap.size from D0.lt)
  have HOK := hide ok
  have HA := hide A1
  have HB := hide B1
  have HO := hide o1
  have HT := hide hT
  clear D0 o1 A1 B1 hT ok
  unfold opX
  go_enter Tryz.func30, Tryz.ntmps30
  go_upto_region 1 with fail
  generalize ((w.alloc (.cells #[.int .i64 7, .int .i64 a, .int .i64 bb, .int .i64 cc, .string s, .string t] 44)).alloc (.cells #[.int .i64 0, .int .i64 0, .slice none 0 0, .slice none 0 0, .string ⟨#[]⟩, .slice none 0 0, .int .i64 0, .int .i64 0, .slice none 0 0] 54)) = w1 at *
  have ka1 := (unhide HA).lt
  have kb1 := (unhide HB).lt
  generalize hka : w.heap.size = ka at *
  have Hka := hide hka
  clear hka
  have a0 : w1.cell? ⟨ka, 0, none⟩ = some (.int .i64 7) := (unhide HA).cell 0
  have a5 : w1.cell? ⟨ka, 5, none⟩ = some (.string t) := (unhide HA).cell 5
  have C1 := hide (eRowOf_any t (unhide HT) w1)
  go_wp2_with fail
  refine (unhide C1).mono ?_
  rintro e w2 ⟨u, rfl, hG⟩
  have O2 : OwnV w2 u (rowP t) := hG.own
  obtain ⟨va, vc, hv⟩ := O2.shape
  have o2 := hG.ho
  have s2 := o2.size
  have HD2 := hide ((unhide HD).quiet o2)
  have HA2 := hide ((unhide HA).keep o2 (fun h => h))
  have HBx := hide ((unhide HB).keep o2 (fun h => h))
  have HO2 := hide ((unhide HO).trans o2 (fun _ _ h => h))
  have hub : ∀ b, u.ownBlock = some b → ¬ H b := fun b hb h => by have := hG.hb b hb; have := unhide HDl b h; omega
  rw [hv] at O2 hub
  have C2 := (n7_any (unhide HD2) (unhide HOK) a bb cc s t O2 hub).mono (fun e w' h => PmP.num h)
  subst hv
  have C2 := hide C2
  clear C1 hG O2 o2 a0 a5 hub
  have a1 : w2.cell? ⟨ka, 1, none⟩ = some (.int .i64 a) := (unhide HA2).cell 1
  have a4 : w2.cell? ⟨ka, 4, none⟩ = some (.string s) := (unhide HA2).cell 4
  have ka2 := (unhide HA2).lt
  go_wp2_with fail
  refine (unhide C2).mono ?_
  rintro e w3 ⟨z, rfl, hp⟩
  have NZ := (unhide HBx).keep hp.only (fun c => by have := unhide HDl (ka + 1) c; omega)
  have HNZ := hide NZ
  have kz := NZ.lt
  have n0 : w3.cell? ⟨ka + 1, 0, none⟩ = some (.int .i64 0) := NZ.cell 0
  have f0 : w3.frozen? ⟨ka + 1, 0, none⟩ = false := NZ.free 0
  have n1 : w3.cell? ⟨ka + 1, 1, none⟩ = some (.int .i64 0) := NZ.cell 1
  have f1 : w3.frozen? ⟨ka + 1, 1, none⟩ = false := NZ.free 1
  have n2 : w3.cell? ⟨ka + 1, 2, none⟩ = some (.slice none 0 0) := NZ.cell 2
  have f2 : w3.frozen? ⟨ka + 1, 2, none⟩ = false := NZ.free 2
  have n3 : w3.cell? ⟨ka + 1, 3, none⟩ = some (.slice none 0 0) := NZ.cell 3
  have f3 : w3.frozen? ⟨ka + 1, 3, none⟩ = false := NZ.free 3
  have n4 : w3.cell? ⟨ka + 1, 4, none⟩ = some (.string ⟨#[]⟩) := NZ.cell 4
  have f4 : w3.frozen? ⟨ka + 1, 4, none⟩ = false := NZ.free 4
  have n5 : w3.cell? ⟨ka + 1, 5, none⟩ = some (.slice none 0 0) := NZ.cell 5
  have f5 : w3.frozen? ⟨ka + 1, 5, none⟩ = false := NZ.free 5
  have n6 : w3.cell? ⟨ka + 1, 6, none⟩ = some (.int .i64 0) := NZ.cell 6
  have f6 : w3.frozen? ⟨ka + 1, 6, none⟩ = false := NZ.free 6
  have n7 : w3.cell? ⟨ka + 1, 7, none⟩ = some (.int .i64 0) := NZ.cell 7
  have f7 : w3.frozen? ⟨ka + 1, 7, none⟩ = false := NZ.free 7
  have n8 : w3.cell? ⟨ka + 1, 8, none⟩ = some (.slice none 0 0) := NZ.cell 8
  have f8 : w3.frozen? ⟨ka + 1, 8, none⟩ = false := NZ.free 8
  have HP := hide hp
  have FF := hide (fun v0 v1 v2 v3 v4 v5 v6 v7 v8 => (unhide HP).fin (B := fun b => b = ka + 1) (unhide HO2) (only9 _ _ _ _ _ _ _ _ _ _ _ : Only _ _ ((((((((((w3.setCell ⟨ka + 1, 0, none⟩ v0).setCell ⟨ka + 1, 1, none⟩ v1).setCell ⟨ka + 1, 2, none⟩ v2).setCell ⟨ka + 1, 3, none⟩ v3).setCell ⟨ka + 1, 4, none⟩ v4).setCell ⟨ka + 1, 5, none⟩ v5).setCell ⟨ka + 1, 6, none⟩ v6).setCell ⟨ka + 1, 7, none⟩ v7).setCell ⟨ka + 1, 8, none⟩ v8))) (fun k h => by have h' : k = ka + 1 := h; have := unhide Hka; omega) (fun k h => by have := unhide HDl k h; have := unhide Hka; omega))
  have HG := hide (fun v0 v1 v2 v3 v4 v5 v6 v7 v8 => set9 (unhide HNZ) v0 v1 v2 v3 v4 v5 v6 v7 v8)
  clear C2 a1 a4 hp NZ
  go_wp2_with fail
  exact bodyPost_ret (res1_an Tryz.results30 _ rfl (unhide HG _ _ _ _ _ _ _ _ _) rfl) rfl (unhide FF _ _ _ _ _ _ _ _ _)
set_option maxRecDepth 100000 in
set_option maxHeartbeats 2000000 in
theorem pm8_any (D0 : NX w m M U none H) (ok : MuOk M) (a bb cc : Int) (s t : ByteArray) (hT : t.size ≤ maxLen) : Calls Tryz.prog 30 #[.pointer (some ⟨m, 0, none⟩), opX 8 a bb cc s t] w (PmP w m M U H 8 a bb cc s t) := by
  have o1 : Only (fun _ => False) w ((w.alloc (.cells #[.int .i64 8, .int .i64 a, .int .i64 bb, .int .i64 cc, .string s, .string t] 44)).alloc (.cells #[.int .i64 0, .int .i64 0, .slice none 0 0, .slice none 0 0, .string ⟨#[]⟩, .slice none 0 0, .int .i64 0, .int .i64 0, .slice none 0 0] 54)) := ((Only.refl _ _).alloc _).alloc _
  have A1 : Has ((w.alloc (.cells #[.int .i64 8, .int .i64 a, .int .i64 bb, .int .i64 cc, .string s, .string t] 44)).alloc (.cells #[.int .i64 0, .int .i64 0, .slice none 0 0, .slice none 0 0, .string ⟨#[]⟩, .slice none 0 0, .int .i64 0, .int .i64 0, .slice none 0 0] 54)) w.heap.size #[.int .i64 8, .int .i64 a, .int .i64 bb, .int .i64 cc, .string s, .string t] 44 := (Has.new w _ _).alloc _
  have B1 : Has ((w.alloc (.cells #[.int .i64 8, .int .i64 a, .int .i64 bb, .int .i64 cc, .string s, .string t] 44)).alloc (.cells #[.int .i64 0, .int .i64 0, .slice none 0 0, .slice none 0 0, .string ⟨#[]⟩, .slice none 0 0, .int .i64 0, .int .i64 0, .slice none 0 0] 54)) (w.heap.size + 1) #[.int .i64 0, .int .i64 0, .slice none 0 0, .slice none 0 0, .string ⟨#[]⟩, .slice none 0 0, .int .i64 0, .int .i64 0, .slice none 0 0] 54 := Has.new' _ _ _ _ (by simp)
  have HD := hide (D0.quiet o1)
  have HDl := hide (show ∀ b, H b → b < w.heap.size from D0.lt)
  have HOK := hide ok
  have HA := hide A1
  have HB := hide B1
  have HO := hide o1
  have HT := hide hT
  clear D0 o1 A1 B1 hT ok
  unfold opX
  go_enter Tryz.func30, Tryz.ntmps30
  go_upto_region 1 with fail
  generalize ((w.alloc (.cells #[.int .i64 8, .int .i64 a, .int .i64 bb, .int .i64 cc, .string s, .string t] 44)).alloc (.cells #[.int .i64 0, .int .i64 0, .slice none 0 0, .slice none 0 0, .string ⟨#[]⟩, .slice none 0 0, .int .i64 0, .int .i64 0, .slice none 0 0] 54)) = w1 at *
  have ka1 := (unhide HA).lt
  have kb1 := (unhide HB).lt
  generalize hka : w.heap.size = ka at *
  have Hka := hide hka
  clear hka
  have a0 : w1.cell? ⟨ka, 0, none⟩ = some (.int .i64 8) := (unhide HA).cell 0
  have a5 : w1.cell? ⟨ka, 5, none⟩ = some (.string t) := (unhide HA).cell 5
  have C1 := hide (eRowOf_any t (unhide HT) w1)
  go_wp2_with fail
  refine (unhide C1).mono ?_
  rintro e w2 ⟨u, rfl, hG⟩
  have O2 : OwnV w2 u (rowP t) := hG.own
  obtain ⟨va, vc, hv⟩ := O2.shape
  have o2 := hG.ho
  have s2 := o2.size
  have HD2 := hide ((unhide HD).quiet o2)
  have HA2 := hide ((unhide HA).keep o2 (fun h => h))
  have HBx := hide ((unhide HB).keep o2 (fun h => h))
  have HO2 := hide ((unhide HO).trans o2 (fun _ _ h => h))
  have hub : ∀ b, u.ownBlock = some b → ¬ H b := fun b hb h => by have := hG.hb b hb; have := unhide HDl b h; omega
  rw [hv] at O2 hub
  have C2 := (n8_any (unhide HD2) (unhide HOK) a bb cc s t O2 hub).mono (fun e w' h => PmP.num h)
  subst hv
  have C2 := hide C2
  clear C1 hG O2 o2 a0 a5 hub
  have a1 : w2.cell? ⟨ka, 1, none⟩ = some (.int .i64 a) := (unhide HA2).cell 1
  have a4 : w2.cell? ⟨ka, 4, none⟩ = some (.string s) := (unhide HA2).cell 4
  have ka2 := (unhide HA2).lt
  go_wp2_with fail
  refine (unhide C2).mono ?_
  rintro e w3 ⟨z, rfl, hp⟩
  have NZ := (unhide HBx).keep hp.only (fun c => by have := unhide HDl (ka + 1) c; omega)
  have HNZ := hide NZ
  have kz := NZ.lt
  have n0 : w3.cell? ⟨ka + 1, 0, none⟩ = some (.int .i64 0) := NZ.cell 0
  have f0 : w3.frozen? ⟨ka + 1, 0, none⟩ = false := NZ.free 0
  have n1 : w3.cell? ⟨ka + 1, 1, none⟩ = some (.int .i64 0) := NZ.cell 1
  have f1 : w3.frozen? ⟨ka + 1, 1, none⟩ = false := NZ.free 1
  have n2 : w3.cell? ⟨ka + 1, 2, none⟩ = some (.slice none 0 0) := NZ.cell 2
  have f2 : w3.frozen? ⟨ka + 1, 2, none⟩ = false := NZ.free 2
  have n3 : w3.cell? ⟨ka + 1, 3, none⟩ = some (.slice none 0 0) := NZ.cell 3
  have f3 : w3.frozen? ⟨ka + 1, 3, none⟩ = false := NZ.free 3
  have n4 : w3.cell? ⟨ka + 1, 4, none⟩ = some (.string ⟨#[]⟩) := NZ.cell 4
  have f4 : w3.frozen? ⟨ka + 1, 4, none⟩ = false := NZ.free 4
  have n5 : w3.cell? ⟨ka + 1, 5, none⟩ = some (.slice none 0 0) := NZ.cell 5
  have f5 : w3.frozen? ⟨ka + 1, 5, none⟩ = false := NZ.free 5
  have n6 : w3.cell? ⟨ka + 1, 6, none⟩ = some (.int .i64 0) := NZ.cell 6
  have f6 : w3.frozen? ⟨ka + 1, 6, none⟩ = false := NZ.free 6
  have n7 : w3.cell? ⟨ka + 1, 7, none⟩ = some (.int .i64 0) := NZ.cell 7
  have f7 : w3.frozen? ⟨ka + 1, 7, none⟩ = false := NZ.free 7
  have n8 : w3.cell? ⟨ka + 1, 8, none⟩ = some (.slice none 0 0) := NZ.cell 8
  have f8 : w3.frozen? ⟨ka + 1, 8, none⟩ = false := NZ.free 8
  have HP := hide hp
  have FF := hide (fun v0 v1 v2 v3 v4 v5 v6 v7 v8 => (unhide HP).fin (B := fun b => b = ka + 1) (unhide HO2) (only9 _ _ _ _ _ _ _ _ _ _ _ : Only _ _ ((((((((((w3.setCell ⟨ka + 1, 0, none⟩ v0).setCell ⟨ka + 1, 1, none⟩ v1).setCell ⟨ka + 1, 2, none⟩ v2).setCell ⟨ka + 1, 3, none⟩ v3).setCell ⟨ka + 1, 4, none⟩ v4).setCell ⟨ka + 1, 5, none⟩ v5).setCell ⟨ka + 1, 6, none⟩ v6).setCell ⟨ka + 1, 7, none⟩ v7).setCell ⟨ka + 1, 8, none⟩ v8))) (fun k h => by have h' : k = ka + 1 := h; have := unhide Hka; omega) (fun k h => by have := unhide HDl k h; have := unhide Hka; omega))
  have HG := hide (fun v0 v1 v2 v3 v4 v5 v6 v7 v8 => set9 (unhide HNZ) v0 v1 v2 v3 v4 v5 v6 v7 v8)
  clear C2 a1 a4 hp NZ
  go_wp2_with fail
  exact bodyPost_ret (res1_an Tryz.results30 _ rfl (unhide HG _ _ _ _ _ _ _ _ _) rfl) rfl (unhide FF _ _ _ _ _ _ _ _ _)
set_option maxRecDepth 100000 in
set_option maxHeartbeats 2000000 in
theorem pm9_any (D0 : NX w m M U none H) (ok : MuOk M) (a bb cc : Int) (s t : ByteArray) (hT : t.size ≤ maxLen) : Calls Tryz.prog 30 #[.pointer (some ⟨m, 0, none⟩), opX 9 a bb cc s t] w (PmP w m M U H 9 a bb cc s t) := by
  have o1 : Only (fun _ => False) w ((w.alloc (.cells #[.int .i64 9, .int .i64 a, .int .i64 bb, .int .i64 cc, .string s, .string t] 44)).alloc (.cells #[.int .i64 0, .int .i64 0, .slice none 0 0, .slice none 0 0, .string ⟨#[]⟩, .slice none 0 0, .int .i64 0, .int .i64 0, .slice none 0 0] 54)) := ((Only.refl _ _).alloc _).alloc _
  have A1 : Has ((w.alloc (.cells #[.int .i64 9, .int .i64 a, .int .i64 bb, .int .i64 cc, .string s, .string t] 44)).alloc (.cells #[.int .i64 0, .int .i64 0, .slice none 0 0, .slice none 0 0, .string ⟨#[]⟩, .slice none 0 0, .int .i64 0, .int .i64 0, .slice none 0 0] 54)) w.heap.size #[.int .i64 9, .int .i64 a, .int .i64 bb, .int .i64 cc, .string s, .string t] 44 := (Has.new w _ _).alloc _
  have B1 : Has ((w.alloc (.cells #[.int .i64 9, .int .i64 a, .int .i64 bb, .int .i64 cc, .string s, .string t] 44)).alloc (.cells #[.int .i64 0, .int .i64 0, .slice none 0 0, .slice none 0 0, .string ⟨#[]⟩, .slice none 0 0, .int .i64 0, .int .i64 0, .slice none 0 0] 54)) (w.heap.size + 1) #[.int .i64 0, .int .i64 0, .slice none 0 0, .slice none 0 0, .string ⟨#[]⟩, .slice none 0 0, .int .i64 0, .int .i64 0, .slice none 0 0] 54 := Has.new' _ _ _ _ (by simp)
  have HD := hide (D0.quiet o1)
  have HDl := hide (show ∀ b, H b → b < w.heap.size from D0.lt)
  have HOK := hide ok
  have HA := hide A1
  have HB := hide B1
  have HO := hide o1
  have HT := hide hT
  clear D0 o1 A1 B1 hT ok
  unfold opX
  go_enter Tryz.func30, Tryz.ntmps30
  go_upto_region 1 with fail
  generalize ((w.alloc (.cells #[.int .i64 9, .int .i64 a, .int .i64 bb, .int .i64 cc, .string s, .string t] 44)).alloc (.cells #[.int .i64 0, .int .i64 0, .slice none 0 0, .slice none 0 0, .string ⟨#[]⟩, .slice none 0 0, .int .i64 0, .int .i64 0, .slice none 0 0] 54)) = w1 at *
  have ka1 := (unhide HA).lt
  have kb1 := (unhide HB).lt
  generalize hka : w.heap.size = ka at *
  have Hka := hide hka
  clear hka
  have a0 : w1.cell? ⟨ka, 0, none⟩ = some (.int .i64 9) := (unhide HA).cell 0
  have a5 : w1.cell? ⟨ka, 5, none⟩ = some (.string t) := (unhide HA).cell 5
  have C1 := eFirst_any t (unhide HT) w1
  obtain ⟨key, hkey⟩ : ∃ key, fstP t = key := ⟨_, rfl⟩
  rw [hkey] at C1
  unfold vlA at C1
  have C1 := hide C1
  have Hkey := hide hkey
  clear hkey
  go_wp2_with fail
  refine (unhide C1).mono ?_
  rintro e w2 ⟨rfl, o2⟩
  have oA : Only (fun _ => False) w2 (w2.alloc (.cells #[.bool key.str, .int .i64 key.i, .string key.s] 106)) := (Only.refl _ _).alloc _
  have HK2 := hide (Has.new w2 #[.bool key.str, .int .i64 key.i, .string key.s] 106)
  have o3 := o2.trans oA (fun _ _ h => h)
  have HD2 := hide ((unhide HD).quiet o3)
  have HA2 := hide ((unhide HA).keep o3 (fun h => h))
  have HBx := hide ((unhide HB).keep o3 (fun h => h))
  have HO2 := hide ((unhide HO).trans o3 (fun _ _ h => h))
  have s3 := o3.size
  clear C1 o2 oA o3 a0 a5
  go_upto_region 23 with fail
  generalize w2.alloc (.cells #[.bool key.str, .int .i64 key.i, .string key.s] 106) = w3 at *
  generalize w2.heap.size = kk at *
  have a1 : w3.cell? ⟨ka, 1, none⟩ = some (.int .i64 a) := (unhide HA2).cell 1
  have a4 : w3.cell? ⟨ka, 4, none⟩ = some (.string s) := (unhide HA2).cell 4
  have k0 : w3.cell? ⟨kk, 0, none⟩ = some (.bool key.str) := (unhide HK2).cell 0
  have k1 : w3.cell? ⟨kk, 1, none⟩ = some (.int .i64 key.i) := (unhide HK2).cell 1
  have k2 : w3.cell? ⟨kk, 2, none⟩ = some (.string key.s) := (unhide HK2).cell 2
  have ka3 := (unhide HA2).lt
  have C2 := (n9_any (unhide HD2) (unhide HOK) a bb cc s t).mono (fun e w' h => PmP.num h)
  rw [unhide Hkey] at C2
  unfold vlA at C2
  have C2 := hide C2
  go_wp2_with fail
  refine (unhide C2).mono ?_
  rintro e w4 ⟨z, rfl, hp⟩
  have NZ := (unhide HBx).keep hp.only (fun c => by have := unhide HDl (ka + 1) c; omega)
  have HNZ := hide NZ
  have kz := NZ.lt
  have n0 : w4.cell? ⟨ka + 1, 0, none⟩ = some (.int .i64 0) := NZ.cell 0
  have f0 : w4.frozen? ⟨ka + 1, 0, none⟩ = false := NZ.free 0
  have n1 : w4.cell? ⟨ka + 1, 1, none⟩ = some (.int .i64 0) := NZ.cell 1
  have f1 : w4.frozen? ⟨ka + 1, 1, none⟩ = false := NZ.free 1
  have n2 : w4.cell? ⟨ka + 1, 2, none⟩ = some (.slice none 0 0) := NZ.cell 2
  have f2 : w4.frozen? ⟨ka + 1, 2, none⟩ = false := NZ.free 2
  have n3 : w4.cell? ⟨ka + 1, 3, none⟩ = some (.slice none 0 0) := NZ.cell 3
  have f3 : w4.frozen? ⟨ka + 1, 3, none⟩ = false := NZ.free 3
  have n4 : w4.cell? ⟨ka + 1, 4, none⟩ = some (.string ⟨#[]⟩) := NZ.cell 4
  have f4 : w4.frozen? ⟨ka + 1, 4, none⟩ = false := NZ.free 4
  have n5 : w4.cell? ⟨ka + 1, 5, none⟩ = some (.slice none 0 0) := NZ.cell 5
  have f5 : w4.frozen? ⟨ka + 1, 5, none⟩ = false := NZ.free 5
  have n6 : w4.cell? ⟨ka + 1, 6, none⟩ = some (.int .i64 0) := NZ.cell 6
  have f6 : w4.frozen? ⟨ka + 1, 6, none⟩ = false := NZ.free 6
  have n7 : w4.cell? ⟨ka + 1, 7, none⟩ = some (.int .i64 0) := NZ.cell 7
  have f7 : w4.frozen? ⟨ka + 1, 7, none⟩ = false := NZ.free 7
  have n8 : w4.cell? ⟨ka + 1, 8, none⟩ = some (.slice none 0 0) := NZ.cell 8
  have f8 : w4.frozen? ⟨ka + 1, 8, none⟩ = false := NZ.free 8
  have HP := hide hp
  have FF := hide (fun v0 v1 v2 v3 v4 v5 v6 v7 v8 => (unhide HP).fin (B := fun b => b = ka + 1) (unhide HO2) (only9 _ _ _ _ _ _ _ _ _ _ _ : Only _ _ ((((((((((w4.setCell ⟨ka + 1, 0, none⟩ v0).setCell ⟨ka + 1, 1, none⟩ v1).setCell ⟨ka + 1, 2, none⟩ v2).setCell ⟨ka + 1, 3, none⟩ v3).setCell ⟨ka + 1, 4, none⟩ v4).setCell ⟨ka + 1, 5, none⟩ v5).setCell ⟨ka + 1, 6, none⟩ v6).setCell ⟨ka + 1, 7, none⟩ v7).setCell ⟨ka + 1, 8, none⟩ v8))) (fun k h => by have h' : k = ka + 1 := h; have := unhide Hka; omega) (fun k h => by have := unhide HDl k h; have := unhide Hka; omega))
  have HG := hide (fun v0 v1 v2 v3 v4 v5 v6 v7 v8 => set9 (unhide HNZ) v0 v1 v2 v3 v4 v5 v6 v7 v8)
  clear C2 a1 a4 k0 k1 k2 hp NZ
  go_wp2_with fail
  exact bodyPost_ret (res1_an Tryz.results30 _ rfl (unhide HG _ _ _ _ _ _ _ _ _) rfl) rfl (unhide FF _ _ _ _ _ _ _ _ _)
set_option maxRecDepth 100000 in
set_option maxHeartbeats 2000000 in
theorem pm10_any (D0 : NX w m M U none H) (ok : MuOk M) (a bb cc : Int) (s t : ByteArray) (hT : t.size ≤ maxLen) : Calls Tryz.prog 30 #[.pointer (some ⟨m, 0, none⟩), opX 10 a bb cc s t] w (PmP w m M U H 10 a bb cc s t) := by
  have o1 : Only (fun _ => False) w ((w.alloc (.cells #[.int .i64 10, .int .i64 a, .int .i64 bb, .int .i64 cc, .string s, .string t] 44)).alloc (.cells #[.int .i64 0, .int .i64 0, .slice none 0 0, .slice none 0 0, .string ⟨#[]⟩, .slice none 0 0, .int .i64 0, .int .i64 0, .slice none 0 0] 54)) := ((Only.refl _ _).alloc _).alloc _
  have A1 : Has ((w.alloc (.cells #[.int .i64 10, .int .i64 a, .int .i64 bb, .int .i64 cc, .string s, .string t] 44)).alloc (.cells #[.int .i64 0, .int .i64 0, .slice none 0 0, .slice none 0 0, .string ⟨#[]⟩, .slice none 0 0, .int .i64 0, .int .i64 0, .slice none 0 0] 54)) w.heap.size #[.int .i64 10, .int .i64 a, .int .i64 bb, .int .i64 cc, .string s, .string t] 44 := (Has.new w _ _).alloc _
  have B1 : Has ((w.alloc (.cells #[.int .i64 10, .int .i64 a, .int .i64 bb, .int .i64 cc, .string s, .string t] 44)).alloc (.cells #[.int .i64 0, .int .i64 0, .slice none 0 0, .slice none 0 0, .string ⟨#[]⟩, .slice none 0 0, .int .i64 0, .int .i64 0, .slice none 0 0] 54)) (w.heap.size + 1) #[.int .i64 0, .int .i64 0, .slice none 0 0, .slice none 0 0, .string ⟨#[]⟩, .slice none 0 0, .int .i64 0, .int .i64 0, .slice none 0 0] 54 := Has.new' _ _ _ _ (by simp)
  have HD := hide (D0.quiet o1)
  have HDl := hide (show ∀ b, H b → b < w.heap.size from D0.lt)
  have HOK := hide ok
  have HA := hide A1
  have HB := hide B1
  have HO := hide o1
  have HT := hide hT
  clear D0 o1 A1 B1 hT ok
  unfold opX
  go_enter Tryz.func30, Tryz.ntmps30
  go_upto_region 1 with fail
  generalize ((w.alloc (.cells #[.int .i64 10, .int .i64 a, .int .i64 bb, .int .i64 cc, .string s, .string t] 44)).alloc (.cells #[.int .i64 0, .int .i64 0, .slice none 0 0, .slice none 0 0, .string ⟨#[]⟩, .slice none 0 0, .int .i64 0, .int .i64 0, .slice none 0 0] 54)) = w1 at *
  have ka1 := (unhide HA).lt
  have kb1 := (unhide HB).lt
  generalize hka : w.heap.size = ka at *
  have Hka := hide hka
  clear hka
  have a0 : w1.cell? ⟨ka, 0, none⟩ = some (.int .i64 10) := (unhide HA).cell 0
  have a5 : w1.cell? ⟨ka, 5, none⟩ = some (.string t) := (unhide HA).cell 5
  have C1 := eFirst_any t (unhide HT) w1
  obtain ⟨key, hkey⟩ : ∃ key, fstP t = key := ⟨_, rfl⟩
  rw [hkey] at C1
  unfold vlA at C1
  have C1 := hide C1
  have Hkey := hide hkey
  clear hkey
  go_wp2_with fail
  refine (unhide C1).mono ?_
  rintro e w2 ⟨rfl, o2⟩
  have oA : Only (fun _ => False) w2 (w2.alloc (.cells #[.bool key.str, .int .i64 key.i, .string key.s] 106)) := (Only.refl _ _).alloc _
  have HK2 := hide (Has.new w2 #[.bool key.str, .int .i64 key.i, .string key.s] 106)
  have o3 := o2.trans oA (fun _ _ h => h)
  have HD2 := hide ((unhide HD).quiet o3)
  have HA2 := hide ((unhide HA).keep o3 (fun h => h))
  have HBx := hide ((unhide HB).keep o3 (fun h => h))
  have HO2 := hide ((unhide HO).trans o3 (fun _ _ h => h))
  have s3 := o3.size
  clear C1 o2 oA o3 a0 a5
  go_upto_region 26 with fail
  generalize w2.alloc (.cells #[.bool key.str, .int .i64 key.i, .string key.s] 106) = w3 at *
  generalize w2.heap.size = kk at *
  have a1 : w3.cell? ⟨ka, 1, none⟩ = some (.int .i64 a) := (unhide HA2).cell 1
  have a4 : w3.cell? ⟨ka, 4, none⟩ = some (.string s) := (unhide HA2).cell 4
  have k0 : w3.cell? ⟨kk, 0, none⟩ = some (.bool key.str) := (unhide HK2).cell 0
  have k1 : w3.cell? ⟨kk, 1, none⟩ = some (.int .i64 key.i) := (unhide HK2).cell 1
  have k2 : w3.cell? ⟨kk, 2, none⟩ = some (.string key.s) := (unhide HK2).cell 2
  have ka3 := (unhide HA2).lt
  have C2 := (n10_any (unhide HD2) (unhide HOK) a bb cc s t).mono (fun e w' h => PmP.row h)
  rw [unhide Hkey] at C2
  unfold vlA at C2
  have C2 := hide C2
  go_wp2_with fail
  refine (unhide C2).mono ?_
  rintro e w4 ⟨ra, rn, rc, z, rfl, hp⟩
  have NZ := (unhide HBx).keep hp.only (fun c => by have := unhide HDl (ka + 1) c; omega)
  have HNZ := hide NZ
  have kz := NZ.lt
  have n0 : w4.cell? ⟨ka + 1, 0, none⟩ = some (.int .i64 0) := NZ.cell 0
  have f0 : w4.frozen? ⟨ka + 1, 0, none⟩ = false := NZ.free 0
  have n1 : w4.cell? ⟨ka + 1, 1, none⟩ = some (.int .i64 0) := NZ.cell 1
  have f1 : w4.frozen? ⟨ka + 1, 1, none⟩ = false := NZ.free 1
  have n2 : w4.cell? ⟨ka + 1, 2, none⟩ = some (.slice none 0 0) := NZ.cell 2
  have f2 : w4.frozen? ⟨ka + 1, 2, none⟩ = false := NZ.free 2
  have n3 : w4.cell? ⟨ka + 1, 3, none⟩ = some (.slice none 0 0) := NZ.cell 3
  have f3 : w4.frozen? ⟨ka + 1, 3, none⟩ = false := NZ.free 3
  have n4 : w4.cell? ⟨ka + 1, 4, none⟩ = some (.string ⟨#[]⟩) := NZ.cell 4
  have f4 : w4.frozen? ⟨ka + 1, 4, none⟩ = false := NZ.free 4
  have n5 : w4.cell? ⟨ka + 1, 5, none⟩ = some (.slice none 0 0) := NZ.cell 5
  have f5 : w4.frozen? ⟨ka + 1, 5, none⟩ = false := NZ.free 5
  have n6 : w4.cell? ⟨ka + 1, 6, none⟩ = some (.int .i64 0) := NZ.cell 6
  have f6 : w4.frozen? ⟨ka + 1, 6, none⟩ = false := NZ.free 6
  have n7 : w4.cell? ⟨ka + 1, 7, none⟩ = some (.int .i64 0) := NZ.cell 7
  have f7 : w4.frozen? ⟨ka + 1, 7, none⟩ = false := NZ.free 7
  have n8 : w4.cell? ⟨ka + 1, 8, none⟩ = some (.slice none 0 0) := NZ.cell 8
  have f8 : w4.frozen? ⟨ka + 1, 8, none⟩ = false := NZ.free 8
  have HP := hide hp
  have FF := hide (fun v0 v1 v2 v3 v4 v5 v6 v7 v8 => (unhide HP).fin (B := fun b => b = ka + 1) (unhide HO2) (only9 _ _ _ _ _ _ _ _ _ _ _ : Only _ _ ((((((((((w4.setCell ⟨ka + 1, 0, none⟩ v0).setCell ⟨ka + 1, 1, none⟩ v1).setCell ⟨ka + 1, 2, none⟩ v2).setCell ⟨ka + 1, 3, none⟩ v3).setCell ⟨ka + 1, 4, none⟩ v4).setCell ⟨ka + 1, 5, none⟩ v5).setCell ⟨ka + 1, 6, none⟩ v6).setCell ⟨ka + 1, 7, none⟩ v7).setCell ⟨ka + 1, 8, none⟩ v8))) (fun k h => by have h' : k = ka + 1 := h; have := unhide Hka; omega) (fun k h => by have := unhide HDl k h; have := unhide Hka; omega))
  have HG := hide (fun v0 v1 v2 v3 v4 v5 v6 v7 v8 => set9 (unhide HNZ) v0 v1 v2 v3 v4 v5 v6 v7 v8)
  clear C2 a1 a4 k0 k1 k2 hp NZ
  go_wp2_with fail
  exact bodyPost_ret (res1_an Tryz.results30 _ rfl (unhide HG _ _ _ _ _ _ _ _ _) rfl) rfl (unhide FF _ _ _ _ _ _ _ _ _)
set_option maxRecDepth 100000 in
set_option maxHeartbeats 2000000 in
theorem pm11_any (D0 : NX w m M U none H) (ok : MuOk M) (a bb cc : Int) (s t : ByteArray) (hT : t.size ≤ maxLen) : Calls Tryz.prog 30 #[.pointer (some ⟨m, 0, none⟩), opX 11 a bb cc s t] w (PmP w m M U H 11 a bb cc s t) := by
  have o1 : Only (fun _ => False) w ((w.alloc (.cells #[.int .i64 11, .int .i64 a, .int .i64 bb, .int .i64 cc, .string s, .string t] 44)).alloc (.cells #[.int .i64 0, .int .i64 0, .slice none 0 0, .slice none 0 0, .string ⟨#[]⟩, .slice none 0 0, .int .i64 0, .int .i64 0, .slice none 0 0] 54)) := ((Only.refl _ _).alloc _).alloc _
  have A1 : Has ((w.alloc (.cells #[.int .i64 11, .int .i64 a, .int .i64 bb, .int .i64 cc, .string s, .string t] 44)).alloc (.cells #[.int .i64 0, .int .i64 0, .slice none 0 0, .slice none 0 0, .string ⟨#[]⟩, .slice none 0 0, .int .i64 0, .int .i64 0, .slice none 0 0] 54)) w.heap.size #[.int .i64 11, .int .i64 a, .int .i64 bb, .int .i64 cc, .string s, .string t] 44 := (Has.new w _ _).alloc _
  have B1 : Has ((w.alloc (.cells #[.int .i64 11, .int .i64 a, .int .i64 bb, .int .i64 cc, .string s, .string t] 44)).alloc (.cells #[.int .i64 0, .int .i64 0, .slice none 0 0, .slice none 0 0, .string ⟨#[]⟩, .slice none 0 0, .int .i64 0, .int .i64 0, .slice none 0 0] 54)) (w.heap.size + 1) #[.int .i64 0, .int .i64 0, .slice none 0 0, .slice none 0 0, .string ⟨#[]⟩, .slice none 0 0, .int .i64 0, .int .i64 0, .slice none 0 0] 54 := Has.new' _ _ _ _ (by simp)
  have HD := hide (D0.quiet o1)
  have HDl := hide (show ∀ b, H b → b < w.heap.size from D0.lt)
  have HOK := hide ok
  have HA := hide A1
  have HB := hide B1
  have HO := hide o1
  have HT := hide hT
  clear D0 o1 A1 B1 hT ok
  unfold opX
  go_enter Tryz.func30, Tryz.ntmps30
  go_upto_region 1 with fail
  generalize ((w.alloc (.cells #[.int .i64 11, .int .i64 a, .int .i64 bb, .int .i64 cc, .string s, .string t] 44)).alloc (.cells #[.int .i64 0, .int .i64 0, .slice none 0 0, .slice none 0 0, .string ⟨#[]⟩, .slice none 0 0, .int .i64 0, .int .i64 0, .slice none 0 0] 54)) = w1 at *
  have ka1 := (unhide HA).lt
  have kb1 := (unhide HB).lt
  generalize hka : w.heap.size = ka at *
  have Hka := hide hka
  clear hka
  have a0 : w1.cell? ⟨ka, 0, none⟩ = some (.int .i64 11) := (unhide HA).cell 0
  have a1 : w1.cell? ⟨ka, 1, none⟩ = some (.int .i64 a) := (unhide HA).cell 1
  have a2 : w1.cell? ⟨ka, 2, none⟩ = some (.int .i64 bb) := (unhide HA).cell 2
  have a3 : w1.cell? ⟨ka, 3, none⟩ = some (.int .i64 cc) := (unhide HA).cell 3
  have a4 : w1.cell? ⟨ka, 4, none⟩ = some (.string s) := (unhide HA).cell 4
  have a5 : w1.cell? ⟨ka, 5, none⟩ = some (.string t) := (unhide HA).cell 5
  obtain ⟨key, hkey⟩ : ∃ key, fstP t = key := ⟨_, rfl⟩
  obtain ⟨kez, hkez⟩ : ∃ key, sndP t = key := ⟨_, rfl⟩
  obtain ⟨lb, hlb⟩ : ∃ lb : Bool, (bits BinOp.and IntKind.i64 cc 1 != 0) = lb := ⟨_, rfl⟩
  obtain ⟨ub, hub⟩ : ∃ ub : Bool, (bits BinOp.and IntKind.i64 cc 2 != 0) = ub := ⟨_, rfl⟩
  have C1 := lo_any 11 a bb cc s t (unhide HT) w1
  rw [hkey, hlb] at C1
  unfold opX bdA at C1
  have C1 := hide C1
  have Hk := hide (And.intro (And.intro hkey hkez) (And.intro hlb hub))
  clear hkey hkez hlb hub
  go_wp2_with fail
  refine (unhide C1).mono ?_
  rintro e w2 ⟨rfl, o2⟩
  have oA : Only (fun _ => False) w2 (w2.alloc (.cells #[.bool lb, .bool key.str, .int .i64 key.i, .string key.s] 113)) := (Only.refl _ _).alloc _
  have HL2 := hide (Has.new w2 #[.bool lb, .bool key.str, .int .i64 key.i, .string key.s] 113)
  have o3 := o2.trans oA (fun _ _ h => h)
  have HDa := hide ((unhide HD).quiet o3)
  have HAa := hide ((unhide HA).keep o3 (fun h => h))
  have HBa := hide ((unhide HB).keep o3 (fun h => h))
  have HOa := hide ((unhide HO).trans o3 (fun _ _ h => h))
  have s3 := o3.size
  clear C1 o2 oA o3 a0 a1 a2 a3 a4 a5
  go_upto_region 30 with fail
  generalize w2.alloc (.cells #[.bool lb, .bool key.str, .int .i64 key.i, .string key.s] 113) = w3 at *
  generalize w2.heap.size = kl at *
  have a0 : w3.cell? ⟨ka, 0, none⟩ = some (.int .i64 11) := (unhide HAa).cell 0
  have a1 : w3.cell? ⟨ka, 1, none⟩ = some (.int .i64 a) := (unhide HAa).cell 1
  have a2 : w3.cell? ⟨ka, 2, none⟩ = some (.int .i64 bb) := (unhide HAa).cell 2
  have a3 : w3.cell? ⟨ka, 3, none⟩ = some (.int .i64 cc) := (unhide HAa).cell 3
  have a4 : w3.cell? ⟨ka, 4, none⟩ = some (.string s) := (unhide HAa).cell 4
  have a5 : w3.cell? ⟨ka, 5, none⟩ = some (.string t) := (unhide HAa).cell 5
  have ka3 := (unhide HAa).lt
  have C1 := hi_any 11 a bb cc s t (unhide HT) w3
  rw [(unhide Hk).1.2, (unhide Hk).2.2] at C1
  unfold opX bdA at C1
  have C1 := hide C1
  go_wp2_with fail
  refine (unhide C1).mono ?_
  rintro e wa ⟨rfl, o2⟩
  have oA : Only (fun _ => False) wa (wa.alloc (.cells #[.bool ub, .bool kez.str, .int .i64 kez.i, .string kez.s] 113)) := (Only.refl _ _).alloc _
  have HU2 := hide (Has.new wa #[.bool ub, .bool kez.str, .int .i64 kez.i, .string kez.s] 113)
  have o3 := o2.trans oA (fun _ _ h => h)
  have HD2 := hide ((unhide HDa).quiet o3)
  have HA2 := hide ((unhide HAa).keep o3 (fun h => h))
  have HBx := hide ((unhide HBa).keep o3 (fun h => h))
  have HL3 := hide ((unhide HL2).keep o3 (fun h => h))
  have HO2 := hide ((unhide HOa).trans o3 (fun _ _ h => h))
  have s3b := o3.size
  clear C1 o2 oA o3 a0 a1 a2 a3 a4 a5 HDa HAa HBa HOa HL2
  go_upto_region 31 with fail
  generalize wa.alloc (.cells #[.bool ub, .bool kez.str, .int .i64 kez.i, .string kez.s] 113) = wb at *
  generalize wa.heap.size = ku at *
  have a1 : wb.cell? ⟨ka, 1, none⟩ = some (.int .i64 a) := (unhide HA2).cell 1
  have a2 : wb.cell? ⟨ka, 2, none⟩ = some (.int .i64 bb) := (unhide HA2).cell 2
  have a4 : wb.cell? ⟨ka, 4, none⟩ = some (.string s) := (unhide HA2).cell 4
  have l0 : wb.cell? ⟨kl, 0, none⟩ = some (.bool lb) := (unhide HL3).cell 0
  have l1 : wb.cell? ⟨kl, 1, none⟩ = some (.bool key.str) := (unhide HL3).cell 1
  have l2 : wb.cell? ⟨kl, 2, none⟩ = some (.int .i64 key.i) := (unhide HL3).cell 2
  have l3 : wb.cell? ⟨kl, 3, none⟩ = some (.string key.s) := (unhide HL3).cell 3
  have u0 : wb.cell? ⟨ku, 0, none⟩ = some (.bool ub) := (unhide HU2).cell 0
  have u1 : wb.cell? ⟨ku, 1, none⟩ = some (.bool kez.str) := (unhide HU2).cell 1
  have u2 : wb.cell? ⟨ku, 2, none⟩ = some (.int .i64 kez.i) := (unhide HU2).cell 2
  have u3 : wb.cell? ⟨ku, 3, none⟩ = some (.string kez.s) := (unhide HU2).cell 3
  have kab := (unhide HA2).lt
  have C2 := (n11_any (unhide HD2) (unhide HOK) a bb cc s t).mono (fun e w' h => PmP.scn h)
  rw [(unhide Hk).1.1, (unhide Hk).1.2, (unhide Hk).2.1, (unhide Hk).2.2] at C2
  unfold bdA at C2
  have C2 := hide C2
  go_wp2_with fail
  refine (unhide C2).mono ?_
  rintro e w4 ⟨ra, rn, rc, z, rfl, hp⟩
  have NZ := (unhide HBx).keep hp.only (fun c => by have := unhide HDl (ka + 1) c; omega)
  have HNZ := hide NZ
  have kz := NZ.lt
  have n0 : w4.cell? ⟨ka + 1, 0, none⟩ = some (.int .i64 0) := NZ.cell 0
  have f0 : w4.frozen? ⟨ka + 1, 0, none⟩ = false := NZ.free 0
  have n1 : w4.cell? ⟨ka + 1, 1, none⟩ = some (.int .i64 0) := NZ.cell 1
  have f1 : w4.frozen? ⟨ka + 1, 1, none⟩ = false := NZ.free 1
  have n2 : w4.cell? ⟨ka + 1, 2, none⟩ = some (.slice none 0 0) := NZ.cell 2
  have f2 : w4.frozen? ⟨ka + 1, 2, none⟩ = false := NZ.free 2
  have n3 : w4.cell? ⟨ka + 1, 3, none⟩ = some (.slice none 0 0) := NZ.cell 3
  have f3 : w4.frozen? ⟨ka + 1, 3, none⟩ = false := NZ.free 3
  have n4 : w4.cell? ⟨ka + 1, 4, none⟩ = some (.string ⟨#[]⟩) := NZ.cell 4
  have f4 : w4.frozen? ⟨ka + 1, 4, none⟩ = false := NZ.free 4
  have n5 : w4.cell? ⟨ka + 1, 5, none⟩ = some (.slice none 0 0) := NZ.cell 5
  have f5 : w4.frozen? ⟨ka + 1, 5, none⟩ = false := NZ.free 5
  have n6 : w4.cell? ⟨ka + 1, 6, none⟩ = some (.int .i64 0) := NZ.cell 6
  have f6 : w4.frozen? ⟨ka + 1, 6, none⟩ = false := NZ.free 6
  have n7 : w4.cell? ⟨ka + 1, 7, none⟩ = some (.int .i64 0) := NZ.cell 7
  have f7 : w4.frozen? ⟨ka + 1, 7, none⟩ = false := NZ.free 7
  have n8 : w4.cell? ⟨ka + 1, 8, none⟩ = some (.slice none 0 0) := NZ.cell 8
  have f8 : w4.frozen? ⟨ka + 1, 8, none⟩ = false := NZ.free 8
  have HP := hide hp
  have FF := hide (fun v0 v1 v2 v3 v4 v5 v6 v7 v8 => (unhide HP).fin (B := fun b => b = ka + 1) (unhide HO2) (only9 _ _ _ _ _ _ _ _ _ _ _ : Only _ _ ((((((((((w4.setCell ⟨ka + 1, 0, none⟩ v0).setCell ⟨ka + 1, 1, none⟩ v1).setCell ⟨ka + 1, 2, none⟩ v2).setCell ⟨ka + 1, 3, none⟩ v3).setCell ⟨ka + 1, 4, none⟩ v4).setCell ⟨ka + 1, 5, none⟩ v5).setCell ⟨ka + 1, 6, none⟩ v6).setCell ⟨ka + 1, 7, none⟩ v7).setCell ⟨ka + 1, 8, none⟩ v8))) (fun k h => by have h' : k = ka + 1 := h; have := unhide Hka; omega) (fun k h => by have := unhide HDl k h; have := unhide Hka; omega))
  have HG := hide (fun v0 v1 v2 v3 v4 v5 v6 v7 v8 => set9 (unhide HNZ) v0 v1 v2 v3 v4 v5 v6 v7 v8)
  clear C2 a1 a2 a4 l0 l1 l2 l3 u0 u1 u2 u3 hp NZ
  go_wp2_with fail
  exact bodyPost_ret (res1_an Tryz.results30 _ rfl (unhide HG _ _ _ _ _ _ _ _ _) rfl) rfl (unhide FF _ _ _ _ _ _ _ _ _)
set_option maxRecDepth 100000 in
set_option maxHeartbeats 2000000 in
theorem pm14_any (D0 : NX w m M U none H) (ok : MuOk M) (a bb cc : Int) (s t : ByteArray) (hT : t.size ≤ maxLen) : Calls Tryz.prog 30 #[.pointer (some ⟨m, 0, none⟩), opX 14 a bb cc s t] w (PmP w m M U H 14 a bb cc s t) := by
  have o1 : Only (fun _ => False) w ((w.alloc (.cells #[.int .i64 14, .int .i64 a, .int .i64 bb, .int .i64 cc, .string s, .string t] 44)).alloc (.cells #[.int .i64 0, .int .i64 0, .slice none 0 0, .slice none 0 0, .string ⟨#[]⟩, .slice none 0 0, .int .i64 0, .int .i64 0, .slice none 0 0] 54)) := ((Only.refl _ _).alloc _).alloc _
  have A1 : Has ((w.alloc (.cells #[.int .i64 14, .int .i64 a, .int .i64 bb, .int .i64 cc, .string s, .string t] 44)).alloc (.cells #[.int .i64 0, .int .i64 0, .slice none 0 0, .slice none 0 0, .string ⟨#[]⟩, .slice none 0 0, .int .i64 0, .int .i64 0, .slice none 0 0] 54)) w.heap.size #[.int .i64 14, .int .i64 a, .int .i64 bb, .int .i64 cc, .string s, .string t] 44 := (Has.new w _ _).alloc _
  have B1 : Has ((w.alloc (.cells #[.int .i64 14, .int .i64 a, .int .i64 bb, .int .i64 cc, .string s, .string t] 44)).alloc (.cells #[.int .i64 0, .int .i64 0, .slice none 0 0, .slice none 0 0, .string ⟨#[]⟩, .slice none 0 0, .int .i64 0, .int .i64 0, .slice none 0 0] 54)) (w.heap.size + 1) #[.int .i64 0, .int .i64 0, .slice none 0 0, .slice none 0 0, .string ⟨#[]⟩, .slice none 0 0, .int .i64 0, .int .i64 0, .slice none 0 0] 54 := Has.new' _ _ _ _ (by simp)
  have HD := hide (D0.quiet o1)
  have HDl := hide (show ∀ b, H b → b < w.heap.size from D0.lt)
  have HOK := hide ok
  have HA := hide A1
  have HB := hide B1
  have HO := hide o1
  have HT := hide hT
  clear D0 o1 A1 B1 hT ok
  unfold opX
  go_enter Tryz.func30, Tryz.ntmps30
  go_upto_region 1 with fail
  generalize ((w.alloc (.cells #[.int .i64 14, .int .i64 a, .int .i64 bb, .int .i64 cc, .string s, .string t] 44)).alloc (.cells #[.int .i64 0, .int .i64 0, .slice none 0 0, .slice none 0 0, .string ⟨#[]⟩, .slice none 0 0, .int .i64 0, .int .i64 0, .slice none 0 0] 54)) = w1 at *
  have ka1 := (unhide HA).lt
  have kb1 := (unhide HB).lt
  generalize hka : w.heap.size = ka at *
  have Hka := hide hka
  clear hka
  have a0 : w1.cell? ⟨ka, 0, none⟩ = some (.int .i64 14) := (unhide HA).cell 0
  have a1 : w1.cell? ⟨ka, 1, none⟩ = some (.int .i64 a) := (unhide HA).cell 1
  have a4 : w1.cell? ⟨ka, 4, none⟩ = some (.string s) := (unhide HA).cell 4
  have HBx := HB
  have C2 := hide ((n14_any (unhide HD) (unhide HOK) a bb cc s t).mono (fun e w' h => PmP.scn h))
  go_wp2_with fail
  refine (unhide C2).mono ?_
  rintro e w4 ⟨ra, rn, rc, z, rfl, hp⟩
  have NZ := (unhide HBx).keep hp.only (fun c => by have := unhide HDl (ka + 1) c; omega)
  have HNZ := hide NZ
  have kz := NZ.lt
  have n0 : w4.cell? ⟨ka + 1, 0, none⟩ = some (.int .i64 0) := NZ.cell 0
  have f0 : w4.frozen? ⟨ka + 1, 0, none⟩ = false := NZ.free 0
  have n1 : w4.cell? ⟨ka + 1, 1, none⟩ = some (.int .i64 0) := NZ.cell 1
  have f1 : w4.frozen? ⟨ka + 1, 1, none⟩ = false := NZ.free 1
  have n2 : w4.cell? ⟨ka + 1, 2, none⟩ = some (.slice none 0 0) := NZ.cell 2
  have f2 : w4.frozen? ⟨ka + 1, 2, none⟩ = false := NZ.free 2
  have n3 : w4.cell? ⟨ka + 1, 3, none⟩ = some (.slice none 0 0) := NZ.cell 3
  have f3 : w4.frozen? ⟨ka + 1, 3, none⟩ = false := NZ.free 3
  have n4 : w4.cell? ⟨ka + 1, 4, none⟩ = some (.string ⟨#[]⟩) := NZ.cell 4
  have f4 : w4.frozen? ⟨ka + 1, 4, none⟩ = false := NZ.free 4
  have n5 : w4.cell? ⟨ka + 1, 5, none⟩ = some (.slice none 0 0) := NZ.cell 5
  have f5 : w4.frozen? ⟨ka + 1, 5, none⟩ = false := NZ.free 5
  have n6 : w4.cell? ⟨ka + 1, 6, none⟩ = some (.int .i64 0) := NZ.cell 6
  have f6 : w4.frozen? ⟨ka + 1, 6, none⟩ = false := NZ.free 6
  have n7 : w4.cell? ⟨ka + 1, 7, none⟩ = some (.int .i64 0) := NZ.cell 7
  have f7 : w4.frozen? ⟨ka + 1, 7, none⟩ = false := NZ.free 7
  have n8 : w4.cell? ⟨ka + 1, 8, none⟩ = some (.slice none 0 0) := NZ.cell 8
  have f8 : w4.frozen? ⟨ka + 1, 8, none⟩ = false := NZ.free 8
  have HP := hide hp
  have FF := hide (fun v0 v1 v2 v3 v4 v5 v6 v7 v8 => (unhide HP).fin (B := fun b => b = ka + 1) (unhide HO) (only9 _ _ _ _ _ _ _ _ _ _ _ : Only _ _ ((((((((((w4.setCell ⟨ka + 1, 0, none⟩ v0).setCell ⟨ka + 1, 1, none⟩ v1).setCell ⟨ka + 1, 2, none⟩ v2).setCell ⟨ka + 1, 3, none⟩ v3).setCell ⟨ka + 1, 4, none⟩ v4).setCell ⟨ka + 1, 5, none⟩ v5).setCell ⟨ka + 1, 6, none⟩ v6).setCell ⟨ka + 1, 7, none⟩ v7).setCell ⟨ka + 1, 8, none⟩ v8))) (fun k h => by have h' : k = ka + 1 := h; have := unhide Hka; omega) (fun k h => by have := unhide HDl k h; have := unhide Hka; omega))
  have HG := hide (fun v0 v1 v2 v3 v4 v5 v6 v7 v8 => set9 (unhide HNZ) v0 v1 v2 v3 v4 v5 v6 v7 v8)
  clear C2 a0 a1 a4 hp NZ
  go_wp2_with fail
  exact bodyPost_ret (res1_an Tryz.results30 _ rfl (unhide HG _ _ _ _ _ _ _ _ _) rfl) rfl (unhide FF _ _ _ _ _ _ _ _ _)
set_option maxRecDepth 100000 in
set_option maxHeartbeats 2000000 in
theorem pm12_any (D0 : NX w m M U none H) (ok : MuOk M) (a bb cc : Int) (s t : ByteArray) (hT : t.size ≤ maxLen) : Calls Tryz.prog 30 #[.pointer (some ⟨m, 0, none⟩), opX 12 a bb cc s t] w (PmP w m M U H 12 a bb cc s t) := by
  have o1 : Only (fun _ => False) w ((w.alloc (.cells #[.int .i64 12, .int .i64 a, .int .i64 bb, .int .i64 cc, .string s, .string t] 44)).alloc (.cells #[.int .i64 0, .int .i64 0, .slice none 0 0, .slice none 0 0, .string ⟨#[]⟩, .slice none 0 0, .int .i64 0, .int .i64 0, .slice none 0 0] 54)) := ((Only.refl _ _).alloc _).alloc _
  have A1 : Has ((w.alloc (.cells #[.int .i64 12, .int .i64 a, .int .i64 bb, .int .i64 cc, .string s, .string t] 44)).alloc (.cells #[.int .i64 0, .int .i64 0, .slice none 0 0, .slice none 0 0, .string ⟨#[]⟩, .slice none 0 0, .int .i64 0, .int .i64 0, .slice none 0 0] 54)) w.heap.size #[.int .i64 12, .int .i64 a, .int .i64 bb, .int .i64 cc, .string s, .string t] 44 := (Has.new w _ _).alloc _
  have B1 : Has ((w.alloc (.cells #[.int .i64 12, .int .i64 a, .int .i64 bb, .int .i64 cc, .string s, .string t] 44)).alloc (.cells #[.int .i64 0, .int .i64 0, .slice none 0 0, .slice none 0 0, .string ⟨#[]⟩, .slice none 0 0, .int .i64 0, .int .i64 0, .slice none 0 0] 54)) (w.heap.size + 1) #[.int .i64 0, .int .i64 0, .slice none 0 0, .slice none 0 0, .string ⟨#[]⟩, .slice none 0 0, .int .i64 0, .int .i64 0, .slice none 0 0] 54 := Has.new' _ _ _ _ (by simp)
  have HD := hide (D0.quiet o1)
  have HDl := hide (show ∀ b, H b → b < w.heap.size from D0.lt)
  have HOK := hide ok
  have HA := hide A1
  have HB := hide B1
  have HO := hide o1
  have HT := hide hT
  clear D0 o1 A1 B1 hT ok
  unfold opX
  go_enter Tryz.func30, Tryz.ntmps30
  go_upto_region 1 with fail
  generalize ((w.alloc (.cells #[.int .i64 12, .int .i64 a, .int .i64 bb, .int .i64 cc, .string s, .string t] 44)).alloc (.cells #[.int .i64 0, .int .i64 0, .slice none 0 0, .slice none 0 0, .string ⟨#[]⟩, .slice none 0 0, .int .i64 0, .int .i64 0, .slice none 0 0] 54)) = w1 at *
  have ka1 := (unhide HA).lt
  have kb1 := (unhide HB).lt
  generalize hka : w.heap.size = ka at *
  have Hka := hide hka
  clear hka
  have a0 : w1.cell? ⟨ka, 0, none⟩ = some (.int .i64 12) := (unhide HA).cell 0
  have a1 : w1.cell? ⟨ka, 1, none⟩ = some (.int .i64 a) := (unhide HA).cell 1
  have C1 := xnactive_any (unhide HD) a
  have HQ := hide (show PmP w1 m M U H 12 a bb cc s t (.returned (.agg (anC AnM.z (anN (if (decide (gdS a) && M.act a.toNat) = true then 1 else 0))))) w1 from PmP.obs (unhide HD) .act (AnAt.zero _ _ _) (fun b h => absurd h AnB.z))
  obtain ⟨b, hb⟩ : ∃ b : Bool, (decide (gdS a) && M.act a.toNat) = b := ⟨_, rfl⟩
  rw [hb] at C1 HQ
  have C2 := xbit_any b w1
  obtain ⟨z, hz⟩ : ∃ z : Int, (if b = true then 1 else 0) = z := ⟨_, rfl⟩
  rw [hz] at C2 HQ
  have C1 := hide C1
  have C2 := hide C2
  have HNZ := HB
  have n0 : w1.cell? ⟨ka + 1, 0, none⟩ = some (.int .i64 0) := (unhide HB).cell 0
  have f0 : w1.frozen? ⟨ka + 1, 0, none⟩ = false := (unhide HB).free 0
  have n1 : w1.cell? ⟨ka + 1, 1, none⟩ = some (.int .i64 0) := (unhide HB).cell 1
  have f1 : w1.frozen? ⟨ka + 1, 1, none⟩ = false := (unhide HB).free 1
  have n2 : w1.cell? ⟨ka + 1, 2, none⟩ = some (.slice none 0 0) := (unhide HB).cell 2
  have f2 : w1.frozen? ⟨ka + 1, 2, none⟩ = false := (unhide HB).free 2
  have n3 : w1.cell? ⟨ka + 1, 3, none⟩ = some (.slice none 0 0) := (unhide HB).cell 3
  have f3 : w1.frozen? ⟨ka + 1, 3, none⟩ = false := (unhide HB).free 3
  have n4 : w1.cell? ⟨ka + 1, 4, none⟩ = some (.string ⟨#[]⟩) := (unhide HB).cell 4
  have f4 : w1.frozen? ⟨ka + 1, 4, none⟩ = false := (unhide HB).free 4
  have n5 : w1.cell? ⟨ka + 1, 5, none⟩ = some (.slice none 0 0) := (unhide HB).cell 5
  have f5 : w1.frozen? ⟨ka + 1, 5, none⟩ = false := (unhide HB).free 5
  have n6 : w1.cell? ⟨ka + 1, 6, none⟩ = some (.int .i64 0) := (unhide HB).cell 6
  have f6 : w1.frozen? ⟨ka + 1, 6, none⟩ = false := (unhide HB).free 6
  have n7 : w1.cell? ⟨ka + 1, 7, none⟩ = some (.int .i64 0) := (unhide HB).cell 7
  have f7 : w1.frozen? ⟨ka + 1, 7, none⟩ = false := (unhide HB).free 7
  have n8 : w1.cell? ⟨ka + 1, 8, none⟩ = some (.slice none 0 0) := (unhide HB).cell 8
  have f8 : w1.frozen? ⟨ka + 1, 8, none⟩ = false := (unhide HB).free 8
  have FF := hide (fun v0 v1 v2 v3 v4 v5 v6 v7 v8 => (unhide HQ).fin (B := fun b => b = ka + 1) (unhide HO) (only9 _ _ _ _ _ _ _ _ _ _ _ : Only _ _ ((((((((((w1.setCell ⟨ka + 1, 0, none⟩ v0).setCell ⟨ka + 1, 1, none⟩ v1).setCell ⟨ka + 1, 2, none⟩ v2).setCell ⟨ka + 1, 3, none⟩ v3).setCell ⟨ka + 1, 4, none⟩ v4).setCell ⟨ka + 1, 5, none⟩ v5).setCell ⟨ka + 1, 6, none⟩ v6).setCell ⟨ka + 1, 7, none⟩ v7).setCell ⟨ka + 1, 8, none⟩ v8))) (fun k h => by have h' : k = ka + 1 := h; have := unhide Hka; omega) (fun k h => by have := unhide HDl k h; have := unhide Hka; omega))
  have HG := hide (fun v0 v1 v2 v3 v4 v5 v6 v7 v8 => set9 (unhide HNZ) v0 v1 v2 v3 v4 v5 v6 v7 v8)
  clear hz hb
  go_wp2_with fail
  refine (unhide C1).mono ?_
  rintro e w2 ⟨rfl, rfl⟩
  clear C1 a0 a1
  go_wp2_with fail
  refine (unhide C2).mono ?_
  rintro e w2 ⟨rfl, rfl⟩
  clear C2
  go_wp2_with fail
  exact bodyPost_ret (res1_an Tryz.results30 _ rfl (unhide HG _ _ _ _ _ _ _ _ _) rfl) rfl (unhide FF _ _ _ _ _ _ _ _ _)
set_option maxRecDepth 100000 in
set_option maxHeartbeats 2000000 in
theorem pm13_any (D0 : NX w m M U none H) (ok : MuOk M) (a bb cc : Int) (s t : ByteArray) (hT : t.size ≤ maxLen) : Calls Tryz.prog 30 #[.pointer (some ⟨m, 0, none⟩), opX 13 a bb cc s t] w (PmP w m M U H 13 a bb cc s t) := by
  have o1 : Only (fun _ => False) w ((w.alloc (.cells #[.int .i64 13, .int .i64 a, .int .i64 bb, .int .i64 cc, .string s, .string t] 44)).alloc (.cells #[.int .i64 0, .int .i64 0, .slice none 0 0, .slice none 0 0, .string ⟨#[]⟩, .slice none 0 0, .int .i64 0, .int .i64 0, .slice none 0 0] 54)) := ((Only.refl _ _).alloc _).alloc _
  have A1 : Has ((w.alloc (.cells #[.int .i64 13, .int .i64 a, .int .i64 bb, .int .i64 cc, .string s, .string t] 44)).alloc (.cells #[.int .i64 0, .int .i64 0, .slice none 0 0, .slice none 0 0, .string ⟨#[]⟩, .slice none 0 0, .int .i64 0, .int .i64 0, .slice none 0 0] 54)) w.heap.size #[.int .i64 13, .int .i64 a, .int .i64 bb, .int .i64 cc, .string s, .string t] 44 := (Has.new w _ _).alloc _
  have B1 : Has ((w.alloc (.cells #[.int .i64 13, .int .i64 a, .int .i64 bb, .int .i64 cc, .string s, .string t] 44)).alloc (.cells #[.int .i64 0, .int .i64 0, .slice none 0 0, .slice none 0 0, .string ⟨#[]⟩, .slice none 0 0, .int .i64 0, .int .i64 0, .slice none 0 0] 54)) (w.heap.size + 1) #[.int .i64 0, .int .i64 0, .slice none 0 0, .slice none 0 0, .string ⟨#[]⟩, .slice none 0 0, .int .i64 0, .int .i64 0, .slice none 0 0] 54 := Has.new' _ _ _ _ (by simp)
  have HD := hide (D0.quiet o1)
  have HDl := hide (show ∀ b, H b → b < w.heap.size from D0.lt)
  have HOK := hide ok
  have HA := hide A1
  have HB := hide B1
  have HO := hide o1
  have HT := hide hT
  clear D0 o1 A1 B1 hT ok
  unfold opX
  go_enter Tryz.func30, Tryz.ntmps30
  go_upto_region 1 with fail
  generalize ((w.alloc (.cells #[.int .i64 13, .int .i64 a, .int .i64 bb, .int .i64 cc, .string s, .string t] 44)).alloc (.cells #[.int .i64 0, .int .i64 0, .slice none 0 0, .slice none 0 0, .string ⟨#[]⟩, .slice none 0 0, .int .i64 0, .int .i64 0, .slice none 0 0] 54)) = w1 at *
  have ka1 := (unhide HA).lt
  have kb1 := (unhide HB).lt
  generalize hka : w.heap.size = ka at *
  have Hka := hide hka
  clear hka
  have a0 : w1.cell? ⟨ka, 0, none⟩ = some (.int .i64 13) := (unhide HA).cell 0
  have a1 : w1.cell? ⟨ka, 1, none⟩ = some (.int .i64 a) := (unhide HA).cell 1
  have a4 : w1.cell? ⟨ka, 4, none⟩ = some (.string s) := (unhide HA).cell 4
  have C1 := xnlockOf_any (unhide HD) a s
  have HQ := hide (show PmP w1 m M U H 13 a bb cc s t (.returned (.agg (anC AnM.z (anN (if gdS a then M.lk a.toNat s else 0))))) w1 from PmP.obs (unhide HD) .lck (AnAt.zero _ _ _) (fun b h => absurd h AnB.z))
  obtain ⟨z, hz⟩ : ∃ z, (if gdS a then M.lk a.toNat s else 0) = z := ⟨_, rfl⟩
  rw [hz] at C1 HQ
  have C1 := hide C1
  have HNZ := HB
  have n0 : w1.cell? ⟨ka + 1, 0, none⟩ = some (.int .i64 0) := (unhide HB).cell 0
  have f0 : w1.frozen? ⟨ka + 1, 0, none⟩ = false := (unhide HB).free 0
  have n1 : w1.cell? ⟨ka + 1, 1, none⟩ = some (.int .i64 0) := (unhide HB).cell 1
  have f1 : w1.frozen? ⟨ka + 1, 1, none⟩ = false := (unhide HB).free 1
  have n2 : w1.cell? ⟨ka + 1, 2, none⟩ = some (.slice none 0 0) := (unhide HB).cell 2
  have f2 : w1.frozen? ⟨ka + 1, 2, none⟩ = false := (unhide HB).free 2
  have n3 : w1.cell? ⟨ka + 1, 3, none⟩ = some (.slice none 0 0) := (unhide HB).cell 3
  have f3 : w1.frozen? ⟨ka + 1, 3, none⟩ = false := (unhide HB).free 3
  have n4 : w1.cell? ⟨ka + 1, 4, none⟩ = some (.string ⟨#[]⟩) := (unhide HB).cell 4
  have f4 : w1.frozen? ⟨ka + 1, 4, none⟩ = false := (unhide HB).free 4
  have n5 : w1.cell? ⟨ka + 1, 5, none⟩ = some (.slice none 0 0) := (unhide HB).cell 5
  have f5 : w1.frozen? ⟨ka + 1, 5, none⟩ = false := (unhide HB).free 5
  have n6 : w1.cell? ⟨ka + 1, 6, none⟩ = some (.int .i64 0) := (unhide HB).cell 6
  have f6 : w1.frozen? ⟨ka + 1, 6, none⟩ = false := (unhide HB).free 6
  have n7 : w1.cell? ⟨ka + 1, 7, none⟩ = some (.int .i64 0) := (unhide HB).cell 7
  have f7 : w1.frozen? ⟨ka + 1, 7, none⟩ = false := (unhide HB).free 7
  have n8 : w1.cell? ⟨ka + 1, 8, none⟩ = some (.slice none 0 0) := (unhide HB).cell 8
  have f8 : w1.frozen? ⟨ka + 1, 8, none⟩ = false := (unhide HB).free 8
  have FF := hide (fun v0 v1 v2 v3 v4 v5 v6 v7 v8 => (unhide HQ).fin (B := fun b => b = ka + 1) (unhide HO) (only9 _ _ _ _ _ _ _ _ _ _ _ : Only _ _ ((((((((((w1.setCell ⟨ka + 1, 0, none⟩ v0).setCell ⟨ka + 1, 1, none⟩ v1).setCell ⟨ka + 1, 2, none⟩ v2).setCell ⟨ka + 1, 3, none⟩ v3).setCell ⟨ka + 1, 4, none⟩ v4).setCell ⟨ka + 1, 5, none⟩ v5).setCell ⟨ka + 1, 6, none⟩ v6).setCell ⟨ka + 1, 7, none⟩ v7).setCell ⟨ka + 1, 8, none⟩ v8))) (fun k h => by have h' : k = ka + 1 := h; have := unhide Hka; omega) (fun k h => by have := unhide HDl k h; have := unhide Hka; omega))
  have HG := hide (fun v0 v1 v2 v3 v4 v5 v6 v7 v8 => set9 (unhide HNZ) v0 v1 v2 v3 v4 v5 v6 v7 v8)
  clear hz
  go_wp2_with fail
  refine (unhide C1).mono ?_
  rintro e w2 ⟨rfl, rfl⟩
  clear C1 a0 a1 a4
  go_wp2_with fail
  exact bodyPost_ret (res1_an Tryz.results30 _ rfl (unhide HG _ _ _ _ _ _ _ _ _) rfl) rfl (unhide FF _ _ _ _ _ _ _ _ _)
set_option maxRecDepth 100000 in
set_option maxHeartbeats 2000000 in
theorem pm15_any (D0 : NX w m M U none H) (ok : MuOk M) (a bb cc : Int) (s t : ByteArray) (hT : t.size ≤ maxLen) : Calls Tryz.prog 30 #[.pointer (some ⟨m, 0, none⟩), opX 15 a bb cc s t] w (PmP w m M U H 15 a bb cc s t) := by
  have o1 : Only (fun _ => False) w ((w.alloc (.cells #[.int .i64 15, .int .i64 a, .int .i64 bb, .int .i64 cc, .string s, .string t] 44)).alloc (.cells #[.int .i64 0, .int .i64 0, .slice none 0 0, .slice none 0 0, .string ⟨#[]⟩, .slice none 0 0, .int .i64 0, .int .i64 0, .slice none 0 0] 54)) := ((Only.refl _ _).alloc _).alloc _
  have A1 : Has ((w.alloc (.cells #[.int .i64 15, .int .i64 a, .int .i64 bb, .int .i64 cc, .string s, .string t] 44)).alloc (.cells #[.int .i64 0, .int .i64 0, .slice none 0 0, .slice none 0 0, .string ⟨#[]⟩, .slice none 0 0, .int .i64 0, .int .i64 0, .slice none 0 0] 54)) w.heap.size #[.int .i64 15, .int .i64 a, .int .i64 bb, .int .i64 cc, .string s, .string t] 44 := (Has.new w _ _).alloc _
  have B1 : Has ((w.alloc (.cells #[.int .i64 15, .int .i64 a, .int .i64 bb, .int .i64 cc, .string s, .string t] 44)).alloc (.cells #[.int .i64 0, .int .i64 0, .slice none 0 0, .slice none 0 0, .string ⟨#[]⟩, .slice none 0 0, .int .i64 0, .int .i64 0, .slice none 0 0] 54)) (w.heap.size + 1) #[.int .i64 0, .int .i64 0, .slice none 0 0, .slice none 0 0, .string ⟨#[]⟩, .slice none 0 0, .int .i64 0, .int .i64 0, .slice none 0 0] 54 := Has.new' _ _ _ _ (by simp)
  have HD := hide (D0.quiet o1)
  have HDl := hide (show ∀ b, H b → b < w.heap.size from D0.lt)
  have HOK := hide ok
  have HA := hide A1
  have HB := hide B1
  have HO := hide o1
  have HT := hide hT
  clear D0 o1 A1 B1 hT ok
  unfold opX
  go_enter Tryz.func30, Tryz.ntmps30
  go_upto_region 1 with fail
  generalize ((w.alloc (.cells #[.int .i64 15, .int .i64 a, .int .i64 bb, .int .i64 cc, .string s, .string t] 44)).alloc (.cells #[.int .i64 0, .int .i64 0, .slice none 0 0, .slice none 0 0, .string ⟨#[]⟩, .slice none 0 0, .int .i64 0, .int .i64 0, .slice none 0 0] 54)) = w1 at *
  have ka1 := (unhide HA).lt
  have kb1 := (unhide HB).lt
  generalize hka : w.heap.size = ka at *
  have Hka := hide hka
  clear hka
  have a0 : w1.cell? ⟨ka, 0, none⟩ = some (.int .i64 15) := (unhide HA).cell 0
  have a4 : w1.cell? ⟨ka, 4, none⟩ = some (.string s) := (unhide HA).cell 4
  have C1 := (xnschema_any (unhide HD) s).mono (fun e w' h => PmP.sch (bb := bb) (cc := cc) (a := a) (t := t) (unhide HD) (unhide HOK) h)
  have C1 := hide C1
  go_wp2_with fail
  refine (unhide C1).mono ?_
  rintro e w2 ⟨x0, x1, x1n, x1c, x2, x3, z, rfl, hp⟩
  have oA : Only (fun _ => False) w2 (w2.alloc (.cells #[.string x0, .slice x1 x1n x1c, .int .i64 x2, .int .i64 x3] 51)) := (Only.refl _ _).alloc _
  have HS2 := hide (Has.new w2 #[.string x0, .slice x1 x1n x1c, .int .i64 x2, .int .i64 x3] 51)
  have hp3 := hp.quiet oA
  have NZ := ((unhide HB).keep hp.only (fun c => by have := unhide HDl (ka + 1) c; omega)).keep oA (fun e => e)
  have HNZ := hide NZ
  have kz := NZ.lt
  have HP := hide hp3
  clear hp hp3 C1 oA
  go_upto_region 43 with fail
  generalize w2.alloc (.cells #[.string x0, .slice x1 x1n x1c, .int .i64 x2, .int .i64 x3] 51) = w3 at *
  generalize w2.heap.size = kk at *
  have k0 : w3.cell? ⟨kk, 0, none⟩ = some (.string x0) := (unhide HS2).cell 0
  have k1 : w3.cell? ⟨kk, 1, none⟩ = some (.slice x1 x1n x1c) := (unhide HS2).cell 1
  have k2 : w3.cell? ⟨kk, 2, none⟩ = some (.int .i64 x2) := (unhide HS2).cell 2
  have k3 : w3.cell? ⟨kk, 3, none⟩ = some (.int .i64 x3) := (unhide HS2).cell 3
  have kl3 := (unhide HS2).lt
  have n0 : w3.cell? ⟨ka + 1, 0, none⟩ = some (.int .i64 0) := NZ.cell 0
  have f0 : w3.frozen? ⟨ka + 1, 0, none⟩ = false := NZ.free 0
  have n1 : w3.cell? ⟨ka + 1, 1, none⟩ = some (.int .i64 0) := NZ.cell 1
  have f1 : w3.frozen? ⟨ka + 1, 1, none⟩ = false := NZ.free 1
  have n2 : w3.cell? ⟨ka + 1, 2, none⟩ = some (.slice none 0 0) := NZ.cell 2
  have f2 : w3.frozen? ⟨ka + 1, 2, none⟩ = false := NZ.free 2
  have n3 : w3.cell? ⟨ka + 1, 3, none⟩ = some (.slice none 0 0) := NZ.cell 3
  have f3 : w3.frozen? ⟨ka + 1, 3, none⟩ = false := NZ.free 3
  have n4 : w3.cell? ⟨ka + 1, 4, none⟩ = some (.string ⟨#[]⟩) := NZ.cell 4
  have f4 : w3.frozen? ⟨ka + 1, 4, none⟩ = false := NZ.free 4
  have n5 : w3.cell? ⟨ka + 1, 5, none⟩ = some (.slice none 0 0) := NZ.cell 5
  have f5 : w3.frozen? ⟨ka + 1, 5, none⟩ = false := NZ.free 5
  have n6 : w3.cell? ⟨ka + 1, 6, none⟩ = some (.int .i64 0) := NZ.cell 6
  have f6 : w3.frozen? ⟨ka + 1, 6, none⟩ = false := NZ.free 6
  have n7 : w3.cell? ⟨ka + 1, 7, none⟩ = some (.int .i64 0) := NZ.cell 7
  have f7 : w3.frozen? ⟨ka + 1, 7, none⟩ = false := NZ.free 7
  have n8 : w3.cell? ⟨ka + 1, 8, none⟩ = some (.slice none 0 0) := NZ.cell 8
  have f8 : w3.frozen? ⟨ka + 1, 8, none⟩ = false := NZ.free 8
  have FF := hide (fun v0 v1 v2 v3 v4 v5 v6 v7 v8 => (unhide HP).fin (B := fun b => b = ka + 1) (unhide HO) (only9 _ _ _ _ _ _ _ _ _ _ _ : Only _ _ ((((((((((w3.setCell ⟨ka + 1, 0, none⟩ v0).setCell ⟨ka + 1, 1, none⟩ v1).setCell ⟨ka + 1, 2, none⟩ v2).setCell ⟨ka + 1, 3, none⟩ v3).setCell ⟨ka + 1, 4, none⟩ v4).setCell ⟨ka + 1, 5, none⟩ v5).setCell ⟨ka + 1, 6, none⟩ v6).setCell ⟨ka + 1, 7, none⟩ v7).setCell ⟨ka + 1, 8, none⟩ v8))) (fun k h => by have h' : k = ka + 1 := h; have := unhide Hka; omega) (fun k h => by have := unhide HDl k h; have := unhide Hka; omega))
  have HG := hide (fun v0 v1 v2 v3 v4 v5 v6 v7 v8 => set9 (unhide HNZ) v0 v1 v2 v3 v4 v5 v6 v7 v8)
  clear NZ a0 a4
  go_wp2_with fail
  exact bodyPost_ret (res1_an Tryz.results30 _ rfl (unhide HG _ _ _ _ _ _ _ _ _) rfl) rfl (unhide FF _ _ _ _ _ _ _ _ _)
set_option maxRecDepth 100000 in
set_option maxHeartbeats 2000000 in
theorem pm16_any (D0 : NX w m M U none H) (ok : MuOk M) (a bb cc : Int) (s t : ByteArray) (hT : t.size ≤ maxLen) : Calls Tryz.prog 30 #[.pointer (some ⟨m, 0, none⟩), opX 16 a bb cc s t] w (PmP w m M U H 16 a bb cc s t) := by
  have o1 : Only (fun _ => False) w ((w.alloc (.cells #[.int .i64 16, .int .i64 a, .int .i64 bb, .int .i64 cc, .string s, .string t] 44)).alloc (.cells #[.int .i64 0, .int .i64 0, .slice none 0 0, .slice none 0 0, .string ⟨#[]⟩, .slice none 0 0, .int .i64 0, .int .i64 0, .slice none 0 0] 54)) := ((Only.refl _ _).alloc _).alloc _
  have A1 : Has ((w.alloc (.cells #[.int .i64 16, .int .i64 a, .int .i64 bb, .int .i64 cc, .string s, .string t] 44)).alloc (.cells #[.int .i64 0, .int .i64 0, .slice none 0 0, .slice none 0 0, .string ⟨#[]⟩, .slice none 0 0, .int .i64 0, .int .i64 0, .slice none 0 0] 54)) w.heap.size #[.int .i64 16, .int .i64 a, .int .i64 bb, .int .i64 cc, .string s, .string t] 44 := (Has.new w _ _).alloc _
  have B1 : Has ((w.alloc (.cells #[.int .i64 16, .int .i64 a, .int .i64 bb, .int .i64 cc, .string s, .string t] 44)).alloc (.cells #[.int .i64 0, .int .i64 0, .slice none 0 0, .slice none 0 0, .string ⟨#[]⟩, .slice none 0 0, .int .i64 0, .int .i64 0, .slice none 0 0] 54)) (w.heap.size + 1) #[.int .i64 0, .int .i64 0, .slice none 0 0, .slice none 0 0, .string ⟨#[]⟩, .slice none 0 0, .int .i64 0, .int .i64 0, .slice none 0 0] 54 := Has.new' _ _ _ _ (by simp)
  have HD := hide (D0.quiet o1)
  have HDl := hide (show ∀ b, H b → b < w.heap.size from D0.lt)
  have HOK := hide ok
  have HA := hide A1
  have HB := hide B1
  have HO := hide o1
  have HT := hide hT
  clear D0 o1 A1 B1 hT ok
  unfold opX
  go_enter Tryz.func30, Tryz.ntmps30
  go_upto_region 1 with fail
  generalize ((w.alloc (.cells #[.int .i64 16, .int .i64 a, .int .i64 bb, .int .i64 cc, .string s, .string t] 44)).alloc (.cells #[.int .i64 0, .int .i64 0, .slice none 0 0, .slice none 0 0, .string ⟨#[]⟩, .slice none 0 0, .int .i64 0, .int .i64 0, .slice none 0 0] 54)) = w1 at *
  have ka1 := (unhide HA).lt
  have kb1 := (unhide HB).lt
  generalize hka : w.heap.size = ka at *
  have Hka := hide hka
  clear hka
  have a0 : w1.cell? ⟨ka, 0, none⟩ = some (.int .i64 16) := (unhide HA).cell 0
  have C1 := (xntables_any (unhide HD)).mono (fun e w' h => PmP.nms (a := a) (bb := bb) (cc := cc) (s := s) (t := t) (unhide HD) (unhide HOK) h)
  have C1 := hide C1
  have HBx := HB
  go_wp2_with fail
  refine (unhide C1).mono ?_
  rintro e w2 ⟨va, vn, vc, rfl, hp⟩
  have NZ := (unhide HBx).keep hp.only (fun c => by have := unhide HDl (ka + 1) c; omega)
  have HNZ := hide NZ
  have kz := NZ.lt
  have n0 : w2.cell? ⟨ka + 1, 0, none⟩ = some (.int .i64 0) := NZ.cell 0
  have f0 : w2.frozen? ⟨ka + 1, 0, none⟩ = false := NZ.free 0
  have n1 : w2.cell? ⟨ka + 1, 1, none⟩ = some (.int .i64 0) := NZ.cell 1
  have f1 : w2.frozen? ⟨ka + 1, 1, none⟩ = false := NZ.free 1
  have n2 : w2.cell? ⟨ka + 1, 2, none⟩ = some (.slice none 0 0) := NZ.cell 2
  have f2 : w2.frozen? ⟨ka + 1, 2, none⟩ = false := NZ.free 2
  have n3 : w2.cell? ⟨ka + 1, 3, none⟩ = some (.slice none 0 0) := NZ.cell 3
  have f3 : w2.frozen? ⟨ka + 1, 3, none⟩ = false := NZ.free 3
  have n4 : w2.cell? ⟨ka + 1, 4, none⟩ = some (.string ⟨#[]⟩) := NZ.cell 4
  have f4 : w2.frozen? ⟨ka + 1, 4, none⟩ = false := NZ.free 4
  have n5 : w2.cell? ⟨ka + 1, 5, none⟩ = some (.slice none 0 0) := NZ.cell 5
  have f5 : w2.frozen? ⟨ka + 1, 5, none⟩ = false := NZ.free 5
  have n6 : w2.cell? ⟨ka + 1, 6, none⟩ = some (.int .i64 0) := NZ.cell 6
  have f6 : w2.frozen? ⟨ka + 1, 6, none⟩ = false := NZ.free 6
  have n7 : w2.cell? ⟨ka + 1, 7, none⟩ = some (.int .i64 0) := NZ.cell 7
  have f7 : w2.frozen? ⟨ka + 1, 7, none⟩ = false := NZ.free 7
  have n8 : w2.cell? ⟨ka + 1, 8, none⟩ = some (.slice none 0 0) := NZ.cell 8
  have f8 : w2.frozen? ⟨ka + 1, 8, none⟩ = false := NZ.free 8
  have HP := hide hp
  have FF := hide (fun v0 v1 v2 v3 v4 v5 v6 v7 v8 => (unhide HP).fin (B := fun b => b = ka + 1) (unhide HO) (only9 _ _ _ _ _ _ _ _ _ _ _ : Only _ _ ((((((((((w2.setCell ⟨ka + 1, 0, none⟩ v0).setCell ⟨ka + 1, 1, none⟩ v1).setCell ⟨ka + 1, 2, none⟩ v2).setCell ⟨ka + 1, 3, none⟩ v3).setCell ⟨ka + 1, 4, none⟩ v4).setCell ⟨ka + 1, 5, none⟩ v5).setCell ⟨ka + 1, 6, none⟩ v6).setCell ⟨ka + 1, 7, none⟩ v7).setCell ⟨ka + 1, 8, none⟩ v8))) (fun k h => by have h' : k = ka + 1 := h; have := unhide Hka; omega) (fun k h => by have := unhide HDl k h; have := unhide Hka; omega))
  have HG := hide (fun v0 v1 v2 v3 v4 v5 v6 v7 v8 => set9 (unhide HNZ) v0 v1 v2 v3 v4 v5 v6 v7 v8)
  clear C1 a0 hp NZ
  go_wp2_with fail
  exact bodyPost_ret (res1_an Tryz.results30 _ rfl (unhide HG _ _ _ _ _ _ _ _ _) rfl) rfl (unhide FF _ _ _ _ _ _ _ _ _)
set_option maxRecDepth 100000 in
set_option maxHeartbeats 2000000 in
theorem pm17_any (D0 : NX w m M U none H) (ok : MuOk M) (a bb cc : Int) (s t : ByteArray) (hT : t.size ≤ maxLen) : Calls Tryz.prog 30 #[.pointer (some ⟨m, 0, none⟩), opX 17 a bb cc s t] w (PmP w m M U H 17 a bb cc s t) := by
  have o1 : Only (fun _ => False) w ((w.alloc (.cells #[.int .i64 17, .int .i64 a, .int .i64 bb, .int .i64 cc, .string s, .string t] 44)).alloc (.cells #[.int .i64 0, .int .i64 0, .slice none 0 0, .slice none 0 0, .string ⟨#[]⟩, .slice none 0 0, .int .i64 0, .int .i64 0, .slice none 0 0] 54)) := ((Only.refl _ _).alloc _).alloc _
  have A1 : Has ((w.alloc (.cells #[.int .i64 17, .int .i64 a, .int .i64 bb, .int .i64 cc, .string s, .string t] 44)).alloc (.cells #[.int .i64 0, .int .i64 0, .slice none 0 0, .slice none 0 0, .string ⟨#[]⟩, .slice none 0 0, .int .i64 0, .int .i64 0, .slice none 0 0] 54)) w.heap.size #[.int .i64 17, .int .i64 a, .int .i64 bb, .int .i64 cc, .string s, .string t] 44 := (Has.new w _ _).alloc _
  have B1 : Has ((w.alloc (.cells #[.int .i64 17, .int .i64 a, .int .i64 bb, .int .i64 cc, .string s, .string t] 44)).alloc (.cells #[.int .i64 0, .int .i64 0, .slice none 0 0, .slice none 0 0, .string ⟨#[]⟩, .slice none 0 0, .int .i64 0, .int .i64 0, .slice none 0 0] 54)) (w.heap.size + 1) #[.int .i64 0, .int .i64 0, .slice none 0 0, .slice none 0 0, .string ⟨#[]⟩, .slice none 0 0, .int .i64 0, .int .i64 0, .slice none 0 0] 54 := Has.new' _ _ _ _ (by simp)
  have HD := hide (D0.quiet o1)
  have HDl := hide (show ∀ b, H b → b < w.heap.size from D0.lt)
  have HOK := hide ok
  have HA := hide A1
  have HB := hide B1
  have HO := hide o1
  have HT := hide hT
  clear D0 o1 A1 B1 hT ok
  unfold opX
  go_enter Tryz.func30, Tryz.ntmps30
  go_upto_region 1 with fail
  generalize ((w.alloc (.cells #[.int .i64 17, .int .i64 a, .int .i64 bb, .int .i64 cc, .string s, .string t] 44)).alloc (.cells #[.int .i64 0, .int .i64 0, .slice none 0 0, .slice none 0 0, .string ⟨#[]⟩, .slice none 0 0, .int .i64 0, .int .i64 0, .slice none 0 0] 54)) = w1 at *
  have ka1 := (unhide HA).lt
  have kb1 := (unhide HB).lt
  generalize hka : w.heap.size = ka at *
  have Hka := hide hka
  clear hka
  have a0 : w1.cell? ⟨ka, 0, none⟩ = some (.int .i64 17) := (unhide HA).cell 0
  have HQ := hide (show PmP w1 m M U H 17 a bb cc s t (.returned (.agg (anC AnM.z (anN 1)))) w1 from PmP.obs (unhide HD) .chk (AnAt.zero _ _ _) (fun b h => absurd h AnB.z))
  have HNZ := HB
  have n0 : w1.cell? ⟨ka + 1, 0, none⟩ = some (.int .i64 0) := (unhide HB).cell 0
  have f0 : w1.frozen? ⟨ka + 1, 0, none⟩ = false := (unhide HB).free 0
  have n1 : w1.cell? ⟨ka + 1, 1, none⟩ = some (.int .i64 0) := (unhide HB).cell 1
  have f1 : w1.frozen? ⟨ka + 1, 1, none⟩ = false := (unhide HB).free 1
  have n2 : w1.cell? ⟨ka + 1, 2, none⟩ = some (.slice none 0 0) := (unhide HB).cell 2
  have f2 : w1.frozen? ⟨ka + 1, 2, none⟩ = false := (unhide HB).free 2
  have n3 : w1.cell? ⟨ka + 1, 3, none⟩ = some (.slice none 0 0) := (unhide HB).cell 3
  have f3 : w1.frozen? ⟨ka + 1, 3, none⟩ = false := (unhide HB).free 3
  have n4 : w1.cell? ⟨ka + 1, 4, none⟩ = some (.string ⟨#[]⟩) := (unhide HB).cell 4
  have f4 : w1.frozen? ⟨ka + 1, 4, none⟩ = false := (unhide HB).free 4
  have n5 : w1.cell? ⟨ka + 1, 5, none⟩ = some (.slice none 0 0) := (unhide HB).cell 5
  have f5 : w1.frozen? ⟨ka + 1, 5, none⟩ = false := (unhide HB).free 5
  have n6 : w1.cell? ⟨ka + 1, 6, none⟩ = some (.int .i64 0) := (unhide HB).cell 6
  have f6 : w1.frozen? ⟨ka + 1, 6, none⟩ = false := (unhide HB).free 6
  have n7 : w1.cell? ⟨ka + 1, 7, none⟩ = some (.int .i64 0) := (unhide HB).cell 7
  have f7 : w1.frozen? ⟨ka + 1, 7, none⟩ = false := (unhide HB).free 7
  have n8 : w1.cell? ⟨ka + 1, 8, none⟩ = some (.slice none 0 0) := (unhide HB).cell 8
  have f8 : w1.frozen? ⟨ka + 1, 8, none⟩ = false := (unhide HB).free 8
  have FF := hide (fun v0 v1 v2 v3 v4 v5 v6 v7 v8 => (unhide HQ).fin (B := fun b => b = ka + 1) (unhide HO) (only9 _ _ _ _ _ _ _ _ _ _ _ : Only _ _ ((((((((((w1.setCell ⟨ka + 1, 0, none⟩ v0).setCell ⟨ka + 1, 1, none⟩ v1).setCell ⟨ka + 1, 2, none⟩ v2).setCell ⟨ka + 1, 3, none⟩ v3).setCell ⟨ka + 1, 4, none⟩ v4).setCell ⟨ka + 1, 5, none⟩ v5).setCell ⟨ka + 1, 6, none⟩ v6).setCell ⟨ka + 1, 7, none⟩ v7).setCell ⟨ka + 1, 8, none⟩ v8))) (fun k h => by have h' : k = ka + 1 := h; have := unhide Hka; omega) (fun k h => by have := unhide HDl k h; have := unhide Hka; omega))
  have HG := hide (fun v0 v1 v2 v3 v4 v5 v6 v7 v8 => set9 (unhide HNZ) v0 v1 v2 v3 v4 v5 v6 v7 v8)
  go_wp2_with fail
  exact bodyPost_ret (res1_an Tryz.results30 _ rfl (unhide HG _ _ _ _ _ _ _ _ _) rfl) rfl (unhide FF _ _ _ _ _ _ _ _ _)
set_option maxRecDepth 100000 in
set_option maxHeartbeats 2000000 in
theorem pmX_any (D0 : NX w m M U none H) (ok : MuOk M) (kd : Int) (hkd : kd < 1 ∨ 18 ≤ kd) (a bb cc : Int) (s t : ByteArray) (hT : t.size ≤ maxLen) : Calls Tryz.prog 30 #[.pointer (some ⟨m, 0, none⟩), opX kd a bb cc s t] w (PmP w m M U H kd a bb cc s t) := by
  have o1 : Only (fun _ => False) w ((w.alloc (.cells #[.int .i64 kd, .int .i64 a, .int .i64 bb, .int .i64 cc, .string s, .string t] 44)).alloc (.cells #[.int .i64 0, .int .i64 0, .slice none 0 0, .slice none 0 0, .string ⟨#[]⟩, .slice none 0 0, .int .i64 0, .int .i64 0, .slice none 0 0] 54)) := ((Only.refl _ _).alloc _).alloc _
  have A1 : Has ((w.alloc (.cells #[.int .i64 kd, .int .i64 a, .int .i64 bb, .int .i64 cc, .string s, .string t] 44)).alloc (.cells #[.int .i64 0, .int .i64 0, .slice none 0 0, .slice none 0 0, .string ⟨#[]⟩, .slice none 0 0, .int .i64 0, .int .i64 0, .slice none 0 0] 54)) w.heap.size #[.int .i64 kd, .int .i64 a, .int .i64 bb, .int .i64 cc, .string s, .string t] 44 := (Has.new w _ _).alloc _
  have B1 : Has ((w.alloc (.cells #[.int .i64 kd, .int .i64 a, .int .i64 bb, .int .i64 cc, .string s, .string t] 44)).alloc (.cells #[.int .i64 0, .int .i64 0, .slice none 0 0, .slice none 0 0, .string ⟨#[]⟩, .slice none 0 0, .int .i64 0, .int .i64 0, .slice none 0 0] 54)) (w.heap.size + 1) #[.int .i64 0, .int .i64 0, .slice none 0 0, .slice none 0 0, .string ⟨#[]⟩, .slice none 0 0, .int .i64 0, .int .i64 0, .slice none 0 0] 54 := Has.new' _ _ _ _ (by simp)
  have HD := hide (D0.quiet o1)
  have HDl := hide (show ∀ b, H b → b < w.heap.size from D0.lt)
  have HOK := hide ok
  have HA := hide A1
  have HB := hide B1
  have HO := hide o1
  have HT := hide hT
  clear D0 o1 A1 B1 hT ok
  unfold opX
  go_enter Tryz.func30, Tryz.ntmps30
  go_upto_region 1 with fail
  generalize ((w.alloc (.cells #[.int .i64 kd, .int .i64 a, .int .i64 bb, .int .i64 cc, .string s, .string t] 44)).alloc (.cells #[.int .i64 0, .int .i64 0, .slice none 0 0, .slice none 0 0, .string ⟨#[]⟩, .slice none 0 0, .int .i64 0, .int .i64 0, .slice none 0 0] 54)) = w1 at *
  have ka1 := (unhide HA).lt
  have kb1 := (unhide HB).lt
  generalize hka : w.heap.size = ka at *
  have Hka := hide hka
  clear hka
  have a0 : w1.cell? ⟨ka, 0, none⟩ = some (.int .i64 kd) := (unhide HA).cell 0
  have e1 : (kd == 1) = false := ne_intO (by omega)
  have e2 : (kd == 2) = false := ne_intO (by omega)
  have e3 : (kd == 3) = false := ne_intO (by omega)
  have e4 : (kd == 4) = false := ne_intO (by omega)
  have e5 : (kd == 5) = false := ne_intO (by omega)
  have e6 : (kd == 6) = false := ne_intO (by omega)
  have e7 : (kd == 7) = false := ne_intO (by omega)
  have e8 : (kd == 8) = false := ne_intO (by omega)
  have e9 : (kd == 9) = false := ne_intO (by omega)
  have e10 : (kd == 10) = false := ne_intO (by omega)
  have e11 : (kd == 11) = false := ne_intO (by omega)
  have e12 : (kd == 12) = false := ne_intO (by omega)
  have e13 : (kd == 13) = false := ne_intO (by omega)
  have e14 : (kd == 14) = false := ne_intO (by omega)
  have e15 : (kd == 15) = false := ne_intO (by omega)
  have e16 : (kd == 16) = false := ne_intO (by omega)
  have e17 : (kd == 17) = false := ne_intO (by omega)
  have HQ := hide (show PmP w1 m M U H kd a bb cc s t (.returned (.agg (anC AnM.z An.z))) w1 from PmP.obs (unhide HD) (.oth kd hkd) (AnAt.zero _ 0 0) (fun b h => absurd h AnB.z))
  have HNZ := HB
  have n0 : w1.cell? ⟨ka + 1, 0, none⟩ = some (.int .i64 0) := (unhide HB).cell 0
  have f0 : w1.frozen? ⟨ka + 1, 0, none⟩ = false := (unhide HB).free 0
  have n1 : w1.cell? ⟨ka + 1, 1, none⟩ = some (.int .i64 0) := (unhide HB).cell 1
  have f1 : w1.frozen? ⟨ka + 1, 1, none⟩ = false := (unhide HB).free 1
  have n2 : w1.cell? ⟨ka + 1, 2, none⟩ = some (.slice none 0 0) := (unhide HB).cell 2
  have f2 : w1.frozen? ⟨ka + 1, 2, none⟩ = false := (unhide HB).free 2
  have n3 : w1.cell? ⟨ka + 1, 3, none⟩ = some (.slice none 0 0) := (unhide HB).cell 3
  have f3 : w1.frozen? ⟨ka + 1, 3, none⟩ = false := (unhide HB).free 3
  have n4 : w1.cell? ⟨ka + 1, 4, none⟩ = some (.string ⟨#[]⟩) := (unhide HB).cell 4
  have f4 : w1.frozen? ⟨ka + 1, 4, none⟩ = false := (unhide HB).free 4
  have n5 : w1.cell? ⟨ka + 1, 5, none⟩ = some (.slice none 0 0) := (unhide HB).cell 5
  have f5 : w1.frozen? ⟨ka + 1, 5, none⟩ = false := (unhide HB).free 5
  have n6 : w1.cell? ⟨ka + 1, 6, none⟩ = some (.int .i64 0) := (unhide HB).cell 6
  have f6 : w1.frozen? ⟨ka + 1, 6, none⟩ = false := (unhide HB).free 6
  have n7 : w1.cell? ⟨ka + 1, 7, none⟩ = some (.int .i64 0) := (unhide HB).cell 7
  have f7 : w1.frozen? ⟨ka + 1, 7, none⟩ = false := (unhide HB).free 7
  have n8 : w1.cell? ⟨ka + 1, 8, none⟩ = some (.slice none 0 0) := (unhide HB).cell 8
  have f8 : w1.frozen? ⟨ka + 1, 8, none⟩ = false := (unhide HB).free 8
  have FF := hide (fun v0 v1 v2 v3 v4 v5 v6 v7 v8 => (unhide HQ).fin (B := fun b => b = ka + 1) (unhide HO) (only9 _ _ _ _ _ _ _ _ _ _ _ : Only _ _ ((((((((((w1.setCell ⟨ka + 1, 0, none⟩ v0).setCell ⟨ka + 1, 1, none⟩ v1).setCell ⟨ka + 1, 2, none⟩ v2).setCell ⟨ka + 1, 3, none⟩ v3).setCell ⟨ka + 1, 4, none⟩ v4).setCell ⟨ka + 1, 5, none⟩ v5).setCell ⟨ka + 1, 6, none⟩ v6).setCell ⟨ka + 1, 7, none⟩ v7).setCell ⟨ka + 1, 8, none⟩ v8))) (fun k h => by have h' : k = ka + 1 := h; have := unhide Hka; omega) (fun k h => by have := unhide HDl k h; have := unhide Hka; omega))
  have HG := hide (fun v0 v1 v2 v3 v4 v5 v6 v7 v8 => set9 (unhide HNZ) v0 v1 v2 v3 v4 v5 v6 v7 v8)
  go_wp2_with fail
  exact bodyPost_ret (res1_an Tryz.results30 _ rfl (unhide HG _ _ _ _ _ _ _ _ _) rfl) rfl (unhide FF _ _ _ _ _ _ _ _ _)
theorem playModel_any (D0 : NX w m M U none H) (ok : MuOk M) (kd a bb cc : Int) (s t : ByteArray) (hT : t.size ≤ maxLen) : Calls Tryz.prog 30 #[.pointer (some ⟨m, 0, none⟩), opX kd a bb cc s t] w (PmP w m M U H kd a bb cc s t) := by
  by_cases h : kd < 1 ∨ 18 ≤ kd
  · exact pmX_any D0 ok kd h a bb cc s t hT
  · have : kd = 1 ∨ kd = 2 ∨ kd = 3 ∨ kd = 4 ∨ kd = 5 ∨ kd = 6 ∨ kd = 7 ∨ kd = 8 ∨ kd = 9 ∨ kd = 10 ∨ kd = 11 ∨ kd = 12 ∨ kd = 13 ∨ kd = 14 ∨ kd = 15 ∨ kd = 16 ∨ kd = 17 := by omega
    rcases this with rfl | rfl | rfl | rfl | rfl | rfl | rfl | rfl | rfl | rfl | rfl | rfl | rfl | rfl | rfl | rfl | rfl
    · exact pm1_any D0 ok a bb cc s t hT
    · exact pm2_any D0 ok a bb cc s t hT
    · exact pm3_any D0 ok a bb cc s t hT
    · exact pm4_any D0 ok a bb cc s t hT
    · exact pm5_any D0 ok a bb cc s t hT
    · exact pm6_any D0 ok a bb cc s t hT
    · exact pm7_any D0 ok a bb cc s t hT
    · exact pm8_any D0 ok a bb cc s t hT
    · exact pm9_any D0 ok a bb cc s t hT
    · exact pm10_any D0 ok a bb cc s t hT
    · exact pm11_any D0 ok a bb cc s t hT
    · exact pm12_any D0 ok a bb cc s t hT
    · exact pm13_any D0 ok a bb cc s t hT
    · exact pm14_any D0 ok a bb cc s t hT
    · exact pm15_any D0 ok a bb cc s t hT
    · exact pm16_any D0 ok a bb cc s t hT
    · exact pm17_any D0 ok a bb cc s t hT
end
end Go.Proofs.Qxb6500414aGreat
