/-
  OWN WORK. THE TXN LAW: Follow: the shadow played (written by tools/gen_xg5.py).
-/
import Derived.Test.Qxb6500414aGreatXG2
namespace Go.Proofs.Qxb6500414aGreat
open Go.RowKit Go.PlainAid
set_option linter.unusedSimpArgs false
set_option linter.unusedVariables false

/-- The shadow's answer in a block of its own; the shadow turned. -/
def PsF (w : World) (kG : Nat) (m : GhM) (sh : Db) (an : An) (kb : Nat) (wx : World) : Prop := ∃ m2 v' l', w.heap.size ≤ kb ∧ Has wx kb (anC m2 an) 54 ∧ AnAt wx m2 an ∧ (∀ k, AnB m2 k → w.heap.size ≤ k) ∧ GhAt wx kG (m.setS v' l') sh ∧ (∀ k, MLm v' l' k → MLm m.shv m.shl k ∨ w.heap.size ≤ k) ∧ (∀ k, MLi l' k → MLi m.shl k ∨ w.heap.size ≤ k) ∧ Only (fun k => k = kG ∨ MLm m.shv m.shl k) w wx
theorem ps_shape {ty : TypeId} {w w' : World} {dk o : Nat} {cs : Array Value} {v : Value} {l : List GE} {R : Db × An} {e : Ending} (h : PsP ty w dk o cs v l R e w') : ∃ (m2 : AnM) (p1 : Option Addr) (pl p2 : Nat) (r1 : Option Addr) (rl r2 : Nat) (c1 : Option Addr) (cl c2 : Nat) (n1 : Option Addr) (nl n2 : Nat), e = .returned (.agg #[.int .i64 R.2.e, .int .i64 R.2.n, .slice p1 pl p2, .slice r1 rl r2, .string R.2.nm, .slice c1 cl c2, .int .i64 R.2.pk, .int .i64 R.2.ix, .slice n1 nl n2]) ∧ anC m2 R.2 = #[.int .i64 R.2.e, .int .i64 R.2.n, .slice p1 pl p2, .slice r1 rl r2, .string R.2.nm, .slice c1 cl c2, .int .i64 R.2.pk, .int .i64 R.2.ix, .slice n1 nl n2] ∧ PsP ty w dk o cs v l R (.returned (.agg (anC m2 R.2))) w' := by
  obtain ⟨m2, v', l', he, hA, hr⟩ := h
  obtain ⟨p1, p2, hp⟩ := hA.row.shape
  obtain ⟨r1, r2, hr2⟩ := ownsRow_shape hA.own
  obtain ⟨c1, c2, hc⟩ := hA.col.shape
  obtain ⟨n1, n2, hn⟩ := ownsRow_shape hA.nms
  have ea : anC m2 R.2 = #[.int .i64 R.2.e, .int .i64 R.2.n, .slice p1 R.2.row.length p2, .slice r1 m2.Z.length r2, .string R.2.nm, .slice c1 R.2.cols.length c2, .int .i64 R.2.pk, .int .i64 R.2.ix, .slice n1 R.2.names.length n2] := by
    unfold anC
    rw [hp, hr2, hc, hn]
  exact ⟨m2, p1, _, p2, r1, _, r2, c1, _, c2, n1, _, n2, by rw [he, ea], ea, m2, v', l', rfl, hA, hr⟩
section
variable {w : World} {kG : Nat} {m : GhM} {sh : Db} {R : Db × An}
theorem ps_first {w5 : World} {m2 : AnM} {e : Ending} (G : GhAt w kG m sh) (h : PsP 42 w.drew kG 0 (ghC m) m.shv m.shl R (.returned (.agg (anC m2 R.2))) w5) {V : Array Value} (hV : anC m2 R.2 = V) : PsF w kG m R.1 R.2 w5.heap.size (w5.alloc (.cells V 54)) := by
  subst hV
  obtain ⟨m3, v', l', he, hA, hb, hD, hm, hi, hs, ho⟩ := h
  have e3 : anC m2 R.2 = anC m3 R.2 := by simpa using he
  have s0 : w.drew.heap.size = w.heap.size := rfl
  rw [e3]
  have oA : Only (fun k => k = kG ∨ MLm m.shv m.shl k) w w5 := (((Only.refl (fun _ => False) w).drew).mono (fun _ _ e => e.elim)).trans ho (fun _ _ h => h)
  have oZ : Only (fun _ => False) w5 (w5.alloc (.cells (anC m3 R.2) 54)) := (Only.refl _ _).alloc _
  refine ⟨m3, v', l', oA.size, Has.new w5 _ _, hA.quiet oZ, hb, (G.setS hD oA (fun k hk => hm k hk)).quiet oZ, hm, hi, oA.trans (oZ.mono (fun _ _ e => e.elim)) (fun _ _ h => h)⟩
set_option maxHeartbeats 1000000 in
theorem ps_last {w5 : World} {m2 : AnM} (G : GhAt w kG m sh) (h : PsP 42 (w.alloc (.cells #[.int .i64 0, .int .i64 0, .slice none 0 0, .slice none 0 0, .string ⟨#[]⟩, .slice none 0 0, .int .i64 0, .int .i64 0, .slice none 0 0] 54)).drew kG 0 (ghC m) m.shv m.shl R (.returned (.agg (anC m2 R.2))) w5) (v0 v1 v2 v3 v4 v5 v6 v7 v8 : Value) (hV : anC m2 R.2 = #[v0, v1, v2, v3, v4, v5, v6, v7, v8]) : (w5.cell? ⟨w.heap.size, 0, none⟩ = some (.int .i64 0) ∧ w5.cell? ⟨w.heap.size, 1, none⟩ = some (.int .i64 0) ∧ w5.cell? ⟨w.heap.size, 2, none⟩ = some (.slice none 0 0) ∧ w5.cell? ⟨w.heap.size, 3, none⟩ = some (.slice none 0 0) ∧ w5.cell? ⟨w.heap.size, 4, none⟩ = some (.string ⟨#[]⟩) ∧ w5.cell? ⟨w.heap.size, 5, none⟩ = some (.slice none 0 0) ∧ w5.cell? ⟨w.heap.size, 6, none⟩ = some (.int .i64 0) ∧ w5.cell? ⟨w.heap.size, 7, none⟩ = some (.int .i64 0) ∧ w5.cell? ⟨w.heap.size, 8, none⟩ = some (.slice none 0 0) ∧ w5.frozen? ⟨w.heap.size, 0, none⟩ = false ∧ w5.frozen? ⟨w.heap.size, 1, none⟩ = false ∧ w5.frozen? ⟨w.heap.size, 2, none⟩ = false ∧ w5.frozen? ⟨w.heap.size, 3, none⟩ = false ∧ w5.frozen? ⟨w.heap.size, 4, none⟩ = false ∧ w5.frozen? ⟨w.heap.size, 5, none⟩ = false ∧ w5.frozen? ⟨w.heap.size, 6, none⟩ = false ∧ w5.frozen? ⟨w.heap.size, 7, none⟩ = false ∧ w5.frozen? ⟨w.heap.size, 8, none⟩ = false) ∧ PsF w kG m R.1 R.2 w.heap.size (((((((((w5.setCell ⟨w.heap.size, 0, none⟩ v0).setCell ⟨w.heap.size, 1, none⟩ v1).setCell ⟨w.heap.size, 2, none⟩ v2).setCell ⟨w.heap.size, 3, none⟩ v3).setCell ⟨w.heap.size, 4, none⟩ v4).setCell ⟨w.heap.size, 5, none⟩ v5).setCell ⟨w.heap.size, 6, none⟩ v6).setCell ⟨w.heap.size, 7, none⟩ v7).setCell ⟨w.heap.size, 8, none⟩ v8) := by
  obtain ⟨m3, v', l', he, hA, hb, hD, hm, hi, hs, ho⟩ := h
  have e3 : anC m2 R.2 = anC m3 R.2 := by simpa using he
  have oZ : Only (fun _ => False) w (w.alloc (.cells #[.int .i64 0, .int .i64 0, .slice none 0 0, .slice none 0 0, .string ⟨#[]⟩, .slice none 0 0, .int .i64 0, .int .i64 0, .slice none 0 0] 54)).drew := ((Only.refl (fun _ => False) w).alloc _).drew
  have N0 : Has (w.alloc (.cells #[.int .i64 0, .int .i64 0, .slice none 0 0, .slice none 0 0, .string ⟨#[]⟩, .slice none 0 0, .int .i64 0, .int .i64 0, .slice none 0 0] 54)).drew w.heap.size #[.int .i64 0, .int .i64 0, .slice none 0 0, .slice none 0 0, .string ⟨#[]⟩, .slice none 0 0, .int .i64 0, .int .i64 0, .slice none 0 0] 54 := (Has.new w #[.int .i64 0, .int .i64 0, .slice none 0 0, .slice none 0 0, .string ⟨#[]⟩, .slice none 0 0, .int .i64 0, .int .i64 0, .slice none 0 0] 54).keep ((Only.refl (fun _ => False) _).drew) (fun h => h)
  have l0 := N0.lt
  have hlt := G.lt
  have N1 := N0.keep ho (fun c => by
    have c' : w.heap.size = kG ∨ MLm m.shv m.shl w.heap.size := c
    rcases c' with c | c
    · have := hlt kG (.inl (.inl rfl)); omega
    · have := hlt w.heap.size (.inl (.inr (.inl c))); omega)
  have oA : Only (fun k => k = kG ∨ MLm m.shv m.shl k) w w5 := (oZ.mono (fun _ _ e => e.elim)).trans ho (fun _ _ h => h)
  have sz : w.heap.size ≤ (w.alloc (.cells #[.int .i64 0, .int .i64 0, .slice none 0 0, .slice none 0 0, .string ⟨#[]⟩, .slice none 0 0, .int .i64 0, .int .i64 0, .slice none 0 0] 54)).drew.heap.size := oZ.size
  have oo : Only (fun k => k = w.heap.size) w5 (((((((((w5.setCell ⟨w.heap.size, 0, none⟩ v0).setCell ⟨w.heap.size, 1, none⟩ v1).setCell ⟨w.heap.size, 2, none⟩ v2).setCell ⟨w.heap.size, 3, none⟩ v3).setCell ⟨w.heap.size, 4, none⟩ v4).setCell ⟨w.heap.size, 5, none⟩ v5).setCell ⟨w.heap.size, 6, none⟩ v6).setCell ⟨w.heap.size, 7, none⟩ v7).setCell ⟨w.heap.size, 8, none⟩ v8) := only9 _ _ _ _ _ _ _ _ _ _ _
  have H9 : Has (((((((((w5.setCell ⟨w.heap.size, 0, none⟩ v0).setCell ⟨w.heap.size, 1, none⟩ v1).setCell ⟨w.heap.size, 2, none⟩ v2).setCell ⟨w.heap.size, 3, none⟩ v3).setCell ⟨w.heap.size, 4, none⟩ v4).setCell ⟨w.heap.size, 5, none⟩ v5).setCell ⟨w.heap.size, 6, none⟩ v6).setCell ⟨w.heap.size, 7, none⟩ v7).setCell ⟨w.heap.size, 8, none⟩ v8) w.heap.size (anC m3 R.2) 54 := by
    rw [← e3, hV]
    exact set9 N1 _ _ _ _ _ _ _ _ _
  have hG : GhAt w5 kG (m.setS v' l') R.1 := G.setS hD oA (fun k hk => (hm k hk).imp id (fun c => by omega))
  refine ⟨⟨N1.cell 0, N1.cell 1, N1.cell 2, N1.cell 3, N1.cell 4, N1.cell 5, N1.cell 6, N1.cell 7, N1.cell 8, N1.free 0, N1.free 1, N1.free 2, N1.free 3, N1.free 4, N1.free 5, N1.free 6, N1.free 7, N1.free 8⟩, m3, v', l', Nat.le_refl _, H9, hA.keep oo (fun k hk c => ?_), fun k hk => by have := hb k hk; omega, hG.keep oo (fun k hk c => ?_), fun k hk => (hm k hk).imp id (fun c => by omega), fun k hk => (hi k hk).imp id (fun c => by omega), ?_⟩
  · have c' : k = w.heap.size := c
    have h1 := hb k hk
    omega
  · have c' : k = w.heap.size := c
    rcases hk with (hk | hk | ⟨s, hs, hk⟩) | hk | ⟨s, hs, hk⟩
    · have := hlt kG (.inl (.inl rfl)); omega
    · rcases hm k hk with h1 | h1
      · have := hlt k (.inl (.inr (.inl h1))); omega
      · omega
    · have := hlt k (.inl (.inr (.inr ⟨s, hs, hk⟩))); omega
    · rcases hi k hk with h1 | h1
      · have := hlt k (.inr (.inl h1)); omega
      · omega
    · have := hlt k (.inr (.inr ⟨s, hs, hk⟩)); omega
  · exact ((oA.mono (T := fun k => (k = kG ∨ MLm m.shv m.shl k) ∨ k = w.heap.size) (fun _ _ h => .inl h)).trans (oo.mono (T := fun k => (k = kG ∨ MLm m.shv m.shl k) ∨ k = w.heap.size) (fun _ _ h => .inr h)) (fun _ _ h => h)).mono (fun k hl h => h.elim id (fun e => by omega))
end
section
variable {q : Gnd} {w : World} {g x kG n : Nat} {M M' : Mu} {K : Nat → Prop} {m : GhM} {sh : Db} {am : AnM} {an : An} {kd a bb cc : Int} {s t : ByteArray}
end
end Go.Proofs.Qxb6500414aGreat
