/-
  OWN WORK. THE GRAPH's MODEL: lists of commits that grow; api's CopyNode.
-/
import Derived.Test.Qxb6500417aGreatHApi3
namespace Go.Proofs.Qxb6500417aGreat
open Go.RowKit Go.PlainAid
set_option linter.unusedSimpArgs false
set_option linter.unusedVariables false

/-- A commit with its two lists. -/
structure NRow where
  x : Nd
  fv : Value
  pv : Value
def NRow.blk (r : NRow) (y : Nat) : Prop := r.fv.ownBlock = some y ∨ r.pv.ownBlock = some y
def nrV (r : NRow) : List Value := [.int .i64 (r.x.seq : Int), r.fv, r.pv, .string r.x.msg]
def nrCells (rs : List NRow) : List Value := rs.flatMap nrV
theorem nrCells_snoc (rs : List NRow) (r : NRow) : nrCells (rs ++ [r]) = nrCells rs ++ [.int .i64 (r.x.seq : Int), r.fv, r.pv, .string r.x.msg] := by simp [nrCells, nrV]
theorem nrCells_at : ∀ (l : List NRow) (i : Nat) (h : i < l.length), (nrCells l)[i * 4]? = some (.int .i64 (l[i].x.seq : Int)) ∧ (nrCells l)[i * 4 + 1]? = some l[i].fv ∧ (nrCells l)[i * 4 + 2]? = some l[i].pv ∧ (nrCells l)[i * 4 + 3]? = some (.string l[i].x.msg)
  | [], i, h => by simp at h
  | f :: r, 0, h => ⟨rfl, rfl, rfl, rfl⟩
  | f :: r, i + 1, h => by
    have := nrCells_at r i (by simpa using h)
    have e : (i + 1) * 4 = i * 4 + 4 := by omega
    rw [e]
    exact this
def OwnN (w : World) (v : Value) (rs : List NRow) : Prop := w.ownsRow 0 128 4 v rs.length (nrCells rs)
structure NR (w : World) (r : NRow) : Prop where
  of : OwnF w r.fv r.x.files
  op : OwnI w r.pv (parI r.x)
theorem NR.keep {S : Nat → Prop} {w w' : World} {r : NRow} (h : NR w r) (ho : Only S w w') (hS : ∀ y, r.blk y → ¬ S y) : NR w' r := ⟨h.of.keep ho (fun k hk => hS k (.inl hk)), h.op.keep ho (fun k hk => hS k (.inr hk))⟩
theorem NR.lt {w : World} {r : NRow} (h : NR w r) : ∀ y, r.blk y → y < w.heap.size := fun y hy => by
  rcases hy with e | e
  · exact ownsRow_lt h.of y e
  · exact ownsRow_lt h.op y e
/-- A list of commits in an array of its own, its blocks in H. -/
structure NL (H : Nat → Prop) (w : World) (v : Value) (rs : List NRow) : Prop where
  own : OwnN w v rs
  inn : ∀ r ∈ rs, NR w r
  hv : ∀ y, v.ownBlock = some y → H y
  hr : ∀ r ∈ rs, ∀ y, r.blk y → H y
  ne : ∀ r ∈ rs, ∀ y, r.blk y → v.ownBlock ≠ some y
theorem NL.nil (H : Nat → Prop) (w : World) : NL H w (.slice none 0 0) [] := ⟨World.ownsRow_nil _ _ _ _, by simp, by simp [Value.ownBlock], by simp, by simp⟩
theorem NL.keep {H S : Nat → Prop} {w w' : World} {v : Value} {rs : List NRow} (h : NL H w v rs) (ho : Only S w w') (hS : ∀ y, H y → ¬ S y) : NL H w' v rs :=
  ⟨ownsRow_keep h.own ho (fun k hk => hS k (h.hv k hk)), fun r hr => (h.inn r hr).keep ho (fun y hy => hS y (h.hr r hr y hy)), h.hv, h.hr, h.ne⟩
theorem NL.quiet {H : Nat → Prop} {w w' : World} {v : Value} {rs : List NRow} (h : NL H w v rs) (ho : Only (fun _ => False) w w') : NL H w' v rs := h.keep ho (fun _ _ h => h)
theorem NL.mono {H H' : Nat → Prop} {w : World} {v : Value} {rs : List NRow} (h : NL H w v rs) (hH : ∀ y, H y → H' y) : NL H' w v rs := ⟨h.own, h.inn, fun y hy => hH y (h.hv y hy), fun r hr y hy => hH y (h.hr r hr y hy), h.ne⟩
theorem NL.in_ {H : Nat → Prop} {w : World} {v : Value} {rs : List NRow} (h : NL H w v rs) : NodesIn H w v (rs.map NRow.x) := by
  have hown := h.own
  obtain ⟨a, cap, rfl⟩ := ownsRow_shape h.own
  refine ⟨a, cap, by rw [List.length_map], fun hn => ?_⟩
  rw [List.length_map] at hn
  rcases hown.2 with ⟨he, h0⟩ | ⟨g, cap', cur, he, _⟩
  · omega
  · obtain ⟨rfl, _, _⟩ : a = some ⟨g, 0, none⟩ ∧ True ∧ cap = cap' := by simpa using he
    refine ⟨g, rfl, h.hv g rfl, fun i hi => ?_⟩
    rw [List.length_map] at hi
    have hc := World.ownsRow.cells h.own (g := g) (by first | exact rfl | simp [Value.ownBlock])
    obtain ⟨a1, a2, a3, a4⟩ := nrCells_at rs i hi
    have b1 := hc _ _ a1
    have b2 := hc _ _ a2
    have b3 := hc _ _ a3
    have b4 := hc _ _ a4
    rw [addr_add] at b1 b2 b3 b4
    rw [List.getElem_map]
    have hm := List.getElem_mem hi
    have hR := h.inn _ hm
    exact ⟨b1, ⟨_, b2, hR.of.in_, fun y hy => h.hr _ hm y (.inl hy)⟩, ⟨_, b3, hR.op.in_, fun y hy => h.hr _ hm y (.inr hy)⟩, b4⟩
/-- One more commit. -/
theorem NL.push {H : Nat → Prop} {w w2 : World} {v v' : Value} {rs : List NRow} {r : NRow} {o : Obj} {n : Nat} (h : NL H w v rs) (hr : NR w r) (hrH : ∀ y, r.blk y → H y) (hrn : ∀ y, r.blk y → v.ownBlock ≠ some y) (hown : w2.ownsRow 0 128 4 v' n (nrCells rs ++ [.int .i64 (r.x.seq : Int), r.fv, r.pv, .string r.x.msg])) (hn : n = rs.length + 1) (hgrow : (w.alloc o).grownBy w2 v.ownBlock) (hwhere : ∀ k, v'.ownBlock = some k → v.ownBlock = some k ∨ k = w.heap.size + 1) : NL (fun y => H y ∨ w.heap.size ≤ y) w2 v' (rs ++ [r]) ∧ Only (fun y => v.ownBlock = some y) w w2 := by
  have ho : Only (fun y => v.ownBlock = some y) w w2 := ((Only.refl (fun y => v.ownBlock = some y) w).alloc o).grown hgrow (fun k hk _ => hk)
  have hall : ∀ q ∈ rs ++ [r], NR w q ∧ (∀ y, q.blk y → H y) ∧ (∀ y, q.blk y → v.ownBlock ≠ some y) := fun q hq => by
    rcases List.mem_append.1 hq with e | e
    · exact ⟨h.inn q e, h.hr q e, h.ne q e⟩
    · simp at e; rw [e]; exact ⟨hr, hrH, hrn⟩
  refine ⟨⟨?_, fun q hq => ?_, fun y hy => ?_, fun q hq y hy => .inl ((hall q hq).2.1 y hy), fun q hq y hy e => ?_⟩, ho⟩
  · unfold OwnN
    rw [nrCells_snoc, List.length_append, List.length_singleton, ← hn]
    exact hown
  · exact (hall q hq).1.keep ho (fun y hy e => (hall q hq).2.2 y hy e)
  · rcases hwhere y hy with e | e
    · exact .inl (h.hv y e)
    · exact .inr (by omega)
  · rcases hwhere y e with e2 | e2
    · exact (hall q hq).2.2 y hy e2
    · have := (hall q hq).1.lt y hy; omega
/-- A list of commits that was made. -/
structure NLM (w : World) (v : Value) (l : List Nd) (w' : World) : Prop where
  ex : ∃ rs, rs.map NRow.x = l ∧ NL (fun y => w.heap.size ≤ y) w' v rs
  ho : Only (fun _ => False) w w'
theorem NLM.nil (w : World) : NLM w (.slice none 0 0) [] w := ⟨⟨[], rfl, NL.nil _ w⟩, Only.refl _ _⟩
theorem NLM.in_ {w w' : World} {v : Value} {l : List Nd} (h : NLM w v l w') : NodesIn (fun y => w.heap.size ≤ y) w' v l := by
  obtain ⟨rs, e, hL⟩ := h.ex
  rw [← e]; exact hL.in_
theorem NLM.shape {w w' : World} {v : Value} {l : List Nd} (h : NLM w v l w') : ∃ a cap, v = .slice a l.length cap := h.in_.shape
theorem Tryz.infoNode : (Tryz.prog.info? 128).map (fun i => (i.zero, i.size, i.bytes)) = some (some (.agg #[.int .i64 0, .slice none 0 0, .slice none 0 0, .string ⟨#[]⟩]), 4, 72) := by kernel_rfl
section
variable {w : World}
set_option maxRecDepth 100000 in
set_option maxHeartbeats 4000000 in
theorem acopyNode_any {x : Nd} {fv pv : Value} (hf : FilesIn w fv x.files) (hp : IntsIn w pv (parI x)) (hfl : x.files.length ≤ 1000) (hpl : (parI x).length ≤ 1000) :
    Calls Tryz.prog 131 #[.agg #[.int .i64 (x.seq : Int), fv, pv, .string x.msg]] w fun e w' => ∃ fv' pv', e = .returned (.agg #[.int .i64 (x.seq : Int), fv', pv', .string x.msg]) ∧ NM w fv' pv' x w' := by
  have oA := (Only.refl (fun _ => False) w).alloc (.cells #[.int .i64 (x.seq : Int), fv, pv, .string x.msg] 128)
  have oB := (Only.refl (fun _ => False) (w.alloc (.cells #[.int .i64 (x.seq : Int), fv, pv, .string x.msg] 128))).alloc (.cells #[.int .i64 0, .slice none 0 0, .slice none 0 0, .string ⟨#[]⟩] 128)
  have hA := (Has.new w #[.int .i64 (x.seq : Int), fv, pv, .string x.msg] 128).keep oB (fun h => h)
  have hB := Has.new (w.alloc (.cells #[.int .i64 (x.seq : Int), fv, pv, .string x.msg] 128)) #[.int .i64 0, .slice none 0 0, .slice none 0 0, .string ⟨#[]⟩] 128
  have hsz : (w.alloc (.cells #[.int .i64 (x.seq : Int), fv, pv, .string x.msg] 128)).heap.size = w.heap.size + 1 := by simp
  rw [hsz] at hB
  have hO := oA.trans oB (fun _ _ h => h)
  have C1 := copyFiles_any fv x.files (hf.keep hO (fun _ _ h => h)) hfl
  have HA := hide hA
  have HB := hide hB
  have HO := hide hO
  have HP := hide hp
  obtain ⟨fa, fc, rfl, _⟩ := hf
  obtain ⟨pa, pc, rfl⟩ := hp.shape
  have C1 := hide C1
  clear oA oB hA hB hsz hO hp
  go_enter Tryz.func131, Tryz.ntmps131
  go_upto_region 1 with fail
  generalize hW : (w.alloc (.cells #[.int .i64 (x.seq : Int), .slice fa x.files.length fc, .slice pa (parI x).length pc, .string x.msg] 128)).alloc (.cells #[.int .i64 0, .slice none 0 0, .slice none 0 0, .string ⟨#[]⟩] 128) = W at *
  clear hW
  generalize hb0 : w.heap.size = b0 at *
  have hbW : b0 + 1 < W.heap.size := (unhide HB).lt
  have a1 := (unhide HA).cell 1
  simp only [List.getElem?_toArray, List.getElem?_cons_zero, List.getElem?_cons_succ] at a1
  go_wp2_with fail
  refine (unhide C1).mono ?_
  rintro e w1 ⟨fv', rfl, hf1, hfb, hO1⟩
  have hs01 := hO1.size
  have hA1 := (unhide HA).keep hO1 (fun h => h)
  have a2 := hA1.cell 2
  simp only [List.getElem?_toArray, List.getElem?_cons_zero, List.getElem?_cons_succ] at a2
  have hO1' := (unhide HO).trans hO1 (fun _ _ h => h)
  have C2 := hide (acopyInts_any ((unhide HP).keep hO1' (fun _ _ h => h)) hpl)
  have HF1 := hide hf1
  have Hfb := hide hfb
  obtain ⟨fa', fc', rfl⟩ := ownsRow_shape hf1
  have HA1 := hide hA1
  have HB1 := hide ((unhide HB).keep hO1 (fun h => h))
  have HO1 := hide hO1'
  have hsW := (unhide HO).size
  clear C1 hf1 hfb hA1 hO1 hO1' a1 HA HB
  go_wp2_with fail
  refine (unhide C2).mono ?_
  rintro e w2 ⟨pv', rfl, hII⟩
  have hA2 := (unhide HA1).keep hII.ho (fun h => h)
  have hB2 := (unhide HB1).keep hII.ho (fun h => h)
  have a0 := hA2.cell 0
  have a3 := hA2.cell 3
  have z0 := hB2.free 0
  have z1 := hB2.free 1
  have z2 := hB2.free 2
  have z3 := hB2.free 3
  have q0 := hB2.cell 0
  have q1 := hB2.cell 1
  have q2 := hB2.cell 2
  have q3 := hB2.cell 3
  simp only [List.getElem?_toArray, List.getElem?_cons_zero, List.getElem?_cons_succ] at a0 a3 q0 q1 q2 q3
  obtain ⟨pa', pc', hpe⟩ := ownsRow_shape hII.own
  subst hpe
  have hs1 := (unhide HO1).size
  have hO2 := (unhide HO1).trans hII.ho (fun _ _ h => h)
  have HF2 := hide ((unhide HF1).keep hII.ho (fun _ _ h => h))
  have HI2 := hide hII.own
  have Hpb := hide hII.hb
  have HO2 := hide hO2
  have Hb0 := hide hb0
  have hbl : b0 + 1 < w2.heap.size := hB2.lt
  clear C2 hII hA2 hB2 hO2 HA1 HB1 HF1 a2
  go_wp2_with fail
  refine bodyPost_ret (v := .agg #[.int .i64 (x.seq : Int), .slice fa' x.files.length fc', .slice pa' (parI x).length pc', .string x.msg]) (by simp [results, Tryz.results131, go_sem, q0, q1, q2, q3]) rfl ?_
  refine ⟨_, _, rfl, ?_⟩
  generalize hW9 : ((((w2.setCell ⟨b0 + 1, 0, none⟩ _).setCell ⟨b0 + 1, 1, none⟩ _).setCell ⟨b0 + 1, 2, none⟩ _).setCell ⟨b0 + 1, 3, none⟩ _) = W9
  have hO9 : Only (fun y => y = b0 + 1) w2 W9 := by
    rw [← hW9]
    exact ((((Only.refl (fun y => y = b0 + 1) w2).setCell (fun _ => rfl) _).setCell (fun _ => rfl) _).setCell (fun _ => rfl) _).setCell (fun _ => rfl) _
  have hb := unhide Hb0
  refine ⟨(unhide HF2).keep hO9 (fun k hk e => ?_), (unhide HI2).keep hO9 (fun k hk e => ?_), fun y hy => ?_, fun y hy => ?_, (unhide HO2).trans hO9 (fun y hy e => by omega)⟩
  · have := unhide Hfb k hk; omega
  · have := unhide Hpb k hk; omega
  · have := unhide Hfb y hy; omega
  · have := unhide Hpb y hy; omega
end
end Go.Proofs.Qxb6500417aGreat
