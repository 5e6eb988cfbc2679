/-
  OWN WORK. THE DISK.
-/
import Derived.Test.Qxb6500412aGreatMem
namespace Go.Proofs.Qxb6500412aGreat
open Go.RowKit
set_option linter.unusedSimpArgs false
set_option linter.unusedVariables false

def recCells (l : List (Nat × ByteArray)) : List Value := l.flatMap fun r => [.int .i64 (r.1 : Int), .string r.2]

/-- A disk at block d: its blocks, its blocks as at the mark, the writes since. F: the blocks of memory that it may hold. -/
structure DiskAt (w : World) (d : Nat) (blk base : List ByteArray) (recs : List (Nat × ByteArray)) (F : Nat → Prop) : Prop where
  ex : ∃ bb nb rv, Has w d #[.slice (some ⟨bb, 0, none⟩) 153 153, .slice (some ⟨nb, 0, none⟩) 153 153, rv] 125 ∧ Has w bb (strs blk) 137 ∧ Has w nb (strs base) 137 ∧
    w.ownsRow 0 206 2 rv recs.length (recCells recs) ∧ bb ≠ nb ∧ F d ∧ F bb ∧ F nb ∧ ∀ k, rv.ownBlock = some k → F k
  len : blk.length = 153
  lenb : base.length = 153
  inn : ∀ k, F k → k < w.heap.size

theorem DiskAt.keep {S : Nat → Prop} {w w' : World} {d : Nat} {blk base : List ByteArray} {recs : List (Nat × ByteArray)} {F : Nat → Prop} (h : DiskAt w d blk base recs F) (ho : Only S w w') (hS : ∀ k, F k → ¬ S k) : DiskAt w' d blk base recs F := by
  obtain ⟨⟨bb, nb, rv, h1, h2, h3, h4, h5, f1, f2, f3, f4⟩, l1, l2, hi⟩ := h
  exact ⟨⟨bb, nb, rv, h1.keep ho (hS _ f1), h2.keep ho (hS _ f2), h3.keep ho (hS _ f3), ownsRow_keep h4 ho (fun k hk => hS k (f4 k hk)), h5, f1, f2, f3, f4⟩, l1, l2, fun k hk => Nat.lt_of_lt_of_le (hi k hk) ho.size⟩

set_option maxRecDepth 100000 in
theorem dread_any (d : Nat) (blk base : List ByteArray) (recs : List (Nat × ByteArray)) (F : Nat → Prop) (b : Nat) (w : World) (hd : DiskAt w d blk base recs F) (hb : b < 153) :
    Calls Tryz.prog 85 #[.pointer (some ⟨d, 0, none⟩), .int .i64 b] w fun e w' => e = .returned (.tuple #[.string (blk.getD b emptyB), .int .i64 0]) ∧ w = w' := by
  obtain ⟨⟨bb, nb, rv, h1, h2, h3, h4, h5, f1, f2, f3, f4⟩, l1, l2, hi⟩ := hd
  have c0 := h1.cell 0
  have c1 := h2.cell b
  rw [strs_get _ _ (by omega)] at c1
  have e1 : blk.getD b emptyB = blk[b] := by simp [List.getD_eq_getElem?_getD, l1, hb]
  rw [e1]
  go_enter Tryz.func85, Tryz.ntmps85
  go_wp2
  go_ret2
  exact ⟨rfl, rfl⟩

theorem dsteps_any (d : Nat) (blk base : List ByteArray) (recs : List (Nat × ByteArray)) (F : Nat → Prop) (w : World) (hd : DiskAt w d blk base recs F) :
    Calls Tryz.prog 35 #[.pointer (some ⟨d, 0, none⟩)] w fun e w' => e = .returned (.int .i64 recs.length) ∧ w = w' := by
  obtain ⟨⟨bb, nb, rv, h1, h2, h3, h4, h5, f1, f2, f3, f4⟩, l1, l2, hi⟩ := hd
  have c2 := h1.cell 2
  obtain ⟨a, cap, hv⟩ : ∃ a cap, rv = .slice a recs.length cap := by
    rcases h4.2 with ⟨hv, hn⟩ | ⟨g, cap, cur, hv, _⟩
    · exact ⟨none, 0, by rw [hv, hn]⟩
    · exact ⟨_, cap, hv⟩
  rw [hv] at c2
  go_enter Tryz.func35, Tryz.ntmps35
  go_wp2
  go_ret
  exact ⟨rfl, rfl⟩
theorem Tryz.infoRec : (Tryz.prog.info? 206).map (fun i => (i.zero, i.size, i.bytes)) = some (some (.agg #[.int .i64 0, .string ⟨#[]⟩]), 2, 24) := by kernel_rfl

theorem recCells_snoc (l : List (Nat × ByteArray)) (b : Nat) (x : ByteArray) : recCells (l ++ [(b, x)]) = recCells l ++ [.int .i64 (b : Int), .string x] := by simp [recCells]

set_option maxRecDepth 100000 in
set_option maxHeartbeats 400000 in
theorem dwrite_any (d : Nat) (blk base : List ByteArray) (recs : List (Nat × ByteArray)) (F : Nat → Prop) (b : Nat) (x : ByteArray) (w : World) (hd : DiskAt w d blk base recs F) (hb : b < 153) (hx : x.size ≤ maxLen) (hr : recs.length ≤ 1000) :
    Calls Tryz.prog 141 #[.pointer (some ⟨d, 0, none⟩), .int .i64 b, .string x] w fun e w' => e = .returned (.int .i64 0) ∧
      DiskAt w' d (blk.set b (blockOf x)) base (recs ++ [(b, blockOf x)]) (Ext F w w') ∧ Only F w w' := by
  obtain ⟨⟨bb, nb, rv, h1, h2, h3, h4, h5, f1, f2, f3, f4⟩, l1, l2, hi⟩ := hd
  have c0 := h1.cell 0
  have c1 := h2.cell b
  have z1 := h2.free b
  rw [strs_get _ _ (by omega)] at c1
  have n1 : d ≠ bb := h1.ne h2 (by decide)
  have k1 := h1.setCell_other (p := ⟨bb, b, none⟩) (u := .string (blockOf x)) n1
  have c2 := k1.cell 2
  have o1 : Only F w (w.setCell ⟨bb, b, none⟩ (.string (blockOf x))) := (Only.refl F w).setCell (fun _ => f2) _
  have nr := ownsRow_ne h4 h2 (by decide)
  have nr1 := ownsRow_ne h4 h3 (by decide)
  have nr2 := ownsRow_ne h4 h1 (by decide)
  have own1 : (w.setCell ⟨bb, b, none⟩ (.string (blockOf x))).ownsRow 0 206 2 rv recs.length (recCells recs) :=
    ownsRow_setCell_other h4 (fun h => nr _ h rfl) _
  have hbb := h2.lt
  have hdd := h1.lt
  have hnn := h3.lt
  have g2 := h2.setCell b (.string (blockOf x))
  rw [strs_set] at g2
  have g3 := h3.setCell_other (p := ⟨bb, b, none⟩) (u := .string (blockOf x)) (fun e => h5 e.symm)
  have n3 := h1.ne h3 (by decide)
  obtain ⟨i0, hi0, hz0, hz1, hz2⟩ := info_parts Tryz.infoRec
  go_enter Tryz.func141, Tryz.ntmps141
  go_wp2_with fail
  refine (blockOf_any x _ hx).mono ?_
  rintro e w' ⟨rfl, rfl⟩
  go_wp2_with (at_builtin; refine wpList_append2 _ rfl _ _ 123 rfl 206 i0 _ 2 24 Tryz.underlying123 hi0 hz0 hz1 hz2 rfl (by decide) _ _ _ rfl (own1.alloc _) ⟨w.heap.size, 0, none⟩ 1 1 [.int .i64 b, .string (blockOf x)] rfl rfl ?c1 ?c2 ?c3 ?c4 ?_)
  case c1 => exact news_ok _ _ _ _ (by simp)
  case c2 => intro u hu; simp at hu; rcases hu with rfl | rfl <;> rfl
  case c3 => unfold maxLen; omega
  case c4 => omega
  intro v' w1 hown' hgrow hwhere
  have o2 : Only F w w1 := (o1.alloc _).grown hgrow (fun k hk _ => f4 k hk)
  have m1 : Has w1 d _ _ := (hgrow.block d (by simp; omega) (fun e => nr2 d e.symm rfl)).trans (k1.alloc _)
  have m2 : Has w1 bb _ _ := (hgrow.block bb (by simp; omega) (fun e => nr bb e.symm rfl)).trans (g2.alloc _)
  have m3 : Has w1 nb _ _ := (hgrow.block nb (by simp; omega) (fun e => nr1 nb e.symm rfl)).trans (g3.alloc _)
  have c4 := m1.cell 2
  have z4 := m1.free 2
  have q1 := hgrow.size
  simp only [World.size_alloc, World.size_setCell] at q1
  obtain ⟨a', cap', hv'⟩ := ownsRow_shape hown'
  have nv := ownsRow_ne hown' m1 (by decide)
  have lv := ownsRow_lt hown'
  rw [hv']
  rw [hv'] at hown' nv lv hwhere
  go_wp2
  go_ret
  refine ⟨rfl, ⟨⟨bb, nb, .slice a' (recs.length + 1) cap', ?_, m2.setCell_other (fun e => n1 e.symm) _, m3.setCell_other (fun e => n3 e.symm) _, ?_, h5, .inl f1, .inl f2, .inl f3, ?_⟩, by simp [l1], l2, ?_⟩, o2.setCell (fun _ => f1) _⟩
  · have := m1.setCell 2 (.slice a' (recs.length + 1) cap')
    simpa using this
  · rw [recCells_snoc, List.length_append]
    exact ownsRow_setCell_other hown' (fun h => nv _ h rfl) _
  · intro k hk
    rcases hwhere k hk with hk' | hk'
    · exact .inl (f4 k hk')
    · exact .inr ⟨by omega, by simpa using lv k hk⟩
  · exact Ext.in hi (by simp; omega)

set_option maxRecDepth 100000 in
set_option maxHeartbeats 400000 in
theorem dmark_any (d : Nat) (blk base : List ByteArray) (recs : List (Nat × ByteArray)) (F : Nat → Prop) (w : World) (hd : DiskAt w d blk base recs F) :
    Calls Tryz.prog 40 #[.pointer (some ⟨d, 0, none⟩)] w fun e w' => e = .returned (.tuple #[]) ∧ DiskAt w' d blk blk [] (Ext F w w') ∧ Only F w w' := by
  obtain ⟨⟨bb, nb, rv, h1, h2, h3, h4, h5, f1, f2, f3, f4⟩, l1, l2, hi⟩ := hd
  have c0 := h1.cell 0
  have d1 := h1.cell 1
  have z1 := h1.free 1
  have d2 := h1.cell 2
  have z2 := h1.free 2
  have hdd := h1.lt
  have hbb := h2.lt
  have n1 := h1.ne h2 (by decide)
  obtain ⟨a, cap, hv⟩ := ownsRow_shape h4
  rw [hv] at d2 d1
  go_enter Tryz.func40, Tryz.ntmps40
  go_wp2_with fail
  refine (copyBlocks_n bb 153 blk _ h2 l1 (by omega)).mono ?_
  rintro e w' ⟨rfl, rfl⟩
  go_wp2
  go_end0
  refine ⟨rfl, ⟨⟨bb, w.heap.size, .slice none 0 0, ?_, ?_, ?_, World.ownsRow_nil _ _ _ _, by omega, .inl f1, .inl f2, .inr ⟨Nat.le_refl _, by simp⟩, ?_⟩, l1, l1, ?_⟩, ?_⟩
  · have := ((h1.setCell 1 (.slice (some ⟨w.heap.size, 0, none⟩) 153 153)).setCell 2 (.slice none 0 0)).alloc (.cells (strs blk) 137)
    simpa using this
  · exact (((h2.setCell_other (fun e => n1 e.symm) _).setCell_other (fun e => n1 e.symm) _).alloc _)
  · have := Has.new ((w.setCell ⟨d, 1, none⟩ (.slice (some ⟨w.heap.size, 0, none⟩) 153 153)).setCell ⟨d, 2, none⟩ (.slice none 0 0)) (strs blk) 137
    simpa using this
  · intro k hk; simp [Value.ownBlock] at hk
  · exact Ext.in hi (by simp)
  · exact (((Only.refl F w).setCell (fun _ => f1) _).setCell (fun _ => f1) _).alloc _

def replay (l : List ByteArray) (rs : List (Nat × ByteArray)) : List ByteArray := rs.foldl (fun l r => l.set r.1 r.2) l
@[simp] theorem replay_length (l : List ByteArray) (rs : List (Nat × ByteArray)) : (replay l rs).length = l.length := by
  unfold replay
  induction rs generalizing l with
  | nil => rfl
  | cons r rs ih => simp only [List.foldl_cons]; rw [ih]; simp
theorem replay_snoc (l : List ByteArray) (rs : List (Nat × ByteArray)) (r : Nat × ByteArray) : replay l (rs ++ [r]) = (replay l rs).set r.1 r.2 := by simp [replay]
theorem replay_take (l : List ByteArray) (rs : List (Nat × ByteArray)) (k : Nat) (h : k < rs.length) : replay l (rs.take (k + 1)) = (replay l (rs.take k)).set rs[k].1 rs[k].2 := by
  rw [List.take_succ_eq_append_getElem h, replay_snoc]
theorem recCells_length (l : List (Nat × ByteArray)) : (recCells l).length = 2 * l.length := by
  unfold recCells
  induction l with
  | nil => rfl
  | cons a l ih => simp only [List.flatMap_cons, List.length_append, ih, List.length_cons, List.length_nil]; omega
theorem recCells_get0 (l : List (Nat × ByteArray)) (k : Nat) (h : k < l.length) : (recCells l)[2 * k]? = some (.int .i64 (l[k].1 : Int)) := by
  unfold recCells
  induction l generalizing k with
  | nil => simp at h
  | cons a l ih =>
    cases k with
    | zero => simp
    | succ k =>
      have e : 2 * (k + 1) = 2 * k + 1 + 1 := by omega
      rw [e]
      simpa using ih k (by simpa using h)
theorem recCells_get1 (l : List (Nat × ByteArray)) (k : Nat) (h : k < l.length) : (recCells l)[2 * k + 1]? = some (.string l[k].2) := by
  unfold recCells
  induction l generalizing k with
  | nil => simp at h
  | cons a l ih =>
    cases k with
    | zero => simp
    | succ k =>
      have e : 2 * (k + 1) + 1 = 2 * k + 1 + 1 + 1 := by omega
      rw [e]
      simpa using ih k (by simpa using h)

end Go.Proofs.Qxb6500412aGreat
