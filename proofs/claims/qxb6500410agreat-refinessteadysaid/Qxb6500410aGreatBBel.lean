/-
  OWN WORK. THE B-TREE LAW's GROUND: below.go; what a cut of a whole step leaves.
-/
import Derived.Test.Qxb6500410aGreatBUn
namespace Go.Proofs.Qxb6500410aGreat
open Go.RowKit Go.PlainAid
set_option linter.unusedSimpArgs false
set_option linter.unusedVariables false

/-- What a cut of the step just played may leave; the step may be a recovery with all that the layers above did in it. -/
structure CutI (base : List ByteArray) (recs : List (Nat × ByteArray)) (was com : List ByteArray) : Prop where
  len : base.length = 153
  sz : ∀ x ∈ base, x.size = 128
  keys : ∀ r ∈ recs, r.1 < 153
  rsz : ∀ r ∈ recs, r.2.size = 128
  short : recs.length ≤ 500
  either : ∀ k, Shows (recov (replay base (recs.take k))) was ∨ Shows (recov (replay base (recs.take k))) com
  foot : Shows (recov (replay base (recs.take 0))) was
  work : ∀ k, recs.length ≤ k → Shows (recov (replay base (recs.take k))) com
section
variable {base : List ByteArray} {recs : List (Nat × ByteArray)} {was com : List ByteArray}
theorem CutInv.wide (h : CutInv base recs was com) : CutI base recs was com := ⟨h.len, h.sz, h.keys, h.rsz, by have := h.short; omega, h.either, h.foot, h.work⟩
theorem CutI.image_len (h : CutI base recs was com) (k : Nat) : (replay base (recs.take k)).length = 153 := by simpa using h.len
theorem CutI.image_sz (h : CutI base recs was com) (k : Nat) : ∀ x ∈ replay base (recs.take k), x.size = 128 := replay_sizes _ _ h.sz (fun r hr => h.rsz r (List.mem_of_mem_take hr))
theorem CutI.again (h : CutI base recs was com) (k : Nat) {X : List ByteArray} (hX : Shows (recov (replay base (recs.take k))) X) : CutInv (replay base (recs.take k)) (recRecs (replay base (recs.take k))) X X := by
  have hs : ∀ j, Shows (recov (replay (replay base (recs.take k)) ((recRecs (replay base (recs.take k))).take j))) X := fun j => by rw [recov_idem]; exact hX
  exact ⟨h.image_len k, h.image_sz k, recRecs_in _, recRecs_size _ (h.image_len k) (h.image_sz k), Nat.le_trans (recRecs_length _) (by omega), fun j => .inl (hs j), hs 0, fun j _ => hs j⟩
theorem CutI.inv (h : CutI base recs was com) (k : Nat) {X : List ByteArray} (lX : X.length = 80) (hX : Shows (recov (replay base (recs.take k))) X) : Inv (recov (replay base (recs.take k))) false [] X X (nots 80) :=
  Inv.fresh (by rw [recov_length]; exact h.image_len k) (recov_sizes _ (h.image_len k) (h.image_sz k)) (recov_zero _) hX lX
/-- A recovery, and the step that follows on it. -/
theorem CutI.join {X : List ByteArray} {rs rt : List (Nat × ByteArray)} (h : CutI base rs X X) (g : CutInv (replay base rs) rt X com) (hs : rs.length ≤ 300) : CutI base (rs ++ rt) X com := by
  have hr : ∀ k, rs.length ≤ k → replay base ((rs ++ rt).take k) = replay (replay base rs) (rt.take (k - rs.length)) := fun k hk => by
    rw [List.take_append, List.take_of_length_le hk, replay_append]
  have hl : ∀ k, k ≤ rs.length → replay base ((rs ++ rt).take k) = replay base (rs.take k) := fun k hk => by
    rw [List.take_append_of_le_length hk]
  refine ⟨h.len, h.sz, fun r hr' => ?_, fun r hr' => ?_, ?_, fun k => ?_, ?_, fun k hk => ?_⟩
  · rcases List.mem_append.mp hr' with c | c
    · exact h.keys r c
    · exact g.keys r c
  · rcases List.mem_append.mp hr' with c | c
    · exact h.rsz r c
    · exact g.rsz r c
  · rw [List.length_append]
    have := g.short
    omega
  · by_cases c : k ≤ rs.length
    · rw [hl k c]
      rcases h.either k with d | d <;> exact .inl d
    · rw [hr k (by omega)]
      exact g.either _
  · rw [hl 0 (by omega)]
    exact h.foot
  · rw [List.length_append] at hk
    rw [hr k (by omega)]
    exact g.work _ (by omega)
theorem Shows.eq {D X Y : List ByteArray} (hx : Shows D X) (hy : Shows D Y) (lx : X.length = 80) (ly : Y.length = 80) : X = Y := by
  apply List.ext_getElem (by omega)
  intro i h1 h2
  have := (hx i (by omega)).symm.trans (hy i (by omega))
  rw [List.getD_eq_getElem?_getD, List.getD_eq_getElem?_getD, List.getElem?_eq_getElem h1, List.getElem?_eq_getElem h2] at this
  exact this
end
def gbV (d p : Nat) : Value := .agg #[.pointer (some ⟨d, 0, none⟩), .pointer (some ⟨p, 0, none⟩)]
def gbC (d p : Nat) : Array Value := #[.pointer (some ⟨d, 0, none⟩), .pointer (some ⟨p, 0, none⟩)]
theorem gzeros_getD (n j : Nat) (h : j < n) : (zeros n).getD j emptyB = zeroB := by
  unfold zeros
  rw [List.getD_eq_getElem?_getD, List.getElem?_replicate, if_pos h]; rfl
theorem ginv_zero : Inv (zeros 153) false [] (zeros 80) (zeros 80) (nots 80) := by
  refine Inv.fresh (by simp) (fun x hx => ?_) ?_ (fun b hb => ?_) (by simp)
  · unfold zeros at hx
    rw [List.mem_replicate] at hx
    rw [hx.2, zeroB_size]
  · rw [gzeros_getD 153 0 (by omega)]; exact zeroB_byte
  · rw [gzeros_getD 153 _ (by omega), gzeros_getD 80 _ hb]
set_option maxRecDepth 100000 in
theorem gground_any (w : World) :
    Calls Tryz.prog 10 #[] w fun e w' => ∃ p l d F G, e = .returned (gbV d p) ∧ PG w' p l d (zeros 153) (zeros 153) [] false (zeros 80) ((zeros 80).take 72) F G ∧ (∀ k, F k ∨ G k ∨ k = p → w.heap.size ≤ k) ∧ Only (fun _ => False) w w' := by
  go_enter Tryz.func10, Tryz.ntmps10
  go_wp2_with fail
  refine (dnew_any _).mono ?_
  rintro e w1 ⟨rfl, hd1, ho1⟩
  simp only [World.size_alloc] at hd1
  have k1 := (Has.new w #[.pointer none, .pointer none] 31).keep ho1 (fun h => h)
  have s1 := ho1.size
  simp only [World.size_alloc] at s1
  go_wp2_with fail
  refine (wnew_any _ _).mono ?_
  rintro e w2 ⟨rfl, hl2, ho2⟩
  have s2 := ho2.size
  have k2 := k1.keep ho2 (fun h => h)
  have hFl : ∀ k, Ext (fun _ => False) (w.alloc (.cells #[.pointer none, .pointer none] 31)) w1 k → w.heap.size + 1 ≤ k ∧ k < w1.heap.size := by
    intro k hk; rcases hk with hk | hk
    · exact hk.elim
    · simp at hk; exact hk
  have hGl : ∀ k, Ext (fun _ => False) w1 w2 k → w1.heap.size ≤ k := Ext.le (fun _ h => h.elim) (Nat.le_refl _)
  have L2 : LG w2 w1.heap.size (w.heap.size + 1) (zeros 153) (zeros 153) [] false (zeros 80) (zeros 80) (Ext (fun _ => False) (w.alloc (.cells #[.pointer none, .pointer none] 31)) w1) (Ext (fun _ => False) w1 w2) :=
    ⟨⟨[], nots 80, hl2, ginv_zero, by simp⟩, hd1.keep ho2 (fun _ _ h => h), fun k hk hg => by have := hFl k hk; have := hGl k hg; omega⟩
  generalize Ext (fun _ => False) (w.alloc (.cells #[.pointer none, .pointer none] 31)) w1 = F at *
  generalize Ext (fun _ => False) w1 w2 = G at *
  have C3 := hide (pnew_any L2)
  go_wp2_with fail
  refine (unhide C3).mono ?_
  rintro e w3 ⟨rfl, p3, ho3⟩
  have s3 := ho3.size
  have k3 := k2.keep ho3 (fun h => h)
  have c0 := k3.cell 0
  have c1 := k3.cell 1
  have z0 := k3.free 0
  have z1 := k3.free 1
  have o123 : Only (fun _ => False) w w3 := ((((Only.refl _ w).alloc _).trans ho1 (fun _ _ h => h)).trans ho2 (fun _ _ h => h)).trans ho3 (fun _ _ h => h)
  clear C3 k1 k2 L2 hd1 hl2 ho1 ho2 ho3
  go_wp2_with fail
  have k4 := (k3.setCell 0 (.pointer (some ⟨w.heap.size + 1, 0, none⟩))).setCell 1 (.pointer (some ⟨w2.heap.size, 0, none⟩))
  have q0 := k4.cell 0
  have q1 := k4.cell 1
  have o3 : Only (fun k => k = w.heap.size) w3 ((w3.setCell ⟨w.heap.size, 0, none⟩ (.pointer (some ⟨w.heap.size + 1, 0, none⟩))).setCell ⟨w.heap.size, 1, none⟩ (.pointer (some ⟨w2.heap.size, 0, none⟩))) :=
    ((Only.refl (fun k => k = w.heap.size) w3).setCell (p := ⟨w.heap.size, 0, none⟩) (fun _ => rfl) _).setCell (p := ⟨w.heap.size, 1, none⟩) (fun _ => rfl) _
  simp at q0 q1
  refine bodyPost_ret (v := gbV (w.heap.size + 1) w2.heap.size) (by simp [results, Tryz.results10, go_sem, q0, q1, gbV]) rfl ⟨_, _, _, F, G, rfl, p3.keep o3 (fun k hk e => ?_) (fun k hk e => ?_) (by omega), ?_, o123.trans o3 (fun i hi e => by omega)⟩
  · have := hFl k hk; omega
  · have := hGl k hk; omega
  · rintro k (hk | hk | hk)
    · have := hFl k hk; omega
    · have := hGl k hk; omega
    · omega
set_option maxRecDepth 100000 in
theorem gsteps_any {d : Nat} {blk base : List ByteArray} {recs : List (Nat × ByteArray)} {F : Nat → Prop} {w : World} (p : Nat) (hd : DiskAt w d blk base recs F) :
    Calls Tryz.prog 12 #[gbV d p] w fun e w' => e = .returned (.int .i64 recs.length) ∧ Only (fun _ => False) w w' := by
  have o1 : Only (fun _ => False) w (w.alloc (.cells (gbC d p) 31)) := (Only.refl _ w).alloc _
  have C1 := hide (dsteps_any d blk base recs F _ (hd.keep o1 (fun _ _ h => h)))
  unfold gbC at C1 o1
  unfold gbV
  go_enter Tryz.func12, Tryz.ntmps12
  go_wp2_with fail
  refine (unhide C1).mono ?_
  rintro e w1 ⟨rfl, rfl⟩
  go_wp2
  go_ret
  exact ⟨rfl, o1⟩
set_option maxRecDepth 100000 in
theorem gmark_any {d : Nat} {blk base : List ByteArray} {recs : List (Nat × ByteArray)} {F : Nat → Prop} {w : World} (p : Nat) (hd : DiskAt w d blk base recs F) :
    Calls Tryz.prog 16 #[gbV d p] w fun e w' => e = .returned (.tuple #[]) ∧ DiskAt w' d blk blk [] (Ext F w w') ∧ Only F w w' := by
  have o1 : Only (fun _ => False) w (w.alloc (.cells (gbC d p) 31)) := (Only.refl _ w).alloc _
  have C1 := hide (dmark_any d blk base recs F _ (hd.keep o1 (fun _ _ h => h)))
  have hFi := hd.inn
  unfold gbC at C1 o1
  unfold gbV
  go_enter Tryz.func16, Tryz.ntmps16
  go_wp2_with fail
  refine (unhide C1).mono ?_
  rintro e w1 ⟨rfl, hd1, ho1⟩
  go_wp2
  go_end0
  have ho2 : Only F w w1 := (o1.mono (fun _ _ h => h.elim)).trans ho1 (fun _ _ h => h)
  refine ⟨rfl, hd1.mono (fun k hk => ?_) (Ext.in hFi ho2.size), ho2⟩
  rcases hk with hk | hk
  · exact .inl hk
  · simp at hk; exact .inr ⟨by omega, hk.2⟩
/-- A cut, and all layers below opened anew over what it leaves; it shows X. -/
theorem CutI.pick {base : List ByteArray} {recs : List (Nat × ByteArray)} {was com : List ByteArray} (h : CutI base recs was com) (k : Nat) : ∃ X, Shows (recov (replay base (recs.take k))) X ∧ (X = was ∨ X = com) ∧ (k = 0 → X = was) ∧ (k ≠ 0 → recs.length ≤ k → X = com) := by
  by_cases h0 : k = 0
  · subst h0
    exact ⟨was, h.foot, .inl rfl, fun _ => rfl, fun c => absurd rfl c⟩
  · by_cases h1 : recs.length ≤ k
    · exact ⟨com, h.work k h1, .inr rfl, fun c => absurd c h0, fun _ _ => rfl⟩
    · rcases h.either k with c | c
      · exact ⟨was, c, .inl rfl, fun _ => rfl, fun _ d => absurd d h1⟩
      · exact ⟨com, c, .inr rfl, fun d => absurd d h0, fun _ _ => rfl⟩
set_option maxRecDepth 100000 in
set_option maxHeartbeats 1000000 in
theorem gafter_any {d : Nat} {blk base : List ByteArray} {recs : List (Nat × ByteArray)} {F : Nat → Prop} {was com : List ByteArray} {w : World} (p : Nat) (kk : Int) (hd : DiskAt w d blk base recs F) (hcu : CutI base recs was com) {X : List ByteArray} (lX : X.length = 80) (hX : Shows (recov (replay base (recs.take kk.toNat))) X) :
    Calls Tryz.prog 27 #[gbV d p, .int .i64 kk] w fun e w' => ∃ p' l' d' D0 F' G', e = .returned (gbV d' p') ∧ PG w' p' l' d' (recov D0) D0 (recRecs D0) false X (X.take 72) F' G' ∧ CutI D0 (recRecs D0) X X ∧ (∀ k, F' k ∨ G' k ∨ k = p' → w.heap.size ≤ k) ∧ Only (fun _ => False) w w' := by
  have o1 : Only (fun _ => False) w ((w.alloc (.cells (gbC d p) 31)).alloc (.cells #[.pointer none, .pointer none] 31)) := ((Only.refl _ w).alloc _).alloc _
  have hl146 := hcu.short
  have C1 := hide (dafter_any d blk base recs F kk _ (hd.keep o1 (fun _ _ h => h)) hcu.keys (by omega))
  have kk1 : Has ((w.alloc (.cells (gbC d p) 31)).alloc (.cells #[.pointer none, .pointer none] 31)) (w.heap.size + 1) #[.pointer none, .pointer none] 31 := Has.new' _ _ _ _ (by simp)
  have hDs : ∀ x ∈ replay base (recs.take kk.toNat), x.size = 128 := hcu.image_sz _
  have HC := hide (hcu.again kk.toNat hX).wide
  have hI := hcu.inv kk.toNat lX hX
  generalize replay base (recs.take kk.toNat) = D0 at *
  unfold gbC at C1 o1 kk1
  unfold gbV
  have hsz : ((w.alloc (.cells #[.pointer (some ⟨d, 0, none⟩), .pointer (some ⟨p, 0, none⟩)] 31)).alloc (.cells #[.pointer none, .pointer none] 31)).heap.size = w.heap.size + 1 + 1 := by simp
  go_enter Tryz.func27, Tryz.ntmps27
  go_wp2_with fail
  refine (unhide C1).mono ?_
  rintro e w1 ⟨rfl, hd1, ho1⟩
  rw [hsz] at hd1
  have s1 := ho1.size
  rw [hsz] at s1
  have hF1 : ∀ k, Ext (fun _ => False) ((w.alloc (.cells #[.pointer (some ⟨d, 0, none⟩), .pointer (some ⟨p, 0, none⟩)] 31)).alloc (.cells #[.pointer none, .pointer none] 31)) w1 k → w.heap.size + 1 + 1 ≤ k := Ext.le (fun _ h => h.elim) (by rw [hsz]; exact Nat.le_refl _)
  have k1 := kk1.keep ho1 (fun h => h)
  have oA := o1.trans ho1 (fun _ _ h => h)
  generalize Ext (fun _ => False) ((w.alloc (.cells #[.pointer (some ⟨d, 0, none⟩), .pointer (some ⟨p, 0, none⟩)] 31)).alloc (.cells #[.pointer none, .pointer none] 31)) w1 = F1 at *
  have C2 := hide (dmark_any _ _ _ _ _ w1 hd1)
  clear C1 kk1 o1 ho1
  go_wp2_with fail
  refine (unhide C2).mono ?_
  rintro e w2 ⟨rfl, hd2, ho2⟩
  have s2 := ho2.size
  have k2 := k1.keep ho2 (fun h => by have := hF1 _ h; omega)
  have hF2 : ∀ k, Ext F1 w1 w2 k → w.heap.size + 1 + 1 ≤ k := Ext.le hF1 (by omega)
  have oB : Only (fun _ => False) w w2 := oA.trans ho2 (fun i hi h => by have := hF1 _ h; omega)
  have C3 := hide (wopen_any _ D0 D0 [] _ w2 hd2 hDs (by simp))
  go_wp2_with fail
  refine (unhide C3).mono ?_
  rintro e w3 ⟨l', F4, G4, rfl, hd3, hl3, ho3, hF4, hG4, hFG4⟩
  rw [List.nil_append] at hd3
  have hrv : replay D0 (recRecs D0) = recov D0 := rfl
  rw [hrv] at hd3
  have s3 := ho3.size
  have k3 := k2.keep ho3 (fun h => by have := hF2 _ h; omega)
  have oC : Only (fun _ => False) w w3 := oB.trans ho3 (fun i hi h => by have := hF2 _ h; omega)
  have hFl : ∀ k, F4 k → w.heap.size + 1 + 1 ≤ k := fun k hk => Ext.le hF2 (by omega) k (hF4 k hk)
  have hGl : ∀ k, G4 k → w.heap.size + 1 + 1 ≤ k := fun k hk => by have := hG4 k hk; omega
  have L3 : LG w3 l' (w.heap.size + 1 + 1) (recov D0) D0 (recRecs D0) false X X F4 G4 := ⟨⟨[], nots 80, hl3, hI, by simp⟩, hd3, hFG4⟩
  have C4 := hide (popen_any L3)
  clear C2 C3 hrv hd3 hl3 L3 hd1 hd2
  go_wp2_with fail
  refine (unhide C4).mono ?_
  rintro e w4 ⟨rfl, p4, ho4⟩
  have s4 := ho4.size
  have k4 := k3.keep ho4 (fun h => h)
  have c0 := k4.cell 0
  have c1 := k4.cell 1
  have z0 := k4.free 0
  have z1 := k4.free 1
  clear C4
  go_wp2_with fail
  have k5 := (k4.setCell 0 (.pointer (some ⟨w.heap.size + 1 + 1, 0, none⟩))).setCell 1 (.pointer (some ⟨w3.heap.size, 0, none⟩))
  have q0 := k5.cell 0
  have q1 := k5.cell 1
  have o5 : Only (fun k => k = w.heap.size + 1) w4 ((w4.setCell ⟨w.heap.size + 1, 0, none⟩ (.pointer (some ⟨w.heap.size + 1 + 1, 0, none⟩))).setCell ⟨w.heap.size + 1, 1, none⟩ (.pointer (some ⟨w3.heap.size, 0, none⟩))) :=
    ((Only.refl (fun k => k = w.heap.size + 1) w4).setCell (p := ⟨w.heap.size + 1, 0, none⟩) (fun _ => rfl) _).setCell (p := ⟨w.heap.size + 1, 1, none⟩) (fun _ => rfl) _
  simp at q0 q1
  refine bodyPost_ret (v := gbV (w.heap.size + 1 + 1) w3.heap.size) (by simp [results, Tryz.results27, go_sem, q0, q1, gbV]) rfl ⟨_, l', _, D0, F4, G4, rfl, p4.keep o5 (fun k hk e => ?_) (fun k hk e => ?_) (by omega), unhide HC, ?_, (oC.trans ho4 (fun _ _ h => h)).trans o5 (fun i hi e => by omega)⟩
  · have := hFl k hk; omega
  · have := hGl k hk; omega
  · rintro k (hk | hk | hk)
    · have := hFl k hk; omega
    · have := hGl k hk; omega
    · omega
end Go.Proofs.Qxb6500410aGreat
