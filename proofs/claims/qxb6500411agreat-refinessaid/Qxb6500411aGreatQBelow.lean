/-
  OWN WORK. THE PAGER LAW's GROUND: below.go.
-/
import Derived.Test.Qxb6500411aGreatPgSee
namespace Go.Proofs.Qxb6500411aGreat
open Go.RowKit
set_option linter.unusedSimpArgs false
set_option linter.unusedVariables false

def belowV (d l : Nat) : Value := .agg #[.pointer (some ⟨d, 0, none⟩), .pointer (some ⟨l, 0, none⟩)]
def belowC (d l : Nat) : Array Value := #[.pointer (some ⟨d, 0, none⟩), .pointer (some ⟨l, 0, none⟩)]

theorem zeros_getD' (n j : Nat) (h : j < n) : (zeros n).getD j emptyB = zeroB := by
  unfold zeros
  rw [List.getD_eq_getElem?_getD, List.getElem?_replicate, if_pos h]; rfl
theorem inv_zero' : Inv (zeros 153) false [] (zeros 80) (zeros 80) (nots 80) := by
  refine Inv.fresh (by simp) (fun x hx => ?_) ?_ (fun b hb => ?_) (by simp)
  · unfold zeros at hx
    rw [List.mem_replicate] at hx
    rw [hx.2, zeroB_size]
  · rw [zeros_getD' 153 0 (by omega)]; exact zeroB_byte
  · rw [zeros_getD' 153 _ (by omega), zeros_getD' 80 _ hb]

set_option maxRecDepth 100000 in
theorem qground_any (w : World) :
    Calls Tryz.prog 8 #[] w fun e w' => ∃ d l F G, e = .returned (belowV d l) ∧ LG w' l d (zeros 153) (zeros 153) [] false (zeros 80) (zeros 80) F G ∧ (∀ k, F k ∨ G k → w.heap.size ≤ k) ∧ Only (fun _ => False) w w' := by
  go_enter Tryz.func8, Tryz.ntmps8
  go_wp2_with fail
  refine (dnew_any _).mono ?_
  rintro e w1 ⟨rfl, hd1, ho1⟩
  simp only [World.size_alloc] at hd1
  have k1 := (Has.new w #[.pointer none, .pointer none] 30).keep ho1 (fun h => h)
  have s1 := ho1.size
  simp only [World.size_alloc] at s1
  go_wp2_with fail
  refine (wnew_any _ _).mono ?_
  rintro e w2 ⟨rfl, hl2, ho2⟩
  have s2 := ho2.size
  have k2 := k1.keep ho2 (fun h => h)
  have c0 := k2.cell 0
  have c1 := k2.cell 1
  have z0 := k2.free 0
  have z1 := k2.free 1
  go_wp2_with fail
  have k3 := (k2.setCell 0 (.pointer (some ⟨w.heap.size + 1, 0, none⟩))).setCell 1 (.pointer (some ⟨w1.heap.size, 0, none⟩))
  have q0 := k3.cell 0
  have q1 := k3.cell 1
  have o3 : Only (fun k => k = w.heap.size) w2 ((w2.setCell ⟨w.heap.size, 0, none⟩ (.pointer (some ⟨w.heap.size + 1, 0, none⟩))).setCell ⟨w.heap.size, 1, none⟩ (.pointer (some ⟨w1.heap.size, 0, none⟩))) :=
    ((Only.refl (fun k => k = w.heap.size) w2).setCell (p := ⟨w.heap.size, 0, none⟩) (fun _ => rfl) _).setCell (p := ⟨w.heap.size, 1, none⟩) (fun _ => rfl) _
  simp at q0 q1
  have hFl : ∀ k, Ext (fun _ => False) (w.alloc (.cells #[.pointer none, .pointer none] 30)) w1 k → w.heap.size + 1 ≤ k ∧ k < w1.heap.size := by
    intro k hk; rcases hk with hk | hk
    · exact hk.elim
    · simp at hk; exact hk
  have hGl : ∀ k, Ext (fun _ => False) w1 w2 k → w1.heap.size ≤ k := Ext.le (fun _ h => h.elim) (Nat.le_refl _)
  refine bodyPost_ret (v := belowV (w.heap.size + 1) w1.heap.size) (by simp [results, Tryz.results8, go_sem, q0, q1, belowV]) rfl ⟨_, _, _, _, rfl, ⟨⟨[], nots 80, hl2.keep o3 (fun k hk e => ?_), inv_zero', by simp⟩, (hd1.keep ho2 (fun _ _ h => h)).keep o3 (fun k hk e => ?_), ?_⟩, ?_, ?_⟩
  · have := hGl k hk; omega
  · have := hFl k hk; omega
  · intro k hk hg; have := hFl k hk; have := hGl k hg; omega
  · rintro k (hk | hk)
    · have := hFl k hk; omega
    · have := hGl k hk; omega
  · exact (((Only.refl _ w).alloc _).trans ho1 (fun _ _ h => h)).trans ho2 (fun _ _ h => h) |>.trans o3 (fun i hi e => by omega)

set_option maxRecDepth 100000 in
theorem qsteps_any (d l : Nat) (blk base : List ByteArray) (recs : List (Nat × ByteArray)) (F : Nat → Prop) (w : World) (hd : DiskAt w d blk base recs F) :
    Calls Tryz.prog 9 #[belowV d l] w fun e w' => e = .returned (.int .i64 recs.length) ∧ Only (fun _ => False) w w' := by
  have o1 : Only (fun _ => False) w (w.alloc (.cells (belowC d l) 30)) := (Only.refl _ w).alloc _
  have C1 := hide (dsteps_any d blk base recs F _ (hd.keep o1 (fun _ _ h => h)))
  unfold belowC at C1 o1
  unfold belowV
  go_enter Tryz.func9, Tryz.ntmps9
  go_wp2_with fail
  refine (unhide C1).mono ?_
  rintro e w1 ⟨rfl, rfl⟩
  go_wp2
  go_ret
  exact ⟨rfl, o1⟩

set_option maxRecDepth 100000 in
theorem qmark_any (d l : Nat) (blk base : List ByteArray) (recs : List (Nat × ByteArray)) (F : Nat → Prop) (w : World) (hd : DiskAt w d blk base recs F) :
    Calls Tryz.prog 17 #[belowV d l] w fun e w' => e = .returned (.tuple #[]) ∧ DiskAt w' d blk blk [] (Ext F w w') ∧ Only F w w' := by
  have o1 : Only (fun _ => False) w (w.alloc (.cells (belowC d l) 30)) := (Only.refl _ w).alloc _
  have C1 := hide (dmark_any d blk base recs F _ (hd.keep o1 (fun _ _ h => h)))
  have hFi := hd.inn
  unfold belowC at C1 o1
  unfold belowV
  go_enter Tryz.func17, Tryz.ntmps17
  go_wp2_with fail
  refine (unhide C1).mono ?_
  rintro e w1 ⟨rfl, hd1, ho1⟩
  go_wp2
  go_end0
  have ho2 : Only F w w1 := (o1.mono (fun _ _ h => h.elim)).trans ho1 (fun _ _ h => h)
  refine ⟨rfl, hd1.mono (fun k hk => ?_) (Ext.in hFi ho2.size), ho2⟩
  rcases hk with hk | hk
  · exact .inl hk
  · simp at hk; exact .inr ⟨by omega, hk.2⟩

set_option maxRecDepth 100000 in
set_option maxHeartbeats 1000000 in
theorem qafter_any (d l : Nat) (blk base : List ByteArray) (recs : List (Nat × ByteArray)) (F : Nat → Prop) (kk : Int) (was com : List ByteArray) (w : World) (hd : DiskAt w d blk base recs F) (hcu : CutInv base recs was com) :
    Calls Tryz.prog 21 #[belowV d l, .int .i64 kk] w fun e w' => ∃ d' l' F' G', e = .returned (belowV d' l') ∧
      DiskAt w' d' (recov (replay base (recs.take kk.toNat))) (replay base (recs.take kk.toNat)) (recRecs (replay base (recs.take kk.toNat))) F' ∧ LogAt w' l' d' false [] G' ∧ (∀ k, F' k → ¬ G' k) ∧ (∀ k, F' k ∨ G' k → w.heap.size ≤ k) ∧ Only (fun _ => False) w w' := by
  have o1 : Only (fun _ => False) w ((w.alloc (.cells (belowC d l) 30)).alloc (.cells #[.pointer none, .pointer none] 30)) := ((Only.refl _ w).alloc _).alloc _
  have hl146 := hcu.short
  have C1 := hide (dafter_any d blk base recs F kk _ (hd.keep o1 (fun _ _ h => h)) hcu.keys (by omega))
  have kk1 : Has ((w.alloc (.cells (belowC d l) 30)).alloc (.cells #[.pointer none, .pointer none] 30)) (w.heap.size + 1) #[.pointer none, .pointer none] 30 := Has.new' _ _ _ _ (by simp)
  have hDs : ∀ x ∈ replay base (recs.take kk.toNat), x.size = 128 := hcu.image_sz _
  generalize replay base (recs.take kk.toNat) = D0 at *
  unfold belowC at C1 o1 kk1
  unfold belowV
  have hsz : ((w.alloc (.cells #[.pointer (some ⟨d, 0, none⟩), .pointer (some ⟨l, 0, none⟩)] 30)).alloc (.cells #[.pointer none, .pointer none] 30)).heap.size = w.heap.size + 1 + 1 := by simp
  go_enter Tryz.func21, Tryz.ntmps21
  go_wp2_with fail
  refine (unhide C1).mono ?_
  rintro e w1 ⟨rfl, hd1, ho1⟩
  rw [hsz] at hd1
  have s1 := ho1.size
  rw [hsz] at s1
  have hF1 : ∀ k, Ext (fun _ => False) ((w.alloc (.cells #[.pointer (some ⟨d, 0, none⟩), .pointer (some ⟨l, 0, none⟩)] 30)).alloc (.cells #[.pointer none, .pointer none] 30)) w1 k → w.heap.size + 1 + 1 ≤ k := Ext.le (fun _ h => h.elim) (by rw [hsz]; exact Nat.le_refl _)
  have k1 := kk1.keep ho1 (fun h => h)
  have oA := o1.trans ho1 (fun _ _ h => h)
  generalize Ext (fun _ => False) ((w.alloc (.cells #[.pointer (some ⟨d, 0, none⟩), .pointer (some ⟨l, 0, none⟩)] 30)).alloc (.cells #[.pointer none, .pointer none] 30)) w1 = F1 at *
  have C2 := hide (dmark_any _ _ _ _ _ w1 hd1)
  clear C1 kk1 o1 ho1
  go_wp2_with fail
  refine (unhide C2).mono ?_
  rintro e w2 ⟨rfl, hd2, ho2⟩
  have s2 := ho2.size
  have k2 := k1.keep ho2 (fun h => by have := hF1 _ h; omega)
  have hF2 : ∀ k, Ext F1 w1 w2 k → w.heap.size + 1 + 1 ≤ k := Ext.le hF1 (by omega)
  have oB : Only (fun _ => False) w w2 := oA.trans ho2 (fun i hi h => by have := hF1 _ h; omega)
  have C3 := hide (wopen_any _ D0 D0 [] _ w2 hd2 hDs (by simp))
  go_wp2_with fail
  refine (unhide C3).mono ?_
  rintro e w3 ⟨l', F4, G4, rfl, hd3, hl3, ho3, hF4, hG4, hFG4⟩
  rw [List.nil_append] at hd3
  have hrv : replay D0 (recRecs D0) = recov D0 := rfl
  rw [hrv] at hd3
  have s3 := ho3.size
  have k3 := k2.keep ho3 (fun h => by have := hF2 _ h; omega)
  have oC : Only (fun _ => False) w w3 := oB.trans ho3 (fun i hi h => by have := hF2 _ h; omega)
  have c0 := k3.cell 0
  have c1 := k3.cell 1
  have z0 := k3.free 0
  have z1 := k3.free 1
  have hFl : ∀ k, F4 k → w.heap.size + 1 + 1 ≤ k := fun k hk => Ext.le hF2 (by omega) k (hF4 k hk)
  have hGl : ∀ k, G4 k → w.heap.size + 1 + 1 ≤ k := fun k hk => by have := hG4 k hk; omega
  clear C2 C3 hrv
  go_wp2_with fail
  have k4 := (k3.setCell 0 (.pointer (some ⟨w.heap.size + 1 + 1, 0, none⟩))).setCell 1 (.pointer (some ⟨l', 0, none⟩))
  have q0 := k4.cell 0
  have q1 := k4.cell 1
  have o4 : Only (fun k => k = w.heap.size + 1) w3 ((w3.setCell ⟨w.heap.size + 1, 0, none⟩ (.pointer (some ⟨w.heap.size + 1 + 1, 0, none⟩))).setCell ⟨w.heap.size + 1, 1, none⟩ (.pointer (some ⟨l', 0, none⟩))) :=
    ((Only.refl (fun k => k = w.heap.size + 1) w3).setCell (p := ⟨w.heap.size + 1, 0, none⟩) (fun _ => rfl) _).setCell (p := ⟨w.heap.size + 1, 1, none⟩) (fun _ => rfl) _
  simp at q0 q1
  refine bodyPost_ret (v := belowV (w.heap.size + 1 + 1) l') (by simp [results, Tryz.results21, go_sem, q0, q1, belowV]) rfl ⟨_, _, F4, G4, rfl, hd3.keep o4 (fun k hk e => ?_), hl3.keep o4 (fun k hk e => ?_), hFG4, ?_, oC.trans o4 (fun i hi e => by omega)⟩
  · have := hFl k hk; omega
  · have := hGl k hk; omega
  · rintro k (hk | hk)
    · have := hFl k hk; omega
    · have := hGl k hk; omega

/-- The log over a cut image shows X. -/
theorem LG.cut {w : World} {l d : Nat} {base : List ByteArray} {recs : List (Nat × ByteArray)} {was com X : List ByteArray} {F G : Nat → Prop} {kk : Nat} (hcu : CutInv base recs was com) (lX : X.length = 80) (hX : Shows (recov (replay base (recs.take kk))) X)
    (hd : DiskAt w d (recov (replay base (recs.take kk))) (replay base (recs.take kk)) (recRecs (replay base (recs.take kk))) F) (hl : LogAt w l d false [] G) (hFG : ∀ k, F k → ¬ G k) :
    LG w l d (recov (replay base (recs.take kk))) (replay base (recs.take kk)) (recRecs (replay base (recs.take kk))) false X X F G :=
  ⟨⟨[], nots 80, hl, hcu.inv kk lX hX, by simp⟩, hd, hFG⟩
end Go.Proofs.Qxb6500411aGreat
