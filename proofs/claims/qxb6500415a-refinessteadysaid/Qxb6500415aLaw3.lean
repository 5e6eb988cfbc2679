/-
  OWN WORK. THE LAW's GROUND: below.go; Held; DueWrite.
-/
import Derived.Test.Qxb6500415aLaw2
namespace Go.Proofs.Qxb6500415a
open Go.RowKit
set_option linter.unusedSimpArgs false
set_option linter.unusedVariables false

set_option maxRecDepth 100000 in
theorem ground_any (w : World) :
    Calls Try.prog 10 #[] w fun e w' => e = .returned (.agg #[.pointer (some ⟨w.heap.size + 1, 0, none⟩)]) ∧ DiskAt w' (w.heap.size + 1) (zeros 153) (zeros 153) [] (Ext (fun _ => False) w w') ∧ Only (fun _ => False) w w' := by
  go_enter Try.func10, Try.ntmps10
  go_wp2_with fail
  refine (dnew_any _).mono ?_
  rintro e w1 ⟨rfl, hd1, ho1⟩
  have k1 := (Has.new w #[.pointer none] 29).keep ho1 (fun h => h)
  have c1 := k1.cell 0
  have z1 := k1.free 0
  have hs := ho1.size
  simp only [World.size_alloc] at hs hd1
  go_wp2
  have k2 := k1.setCell 0 (.pointer (some ⟨w.heap.size + 1, 0, none⟩))
  have c2 := k2.cell 0
  have o2 : Only (fun k => k = w.heap.size) w1 (w1.setCell ⟨w.heap.size, 0, none⟩ (.pointer (some ⟨w.heap.size + 1, 0, none⟩))) := (Only.refl (fun k => k = w.heap.size) w1).setCell (p := ⟨w.heap.size, 0, none⟩) (fun _ => rfl) _
  refine bodyPost_ret (v := .agg #[.pointer (some ⟨w.heap.size + 1, 0, none⟩)]) (by simp [results, Try.results10, go_sem, c2]) rfl ⟨rfl, ?_, ?_⟩
  · refine (hd1.keep o2 ?_).mono ?_ ?_
    · intro k hk e; subst e; rcases hk with hk | hk
      · exact hk
      · simp at hk; omega
    · intro k hk; rcases hk with hk | hk
      · exact hk.elim
      · simp at hk; exact .inr ⟨by omega, by simp; exact hk.2⟩
    · exact Ext.in (fun _ h => h.elim) (by simp; omega)
  · exact ((((Only.refl _ w).alloc _).trans ho1 (fun _ _ h => h))).trans o2 (fun i hi e => by omega)

set_option maxRecDepth 100000 in
theorem mark_any (d : Nat) (blk base : List ByteArray) (recs : List (Nat × ByteArray)) (F : Nat → Prop) (w : World) (hd : DiskAt w d blk base recs F) :
    Calls Try.prog 14 #[.agg #[.pointer (some ⟨d, 0, none⟩)]] w fun e w' => e = .returned (.tuple #[]) ∧ DiskAt w' d blk blk [] (Ext F w w') ∧ Only F w w' := by
  have o1 : Only (fun _ => False) w (w.alloc (.cells #[.pointer (some ⟨d, 0, none⟩)] 29)) := (Only.refl _ w).alloc _
  have C1 := hide (dmark_any d blk base recs F _ (hd.keep o1 (fun _ _ h => h)))
  have hFi := hd.inn
  go_enter Try.func14, Try.ntmps14
  go_wp2_with fail
  refine (unhide C1).mono ?_
  rintro e w1 ⟨rfl, hd1, ho1⟩
  go_wp2
  go_end0
  have ho2 : Only F w w1 := (o1.mono (fun _ _ h => h.elim)).trans ho1 (fun _ _ h => h)
  refine ⟨rfl, hd1.mono (fun k hk => ?_) (Ext.in hFi ho2.size), ho2⟩
  rcases hk with hk | hk
  · exact .inl hk
  · simp at hk; exact .inr ⟨by omega, hk.2⟩

set_option maxRecDepth 100000 in
theorem steps_any (d : Nat) (blk base : List ByteArray) (recs : List (Nat × ByteArray)) (F : Nat → Prop) (w : World) (hd : DiskAt w d blk base recs F) :
    Calls Try.prog 17 #[.agg #[.pointer (some ⟨d, 0, none⟩)]] w fun e w' => e = .returned (.int .i64 recs.length) ∧ Only (fun _ => False) w w' := by
  have o1 : Only (fun _ => False) w (w.alloc (.cells #[.pointer (some ⟨d, 0, none⟩)] 29)) := (Only.refl _ w).alloc _
  have C1 := hide (dsteps_any d blk base recs F _ (hd.keep o1 (fun _ _ h => h)))
  go_enter Try.func17, Try.ntmps17
  go_wp2_with fail
  refine (unhide C1).mono ?_
  rintro e w1 ⟨rfl, rfl⟩
  go_wp2
  go_ret
  exact ⟨rfl, o1⟩

set_option maxRecDepth 100000 in
set_option maxHeartbeats 1000000 in
theorem after_any (d : Nat) (blk base : List ByteArray) (recs : List (Nat × ByteArray)) (F : Nat → Prop) (kk : Int) (w : World) (hd : DiskAt w d blk base recs F) (hr : ∀ r ∈ recs, r.1 < 153) (hl : recs.length ≤ 1000) :
    Calls Try.prog 18 #[.agg #[.pointer (some ⟨d, 0, none⟩)], .int .i64 kk] w fun e w' => ∃ d', e = .returned (.agg #[.pointer (some ⟨d', 0, none⟩)]) ∧
      DiskAt w' d' (replay base (recs.take kk.toNat)) (replay base (recs.take kk.toNat)) [] (Ext (fun _ => False) w w') ∧ Only (fun _ => False) w w' := by
  have o1 : Only (fun _ => False) w ((w.alloc (.cells #[.pointer (some ⟨d, 0, none⟩)] 29)).alloc (.cells #[.pointer none] 29)) := ((Only.refl _ w).alloc _).alloc _
  have C1 := hide (dafter_any d blk base recs F kk _ (hd.keep o1 (fun _ _ h => h)) hr hl)
  have kk1 : Has ((w.alloc (.cells #[.pointer (some ⟨d, 0, none⟩)] 29)).alloc (.cells #[.pointer none] 29)) (w.heap.size + 1) #[.pointer none] 29 := Has.new' _ _ _ _ (by simp)
  go_enter Try.func18, Try.ntmps18
  go_wp2_with fail
  refine (unhide C1).mono ?_
  rintro e w1 ⟨rfl, hd1, ho1⟩
  simp only [World.size_alloc] at hd1
  have C2 := hide (dmark_any _ _ _ _ _ w1 hd1)
  have s1 := ho1.size
  simp only [World.size_alloc] at s1
  go_wp2_with fail
  refine (unhide C2).mono ?_
  rintro e w2 ⟨rfl, hd2, ho2⟩
  have s2 := ho2.size
  have k1 := kk1.keep ho1 (fun h => h)
  have k2 := k1.keep ho2 (by intro h; rcases h with h | h; exact h; simp at h; omega)
  have c2 := k2.cell 0
  have z2 := k2.free 0
  go_wp2
  have k3 := k2.setCell 0 (.pointer (some ⟨w.heap.size + 1 + 1, 0, none⟩))
  have c3 := k3.cell 0
  have o3 : Only (fun k => k = w.heap.size + 1) w2 (w2.setCell ⟨w.heap.size + 1, 0, none⟩ (.pointer (some ⟨w.heap.size + 1 + 1, 0, none⟩))) := (Only.refl (fun k => k = w.heap.size + 1) w2).setCell (p := ⟨w.heap.size + 1, 0, none⟩) (fun _ => rfl) _
  refine bodyPost_ret (v := .agg #[.pointer (some ⟨w.heap.size + 1 + 1, 0, none⟩)]) (by simp [results, Try.results18, go_sem, c3]) rfl ⟨w.heap.size + 1 + 1, rfl, ?_, ?_⟩
  · refine (hd2.keep o3 ?_).mono ?_ ?_
    · intro k hk e; subst e; rcases hk with (hk | hk) | hk
      · exact hk
      · simp at hk; omega
      · omega
    · intro k hk; rcases hk with (hk | hk) | hk
      · exact hk.elim
      · simp at hk; exact .inr ⟨by omega, by simp; omega⟩
      · exact .inr ⟨by omega, by simp; omega⟩
    · exact Ext.in (fun _ h => h.elim) (by simp; omega)
  · exact ((o1.trans ho1 (fun _ _ h => h)).trans ho2 (fun i hi h => by rcases h with h | h; exact h; simp at h; omega)).trans o3 (fun i hi e => by omega)

set_option maxRecDepth 100000 in
set_option maxHeartbeats 1000000 in
theorem held_any (l d : Nat) (op : Bool) (es : List (Nat × ByteArray)) (G : Nat → Prop) (blk base : List ByteArray) (recs : List (Nat × ByteArray)) (F : Nat → Prop) (g : Nat) (com was cur : List ByteArray) (dirty : List Bool) (H : Nat → Prop) (w : World)
    (hl : LogAt w l d op es G) (hd : DiskAt w d blk base recs F) (hg : GhostAt w g com was cur dirty es.length op H) (ht : Tells dirty es) (hgot : ∀ b, b < 80 → shown blk es b = cur.getD b emptyB) :
    Calls Try.prog 13 #[.agg #[.pointer (some ⟨d, 0, none⟩)], .pointer (some ⟨l, 0, none⟩), .pointer (some ⟨g, 0, none⟩)] w fun e w' => e = .returned (.bool true) ∧ Only (fun _ => False) w w' := by
  have o1 : Only (fun _ => False) w (w.alloc (.cells #[.pointer (some ⟨d, 0, none⟩)] 29)) := (Only.refl _ w).alloc _
  have kb := Has.new w #[.pointer (some ⟨d, 0, none⟩)] 29
  have hgB := (gotB_iff blk es cur).2 hgot
  have HgB := hide hgB
  have Ht := hide ht
  clear hgB hgot ht
  have C1 := hide (steps_any d blk base recs F _ (hd.keep o1 (fun _ _ h => h)))
  go_enter Try.func13, Try.ntmps13
  go_wp2_with fail
  refine (unhide C1).mono ?_
  rintro e w1 ⟨rfl, ho1⟩
  have o2 : Only (fun _ => False) w w1 := o1.trans ho1 (fun _ _ h => h)
  have hl1 := hl.keep o2 (fun _ _ h => h)
  have hd1 := hd.keep o2 (fun _ _ h => h)
  have hg1 := hg.keep o2 (fun _ _ h => h)
  have kb1 := kb.keep ho1 (fun h => h)
  obtain ⟨⟨b0, b1, b2, b3, h1, h2, h3, h4, h5, n1, n2, n3, f0, f1, f2, f3, f4⟩, l0, l1, l2, l3, hi⟩ := hide hg1
  have c2 := h1.cell 2
  have cb := kb1.cell 0
  have C2 := got_any l d op es G blk base recs F b2 cur w1 hl1 hd1 h4 l2
  rw [unhide HgB] at C2
  have C2 := hide C2
  have C3 := hide (told_any l d op es G g com was cur dirty H w1 hl1 hg1 (unhide Ht))
  have C4 := hide (steps_any d blk base recs F w1 hd1)
  have hee : ((recs.length : Int) == (recs.length : Int)) = true := by simp
  go_wp2_with fail
  refine (unhide C2).mono ?_
  rintro e w2 ⟨rfl, rfl⟩
  go_wp2_with fail
  refine (unhide C3).mono ?_
  rintro e w2 ⟨rfl, rfl⟩
  go_wp2_with fail
  refine (unhide C4).mono ?_
  rintro e w2 ⟨rfl, ho4⟩
  go_wp2_with fail
  go_ret
  exact ⟨by simp, o2.trans ho4 (fun _ _ h => h)⟩

/-- What a Write must answer. -/
def due (op : Bool) (dirty : List Bool) (n : Nat) (a : Int) : Int :=
  if op = false then 2 else if ¬ (0 ≤ a ∧ a < 80) then 1 else if dirty.getD a.toNat false = false ∧ 72 ≤ n then 4 else 0

set_option maxRecDepth 100000 in
set_option maxHeartbeats 1000000 in
theorem due_any (g : Nat) (com was cur : List ByteArray) (dirty : List Bool) (n : Nat) (op : Bool) (F : Nat → Prop) (a : Int) (w : World) (hg : GhostAt w g com was cur dirty n op F) :
    Calls Try.prog 39 #[.pointer (some ⟨g, 0, none⟩), .int .i64 a] w fun e w' => e = .returned (.int .i64 (due op dirty n a)) ∧ w = w' := by
  obtain ⟨⟨b0, b1, b2, b3, h1, h2, h3, h4, h5, n1, n2, n3, f0, f1, f2, f3, f4⟩, l0, l1, l2, l3, hi⟩ := hg
  have c3 := h1.cell 3
  have c4 := h1.cell 4
  have c5 := h1.cell 5
  cases op with
  | false =>
    have hfin : due false dirty n a = 2 := by simp [due]
    rw [hfin]
    clear hfin
    go_enter Try.func39, Try.ntmps39
    go_wp2_with fail
    go_ret
    exact ⟨rfl, rfl⟩
  | true =>
    by_cases hin : 0 ≤ a ∧ a < 80
    · obtain ⟨k, rfl⟩ := Int.eq_ofNat_of_zero_le hin.1
      have hk : k < 80 := by omega
      have p1 := h5.cell k
      rw [bools_get _ _ (by omega)] at p1
      have e1 : dirty.getD k false = dirty[k] := by simp [List.getD_eq_getElem?_getD, l3, hk]
      have hneg : decide ((k : Int) < 0) = false := by simp
      have hge : decide (80 ≤ (k : Int)) = false := by simp; omega
      have hdue : due true dirty n k = if dirty[k] = false ∧ 72 ≤ n then 4 else 0 := by
        unfold due
        rw [if_neg (by simp), if_neg (by simp; omega), Int.toNat_natCast, e1]
      rw [hdue]
      clear hdue e1
      generalize dirty[k] = q at *
      cases q with
      | true =>
        rw [if_neg (by simp)]
        go_enter Try.func39, Try.ntmps39
        go_wp2_with fail
        go_ret
        exact ⟨rfl, rfl⟩
      | false =>
        by_cases hn : 72 ≤ n
        · have hnI : (72 : Int) ≤ (n : Int) := by omega
          rw [if_pos ⟨rfl, hn⟩]
          go_enter Try.func39, Try.ntmps39
          go_wp2_with fail
          go_ret
          exact ⟨rfl, rfl⟩
        · have hnI : ¬ (72 : Int) ≤ (n : Int) := by omega
          rw [if_neg (by simp; omega)]
          go_enter Try.func39, Try.ntmps39
          go_wp2_with fail
          go_ret
          exact ⟨rfl, rfl⟩
    · have hfin : due true dirty n a = 1 := by unfold due; rw [if_neg (by simp), if_pos hin]
      rw [hfin]
      clear hfin
      by_cases h0 : a < 0
      · have h0' : decide (a < 0) = true := by simpa using h0
        go_enter Try.func39, Try.ntmps39
        go_wp2_with fail
        go_ret
        exact ⟨rfl, rfl⟩
      · have h8 : 80 ≤ a := by omega
        have h0' : decide (a < 0) = false := by simp; omega
        have h8' : decide (80 ≤ a) = true := by simpa using h8
        go_enter Try.func39, Try.ntmps39
        go_wp2_with fail
        go_ret
        exact ⟨rfl, rfl⟩

end Go.Proofs.Qxb6500415a
