/-
  OWN WORK. THE LAW's LOOKS: Got, Told, Held; its ghost.
-/
import Derived.Test.Qxb6500415aLogC
namespace Go.Proofs.Qxb6500415a
open Go.RowKit
set_option linter.unusedSimpArgs false
set_option linter.unusedVariables false

def gotB (blk : List ByteArray) (es : List (Nat × ByteArray)) (l : List ByteArray) : Bool := (List.range 80).all fun b => (shown blk es b).data.toList == (l.getD b emptyB).data.toList
theorem ba_ext {s t : ByteArray} (h : s.data.toList = t.data.toList) : s = t := by
  cases s; cases t
  simp only [ByteArray.mk.injEq]
  exact Array.toList_inj.1 h
theorem gotB_iff (blk : List ByteArray) (es : List (Nat × ByteArray)) (l : List ByteArray) : gotB blk es l = true ↔ ∀ b, b < 80 → shown blk es b = l.getD b emptyB := by
  unfold gotB
  simp only [List.all_eq_true, List.mem_range, beq_iff_eq]
  exact ⟨fun h b hb => ba_ext (h b hb), fun h b hb => by rw [h b hb]⟩

set_option maxRecDepth 100000 in
set_option maxHeartbeats 1000000 in
theorem got_any (l d : Nat) (op : Bool) (es : List (Nat × ByteArray)) (F : Nat → Prop) (blk base : List ByteArray) (recs : List (Nat × ByteArray)) (G : Nat → Prop) (c : Nat) (ys : List ByteArray) (w : World) (hl : LogAt w l d op es F) (hd : DiskAt w d blk base recs G)
    (hc : Has w c (strs ys) 60) (hy : ys.length = 80) :
    Calls Try.prog 20 #[.pointer (some ⟨l, 0, none⟩), .slice (some ⟨c, 0, none⟩) 80 80] w fun e w' => e = .returned (.bool (gotB blk es ys)) ∧ w = w' := by
  go_enter Try.func20, Try.ntmps20
  go_wp2_with fail
  go_loop [5] (fun v => ∃ b : Int, -1 ≤ b ∧ b ≤ 81 ∧ v = .int .i64 b ∧ ∀ j : Nat, (j : Int) < b → j < 80 → shown blk es j = ys.getD j emptyB) (fun v => (81 - intOf v).toNat)
  case atStart => exact ⟨-1, by omega, by omega, rfl, fun j hj => by omega⟩
  case round =>
    obtain ⟨b, hb0, hb1, rfl, ha⟩ := hrel
    have Ha := hide ha
    clear ha
    by_cases hin : 0 ≤ b ∧ b < 80
    · obtain ⟨n, rfl⟩ := Int.eq_ofNat_of_zero_le hin.1
      have hn : n < 80 := by omega
      have C1 := hide (wread_in l d op es F blk base recs G n w hl hd hn)
      have p1 := hc.cell n
      rw [strs_get _ _ (by omega)] at p1
      have e1 : ys.getD n emptyB = ys[n] := by simp [List.getD_eq_getElem?_getD, hy, hn]
      have E1 := hide e1
      clear e1
      have hneg : decide ((n : Int) < 0) = false := by simp
      have hge : decide (80 ≤ (n : Int)) = false := by simp; omega
      generalize hsh : shown blk es n = sh at *
      generalize hyn : ys[n] = yn at *
      have Hsh := hide hsh
      have Hyn := hide hyn
      clear hsh hyn
      by_cases hq : sh = yn
      · subst hq
        go_wp2_with fail
        refine (unhide C1).mono ?_
        rintro e w' ⟨rfl, rfl⟩
        go_wp2_with fail
        go_round
        case rel =>
          refine ⟨(n : Int) + 1, by omega, by omega, by go_num, fun j hj hj8 => ?_⟩
          by_cases hjn : j = n
          · subst hjn; rw [unhide Hsh, unhide E1]
          · exact unhide Ha j (by omega) hj8
        case measure => simp [intOf]; omega
      · have hq' := ba_ne hq
        clear hq
        have hfin : gotB blk es ys = false := by
          rw [← Bool.not_eq_true]
          intro h
          have := (gotB_iff _ _ _).1 h n hn
          rw [unhide Hsh, unhide E1] at this
          rw [this] at hq'
          simp at hq'
        have Hfin := hide hfin
        clear hfin
        go_wp2_with fail
        refine (unhide C1).mono ?_
        rintro e w' ⟨rfl, rfl⟩
        go_wp2_with fail
        go_ret
        exact ⟨by rw [unhide Hfin]; rfl, rfl⟩
    · by_cases h81 : b = 81
      · subst h81
        have hfin : gotB blk es ys = true := by
          rw [gotB_iff]
          intro j hj
          exact unhide Ha j (by omega) hj
        have Hfin := hide hfin
        clear hfin
        go_wp2_with fail
        go_ret
        exact ⟨by rw [unhide Hfin]; rfl, rfl⟩
      · have C1 := hide (wread_out l b w hin)
        have hb : b = -1 ∨ b = 80 := by omega
        rcases hb with rfl | rfl
        all_goals
          go_wp2_with fail
          refine (unhide C1).mono ?_
          unfold emptyB
          rintro e w' ⟨rfl, rfl⟩
          go_wp2_with fail
          go_round
          case rel => exact ⟨_, by omega, by omega, rfl, fun j hj hj8 => unhide Ha j (by omega) hj8⟩
          case measure => simp [intOf]

/-- The law's ghost. -/
structure GhostAt (w : World) (g : Nat) (com was cur : List ByteArray) (dirty : List Bool) (n : Nat) (op : Bool) (F : Nat → Prop) : Prop where
  ex : ∃ b0 b1 b2 b3, Has w g #[.slice (some ⟨b0, 0, none⟩) 80 80, .slice (some ⟨b1, 0, none⟩) 80 80, .slice (some ⟨b2, 0, none⟩) 80 80, .slice (some ⟨b3, 0, none⟩) 80 80, .int .i64 n, .bool op] 43 ∧
    Has w b0 (strs com) 60 ∧ Has w b1 (strs was) 60 ∧ Has w b2 (strs cur) 60 ∧ Has w b3 (bools dirty) 4 ∧ b0 ≠ b1 ∧ b0 ≠ b2 ∧ b1 ≠ b2 ∧ F g ∧ F b0 ∧ F b1 ∧ F b2 ∧ F b3
  l0 : com.length = 80
  l1 : was.length = 80
  l2 : cur.length = 80
  l3 : dirty.length = 80
  inn : ∀ k, F k → k < w.heap.size

theorem GhostAt.keep {S : Nat → Prop} {w w' : World} {g : Nat} {com was cur : List ByteArray} {dirty : List Bool} {n : Nat} {op : Bool} {F : Nat → Prop} (h : GhostAt w g com was cur dirty n op F) (ho : Only S w w') (hS : ∀ k, F k → ¬ S k) : GhostAt w' g com was cur dirty n op F := by
  obtain ⟨⟨b0, b1, b2, b3, h1, h2, h3, h4, h5, n1, n2, n3, f0, f1, f2, f3, f4⟩, l0, l1, l2, l3, hi⟩ := h
  exact ⟨⟨b0, b1, b2, b3, h1.keep ho (hS _ f0), h2.keep ho (hS _ f1), h3.keep ho (hS _ f2), h4.keep ho (hS _ f3), h5.keep ho (hS _ f4), n1, n2, n3, f0, f1, f2, f3, f4⟩, l0, l1, l2, l3, fun k hk => Nat.lt_of_lt_of_le (hi k hk) ho.size⟩

/-- What the ghost says of the write set is so. -/
structure Tells (dirty : List Bool) (es : List (Nat × ByteArray)) : Prop where
  inn : ∀ e ∈ es, e.1 < 80
  dirt : ∀ b, b < 80 → dirty.getD b false = (at? es b).isSome

theorem at?_out {es : List (Nat × ByteArray)} (h : ∀ e ∈ es, e.1 < 80) {b : Int} (hb : ¬ (0 ≤ b ∧ b < 80)) : at? es b = none := by
  unfold at?
  rw [List.findIdx?_eq_none_iff]
  intro e he
  have := h e he
  simp only [beq_eq_false_iff_ne, ne_eq]
  omega

theorem bne_self (b : Bool) : (b != b) = false := by cases b <;> rfl

set_option maxRecDepth 100000 in
set_option maxHeartbeats 1000000 in
theorem told_any (l d : Nat) (op : Bool) (es : List (Nat × ByteArray)) (F : Nat → Prop) (g : Nat) (com was cur : List ByteArray) (dirty : List Bool) (G : Nat → Prop) (w : World) (hl : LogAt w l d op es F) (hg : GhostAt w g com was cur dirty es.length op G)
    (ht : Tells dirty es) :
    Calls Try.prog 22 #[.pointer (some ⟨l, 0, none⟩), .pointer (some ⟨g, 0, none⟩)] w fun e w' => e = .returned (.bool true) ∧ w = w' := by
  obtain ⟨⟨b0, b1, b2, b3, h1, h2, h3, h4, h5, n1, n2, n3, f0, f1, f2, f3, f4⟩, l0, l1, l2, l3, hi⟩ := hg
  have c3 := h1.cell 3
  have c4 := h1.cell 4
  have c5 := h1.cell 5
  have hbb : (op != op) = false := bne_self op
  have hbi : ((es.length : Int) != (es.length : Int)) = false := by simp
  have Ht := hide ht
  clear ht
  go_enter Try.func22, Try.ntmps22
  go_wp2_with fail
  refine (wintxn_any l d op es F _ hl).mono ?_
  rintro e w' ⟨rfl, rfl⟩
  go_wp2_with fail
  refine (wpending_any l d op es F _ hl).mono ?_
  rintro e w' ⟨rfl, rfl⟩
  go_wp2_with fail
  go_loop [7] (fun v => ∃ b : Int, -1 ≤ b ∧ b ≤ 81 ∧ v = .int .i64 b) (fun v => (81 - intOf v).toNat)
  case atStart => exact ⟨-1, by omega, by omega, rfl⟩
  case round =>
    obtain ⟨b, hb0, hb1, rfl⟩ := hrel
    by_cases hin : 0 ≤ b ∧ b < 80
    · obtain ⟨n, rfl⟩ := Int.eq_ofNat_of_zero_le hin.1
      have hn : n < 80 := by omega
      have hdn := (unhide Ht).dirt n hn
      have p1 := h5.cell n
      rw [bools_get _ _ (by omega)] at p1
      have e1 : dirty.getD n false = dirty[n] := by simp [List.getD_eq_getElem?_getD, l3, hn]
      rw [e1] at hdn
      have C1 := hide (wdirty_any l d op es F n w hl)
      rw [hdn] at p1
      clear hdn e1
      generalize (at? es (n : Int)).isSome = q at *
      have hqq := bne_self q
      go_wp2_with fail
      refine (unhide C1).mono ?_
      rintro e w' ⟨rfl, rfl⟩
      go_wp2_with fail
      go_round
      case rel => exact ⟨(n : Int) + 1, by omega, by omega, rfl⟩
      case measure => simp [intOf]; omega
    · by_cases h81 : b = 81
      · subst h81
        go_wp2_with fail
        go_ret
        exact ⟨rfl, rfl⟩
      · have C1 := wdirty_any l d op es F b w hl
        rw [at?_out (unhide Ht).inn hin] at C1
        have C1 := hide C1
        have hb : b = -1 ∨ b = 80 := by omega
        rcases hb with rfl | rfl
        all_goals
          go_wp2_with fail
          refine (unhide C1).mono ?_
          rintro e w' ⟨rfl, rfl⟩
          go_wp2_with fail
          go_round
          case rel => exact ⟨_, by omega, by omega, rfl⟩
          case measure => simp [intOf]

end Go.Proofs.Qxb6500415a
