/-
  OWN WORK. THE GRAPH: Check: rows.
-/
import Derived.Test.Qxb6500417aGreatGCol
import Derived.BigQuiet
namespace Go.Proofs.Qxb6500417aGreat
open Go.RowKit Go.PlainAid
set_option linter.unusedSimpArgs false
set_option linter.unusedVariables false

theorem onlyDN {B : Nat → Prop} (w : World) (n : Nat) : Only B w (w.drewN n) := by
  induction n with
  | zero => exact Only.refl _ _
  | succ n ih => exact ih.drew
theorem eqI (x : Int) : (x == x) = true := by simp
theorem neI (x : Int) : (x != x) = false := by simp
theorem eqB (x : Bool) : (x == x) = true := by simp
theorem neB (x : Bool) : (x != x) = false := by simp
set_option maxRecDepth 100000 in
set_option maxHeartbeats 4000000 in
theorem gsameC_any (r : Cr) (w : World) :
    Calls Tryz.prog 134 #[crV r, crV r] w fun e w' => e = .returned (.bool true) ∧ Only (fun _ => False) w w' := by
  unfold crV
  go_enter Tryz.func134, Tryz.ntmps134
  go_upto_region 1 with fail
  have o1 := (Only.refl (fun _ => False) w).alloc (.cells (crA r) 82)
  have o2 := (Only.refl (fun _ => False) (w.alloc (.cells (crA r) 82))).alloc (.cells (crA r) 82)
  have hA := (Has.new w (crA r) 82).keep o2 (fun h => h)
  have hB := Has.new (w.alloc (.cells (crA r) 82)) (crA r) 82
  have hsz : (w.alloc (.cells (crA r) 82)).heap.size = w.heap.size + 1 := by simp
  rw [hsz] at hB
  have HO := hide (o1.trans o2 (fun _ _ h => h))
  have a0 := hA.cell 0
  have a1 := hA.cell 1
  have a2 := hA.cell 2
  have a3 := hA.cell 3
  have a4 := hA.cell 4
  have a5 := hA.cell 5
  have b0 := hB.cell 0
  have b1 := hB.cell 1
  have b2 := hB.cell 2
  have b3 := hB.cell 3
  have b4 := hB.cell 4
  have b5 := hB.cell 5
  unfold crA at *
  simp only [List.getElem?_toArray, List.getElem?_cons_zero, List.getElem?_cons_succ] at a0 a1 a2 a3 a4 a5 b0 b1 b2 b3 b4 b5
  have HA := hide hA
  have HB := hide hB
  unfold crA at HA HB
  clear o1 o2 hA hB hsz
  generalize (w.alloc (.cells #[.bool r.used, .int .i64 (r.seq : Int), .int .i64 (r.tree : Int), .int .i64 (r.np : Int), .int .i64 (r.p0 : Int), .int .i64 (r.p1 : Int)] 82)).alloc (.cells #[.bool r.used, .int .i64 (r.seq : Int), .int .i64 (r.tree : Int), .int .i64 (r.np : Int), .int .i64 (r.p0 : Int), .int .i64 (r.p1 : Int)] 82) = W at *
  generalize w.heap.size = A at *
  generalize hB' : A + 1 = B at *
  clear hB'
  obtain ⟨u, x1, x2, x3, x4, x5⟩ := r
  simp only at a0 a1 a2 a3 a4 a5 b0 b1 b2 b3 b4 b5
  have e0 := eqB u
  have f0 := neB u
  have e1 := eqI (x1 : Int)
  have e2 := eqI (x2 : Int)
  have e3 := eqI (x3 : Int)
  have e4 := eqI (x4 : Int)
  have e5 := eqI (x5 : Int)
  have f1 := neI (x1 : Int)
  have f2 := neI (x2 : Int)
  have f3 := neI (x3 : Int)
  have f4 := neI (x4 : Int)
  have f5 := neI (x5 : Int)
  go_wp2_with fail
  go_loopw [5] (fun iv wr => ∃ k : Nat, iv = .int .i64 k ∧ k ≤ 2 ∧ Only (fun _ => False) W wr) (fun iv _ => 2 - (intOf iv).toNat)
  case atStart => exact ⟨0, rfl, by omega, Only.refl _ _⟩
  case round =>
    clear a0 a1 a2 a3 a4 a5 b0 b1 b2 b3 b4 b5
    obtain ⟨k, rfl, hk, hOr⟩ := hrel
    have a4 := ((unhide HA).keep hOr (fun h => h)).cell 4
    have a5 := ((unhide HA).keep hOr (fun h => h)).cell 5
    have b4 := ((unhide HB).keep hOr (fun h => h)).cell 4
    have b5 := ((unhide HB).keep hOr (fun h => h)).cell 5
    simp only [List.getElem?_toArray, List.getElem?_cons_zero, List.getElem?_cons_succ] at a4 a5 b4 b5
    have HOr := hide hOr
    clear hOr
    by_cases h0 : k < 2
    · have h2 : k = 0 ∨ k = 1 := by omega
      rcases h2 with rfl | rfl
      · go_upto_region 6 with fail
        go_quiet (fail)
        go_wp2_with fail
        go_roundw
        case rel => exact ⟨1, by first | rfl | go_num, by omega, (unhide HOr).trans (onlyDN _ _) (fun _ _ h => h)⟩
        case measure => simp [intOf]
      · go_upto_region 6 with fail
        go_quiet (fail)
        go_wp2_with fail
        go_roundw
        case rel => exact ⟨2, by first | rfl | go_num, by omega, (unhide HOr).trans (onlyDN _ _) (fun _ _ h => h)⟩
        case measure => simp [intOf]
    · have h2 : k = 2 := by omega
      subst h2
      go_wp2_with fail
      go_ret
      exact ⟨rfl, (unhide HO).trans (unhide HOr) (fun _ _ h => h)⟩
section
variable {w : World} {g t s d rt : Nat} {D B : Nat → Nat} {recs : List Rec} {J : Nat → Sl} {F : Nat → Prop} {T : Gt}
set_option maxRecDepth 100000 in
set_option maxHeartbeats 4000000 in
theorem gisC_any (h : GH w g t T) (i : Nat) (hi : IsC T.c i) :
    Calls Tryz.prog 135 #[.pointer (some ⟨g, 0, none⟩), .int .i64 i] w fun e w' => e = .returned (.bool true) ∧ w = w' := by
  have hi1 := hi.1.1
  have hi2 := hi.1.2
  have c0 := (h.com0 i (by omega)).1
  rw [hi.2] at c0
  have hgl := h.lt
  have a1 : decide ((1 : Int) ≤ (i : Int)) = true := decide_eq_true (by omega)
  have a2 : decide ((i : Int) ≤ 48) = true := decide_eq_true (by omega)
  have a3 : (i : Int) < 49 := by omega
  have a4 : decide ((i : Int) ≥ 1) = true := decide_eq_true (by omega)
  clear h hi
  go_enter Tryz.func135, Tryz.ntmps135
  go_wp2_with fail
  go_ret
  exact ⟨rfl, rfl⟩
set_option maxRecDepth 100000 in
set_option maxHeartbeats 4000000 in
theorem gisT_any (h : TS w t s d D B recs J rt F) (hg : GH w g t T) (i : Nat) (hi : IsT J i) :
    Calls Tryz.prog 136 #[.pointer (some ⟨g, 0, none⟩), .int .i64 i] w fun e w' => e = .returned (.bool true) ∧ Only (fun _ => False) w w' := by
  have C2 := tget_any h (i : Int)
  have hlv : liveJ J (i : Int) = liveS (J i) := liveJ_nat hi.1
  have hknat : ((i : Int)).toNat = i := by simp
  unfold tgK tgE at C2
  rw [hlv, hi.2.1, hknat, hi.2.2, if_pos rfl, if_pos rfl] at C2
  have C2 := hide C2
  have ct := hg.tr.1
  clear h hg hi hlv hknat
  go_enter Tryz.func136, Tryz.ntmps136
  go_wp2_with fail
  refine (unhide C2).mono ?_
  rintro e w2 ⟨v2, rfl, hB2, hO2⟩
  obtain ⟨va, vc, rfl⟩ := hB2.shape
  have HO2 := hide hO2
  clear C2 hB2 hO2
  go_wp2_with fail
  go_ret
  exact ⟨rfl, unhide HO2⟩
end
end Go.Proofs.Qxb6500417aGreat
