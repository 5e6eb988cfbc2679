/-
  OWN WORK. TXN, Keeps: Refusal of Insert, Update (written by tools/gen_xk12.py).
-/
import Derived.Test.Qxb6500414aGreatXK11
namespace Go.Proofs.Qxb6500414aGreat
open Go.RowKit Go.PlainAid
set_option linter.unusedSimpArgs false
set_option linter.unusedVariables false
section
variable {lo : Nat} {w w' : World} {k k2 : Nat} {M N : Mu} {s t : Nat} {T : Tb}
set_option maxRecDepth 100000 in
set_option maxHeartbeats 4000000 in
theorem xlrefusal_row {v : Value} {rows : List (List Vl)} (R : RdR w v rows) (pk : Nat) (hl : rows.length ≤ 8) (hr : ∀ r ∈ rows, pk < r.length ∧ r.length ≤ 1000) (ok oa ob oc : Int) (os ot : ByteArray) (ht : ot.size ≤ maxLen) (e : Int) (h78 : ok = 7 ∨ ok = 8) (hs : (rowP ot).length ≤ pk → e ≠ 6 ∧ e ≠ 17 ∧ e ≠ 9) (hp : ∀ y, (rowP ot)[pk]? = some y → RfK rows pk y e) : Calls Tryz.prog 170 #[v, .int .i64 (pk : Int), opX ok oa ob oc os ot, .int .i64 e] w fun e w' => e = .returned (.bool true) ∧ Only (fun _ => False) w w' := by
  obtain ⟨a, cap, rfl, _⟩ := id R
  obtain ⟨n, hn⟩ : ∃ n, rows.length = n := ⟨_, rfl⟩
  rw [hn] at hl R ⊢
  have o0 : Only (fun _ => False) w (w.alloc (.cells #[.int .i64 ok, .int .i64 oa, .int .i64 ob, .int .i64 oc, .string os, .string ot] 44)) := (Only.refl _ w).alloc _
  have HN := hide (Has.new w #[.int .i64 ok, .int .i64 oa, .int .i64 ob, .int .i64 oc, .string os, .string ot] 44)
  have HH := hide (And.intro R (And.intro o0 (And.intro hr ht)))
  have Hn := hide hn
  have HPs := hide hs
  have HPr := hide hp
  have H78 := hide h78
  unfold opX
  clear R o0 hn hr ht hp hs h78
  go_enter Tryz.func170, Tryz.ntmps170
  go_upto_region 1 with fail
  generalize w.alloc (.cells #[.int .i64 ok, .int .i64 oa, .int .i64 ob, .int .i64 oc, .string os, .string ot] 44) = w0 at *
  generalize hko : w.heap.size = ko at *
  have a5 : w0.cell? ⟨ko, 5, none⟩ = some (.string ot) := (unhide HN).cell 5
  have C1 := eFirst_any ot (unhide HH).2.2.2 w0
  generalize fstP ot = key at *
  unfold vlA at C1
  have C1 := hide C1
  go_wp2_with fail
  refine (unhide C1).mono ?_
  rintro e1 w1 ⟨rfl, o1⟩
  have o2 : Only (fun _ => False) w1 (w1.alloc (.cells #[.bool key.str, .int .i64 key.i, .string key.s] 106)) := (Only.refl _ w1).alloc _
  have o01 := (unhide HH).2.1.trans o1 (fun _ _ e => e)
  have HZ := hide (show w.heap.size ≤ w1.heap.size from o01.size)
  have oT := o01.trans o2 (fun _ _ e => e)
  have HNK := hide (Has.new w1 #[.bool key.str, .int .i64 key.i, .string key.s] 106)
  have HN2 := hide (((unhide HN).keep o1 (fun e => e)).keep o2 (fun e => e))
  have HO0 := hide oT
  clear a5 C1 o1 o2 oT o01 hko
  rcases unhide H78 with h78 | h78
  · subst h78
    go_upto_region 2 with fail
    generalize w1.alloc (.cells #[.bool key.str, .int .i64 key.i, .string key.s] 106) = w2 at *
    generalize hkk : w1.heap.size = kk at *
    have a0 : w2.cell? ⟨ko, 0, none⟩ = some (.int .i64 7) := (unhide HN2).cell 0
    have a5 : w2.cell? ⟨ko, 5, none⟩ = some (.string ot) := (unhide HN2).cell 5
    have C2 := hide (eRowOf_any ot (unhide HH).2.2.2 w2)
    go_wp2_with fail
    refine (unhide C2).mono ?_
    rintro e1 w3 ⟨v, rfl, hG⟩
    clear C2 a0 a5
    have O3 : OwnV w3 v (rowP ot) := hG.own
    have o3 := hG.ho
    obtain ⟨va, vc, hv⟩ := O3.shape
    obtain ⟨ln, hln⟩ : ∃ n, (rowP ot).length = n := ⟨_, rfl⟩
    rw [hln] at hv
    subst hv
    have NK := (unhide HNK).keep o3 (fun e => e)
    have oT := (unhide HO0).trans o3 (fun _ _ e => e)
    clear hG
    by_cases hpl : pk < ln
    · obtain ⟨y, hy⟩ := getE (l := rowP ot) (i := pk) (by rw [hln]; exact hpl)
      obtain ⟨g1, rfl, e0, e1, e2⟩ := O3.at_ hy
      have HP := hide (unhide HPr y hy)
      have pI : (pk : Int) < (ln : Int) := by omega
      have d1 : decide ((pk : Int) ≥ (ln : Int)) = false := decide_eq_false (by omega)
      have d2 : decide ((ln : Int) ≤ (pk : Int)) = false := decide_eq_false (by omega)
      have f0 := NK.free 0
      have f1 := NK.free 1
      have f2 := NK.free 2
      have k0 : w3.cell? ⟨kk, 0, none⟩ = some (.bool key.str) := NK.cell 0
      have k1 : w3.cell? ⟨kk, 1, none⟩ = some (.int .i64 key.i) := NK.cell 1
      have k2 : w3.cell? ⟨kk, 2, none⟩ = some (.string key.s) := NK.cell 2
      have kkl := NK.lt
      have oS : Only (fun b => b = kk) w3 (((w3.setCell ⟨kk, 0, none⟩ (.bool y.str)).setCell ⟨kk, 1, none⟩ (.int .i64 y.i)).setCell ⟨kk, 2, none⟩ (.string y.s)) := ((only1 (p := kk) _ _).trans (only1 (p := kk) _ _) (fun _ _ h => h)).trans (only1 (p := kk) _ _) (fun _ _ h => h)
      have NS : Has (((w3.setCell ⟨kk, 0, none⟩ (.bool y.str)).setCell ⟨kk, 1, none⟩ (.int .i64 y.i)).setCell ⟨kk, 2, none⟩ (.string y.s)) kk #[.bool y.str, .int .i64 y.i, .string y.s] 106 := ((NK.setCell 0 _).setCell 1 _).setCell 2 _
      have oL := oT.late oS (fun b hb => by have hb' : b = kk := hb; have := unhide HZ; omega)
      have CU := xlunder_any ((unhide HH).1.quiet oL) pk y (by have := unhide Hn; omega) (unhide HH).2.2.1
      unfold vlA at CU
      have CU := hide CU
      have HNS := hide NS
      have HO0 := hide oL
      clear hy O3 o3 hln NK oT oS NS oL hkk
      go_upto_region 7 with fail
      generalize ((w3.setCell ⟨kk, 0, none⟩ (.bool y.str)).setCell ⟨kk, 1, none⟩ (.int .i64 y.i)).setCell ⟨kk, 2, none⟩ (.string y.s) = w4 at *
      clear e0 e1 e2 f0 f1 f2 k0 k1 k2 kkl
      have k0 : w4.cell? ⟨kk, 0, none⟩ = some (.bool y.str) := (unhide HNS).cell 0
      have k1 : w4.cell? ⟨kk, 1, none⟩ = some (.int .i64 y.i) := (unhide HNS).cell 1
      have k2 : w4.cell? ⟨kk, 2, none⟩ = some (.string y.s) := (unhide HNS).cell 2
      go_wp2_with fail
      refine (unhide CU).mono ?_
      rintro e1 w5 ⟨z, rfl, hz, o5⟩
      have HO := hide ((unhide HO0).trans o5 (fun _ _ e => e))
      clear CU o5 k0 k1 k2
      rcases hz with ⟨rfl, hno⟩ | ⟨i, r, rfl, hri, hrk⟩
      · have h17 : e ≠ 17 := fun c => by
          obtain ⟨r, h1, h2⟩ := (unhide HP).2.1 c
          exact hno r h1 h2
        by_cases h6 : e = 6
        · have n8 := (unhide HP).1 h6
          have d1 : decide ((n : Int) ≥ 8) = true := decide_eq_true (by have := unhide Hn; omega)
          have d2 : decide (8 ≤ (n : Int)) = true := decide_eq_true (by have := unhide Hn; omega)
          subst h6
          clear h17 hno n8
          go_wp2_with fail
          go_ret
          exact ⟨rfl, unhide HO⟩
        · have b6 : (e == 6) = false := ne_intO h6
          have b17 : (e == 17) = false := ne_intO h17
          by_cases h9 : e = 9
          · subst h9
            clear h6 h17 hno
            go_wp2_with fail
            go_ret
            exact ⟨rfl, unhide HO⟩
          · have b9 : (e == 9) = false := ne_intO h9
            clear h6 h17 h9 hno
            go_wp2_with fail
            go_ret
            exact ⟨rfl, unhide HO⟩
      · have h9 : e ≠ 9 := fun c => (unhide HP).2.2 c r (List.mem_of_getElem? hri) hrk
        have b9 : (e == 9) = false := ne_intO h9
        have di : decide ((i : Int) ≥ 0) = true := decide_eq_true (by omega)
        have di' : decide (0 ≤ (i : Int)) = true := decide_eq_true (by omega)
        by_cases h6 : e = 6
        · have n8 := (unhide HP).1 h6
          have d1 : decide ((n : Int) ≥ 8) = true := decide_eq_true (by have := unhide Hn; omega)
          have d2 : decide (8 ≤ (n : Int)) = true := decide_eq_true (by have := unhide Hn; omega)
          subst h6
          clear h9 hri hrk n8 b9
          go_wp2_with fail
          go_ret
          exact ⟨rfl, unhide HO⟩
        · have b6 : (e == 6) = false := ne_intO h6
          by_cases h17 : e = 17
          · subst h17
            clear h6 h9 hri hrk b6 b9
            go_wp2_with fail
            go_ret
            exact ⟨rfl, unhide HO⟩
          · have b17 : (e == 17) = false := ne_intO h17
            clear h6 h17 h9 hri hrk
            go_wp2_with fail
            go_ret
            exact ⟨rfl, unhide HO⟩
    · have d1 : decide ((pk : Int) ≥ (ln : Int)) = true := decide_eq_true (by omega)
      have d2 : decide ((ln : Int) ≤ (pk : Int)) = true := decide_eq_true (by omega)
      obtain ⟨n6, n17, n9⟩ := unhide HPs (by rw [hln]; omega)
      have m6 : (e != 6) = true := by simpa using n6
      have m17 : (e != 17) = true := by simpa using n17
      have m9 : (e != 9) = true := by simpa using n9
      have HO := hide oT
      clear O3 o3 hln NK oT n6 n17 n9 hkk
      go_wp2_with fail
      go_ret
      exact ⟨rfl, unhide HO⟩
  · subst h78
    go_upto_region 2 with fail
    generalize w1.alloc (.cells #[.bool key.str, .int .i64 key.i, .string key.s] 106) = w2 at *
    generalize hkk : w1.heap.size = kk at *
    have a0 : w2.cell? ⟨ko, 0, none⟩ = some (.int .i64 8) := (unhide HN2).cell 0
    have a5 : w2.cell? ⟨ko, 5, none⟩ = some (.string ot) := (unhide HN2).cell 5
    have C2 := hide (eRowOf_any ot (unhide HH).2.2.2 w2)
    go_wp2_with fail
    refine (unhide C2).mono ?_
    rintro e1 w3 ⟨v, rfl, hG⟩
    clear C2 a0 a5
    have O3 : OwnV w3 v (rowP ot) := hG.own
    have o3 := hG.ho
    obtain ⟨va, vc, hv⟩ := O3.shape
    obtain ⟨ln, hln⟩ : ∃ n, (rowP ot).length = n := ⟨_, rfl⟩
    rw [hln] at hv
    subst hv
    have NK := (unhide HNK).keep o3 (fun e => e)
    have oT := (unhide HO0).trans o3 (fun _ _ e => e)
    clear hG
    by_cases hpl : pk < ln
    · obtain ⟨y, hy⟩ := getE (l := rowP ot) (i := pk) (by rw [hln]; exact hpl)
      obtain ⟨g1, rfl, e0, e1, e2⟩ := O3.at_ hy
      have HP := hide (unhide HPr y hy)
      have pI : (pk : Int) < (ln : Int) := by omega
      have d1 : decide ((pk : Int) ≥ (ln : Int)) = false := decide_eq_false (by omega)
      have d2 : decide ((ln : Int) ≤ (pk : Int)) = false := decide_eq_false (by omega)
      have f0 := NK.free 0
      have f1 := NK.free 1
      have f2 := NK.free 2
      have k0 : w3.cell? ⟨kk, 0, none⟩ = some (.bool key.str) := NK.cell 0
      have k1 : w3.cell? ⟨kk, 1, none⟩ = some (.int .i64 key.i) := NK.cell 1
      have k2 : w3.cell? ⟨kk, 2, none⟩ = some (.string key.s) := NK.cell 2
      have kkl := NK.lt
      have oS : Only (fun b => b = kk) w3 (((w3.setCell ⟨kk, 0, none⟩ (.bool y.str)).setCell ⟨kk, 1, none⟩ (.int .i64 y.i)).setCell ⟨kk, 2, none⟩ (.string y.s)) := ((only1 (p := kk) _ _).trans (only1 (p := kk) _ _) (fun _ _ h => h)).trans (only1 (p := kk) _ _) (fun _ _ h => h)
      have NS : Has (((w3.setCell ⟨kk, 0, none⟩ (.bool y.str)).setCell ⟨kk, 1, none⟩ (.int .i64 y.i)).setCell ⟨kk, 2, none⟩ (.string y.s)) kk #[.bool y.str, .int .i64 y.i, .string y.s] 106 := ((NK.setCell 0 _).setCell 1 _).setCell 2 _
      have oL := oT.late oS (fun b hb => by have hb' : b = kk := hb; have := unhide HZ; omega)
      have CU := xlunder_any ((unhide HH).1.quiet oL) pk y (by have := unhide Hn; omega) (unhide HH).2.2.1
      unfold vlA at CU
      have CU := hide CU
      have HNS := hide NS
      have HO0 := hide oL
      clear hy O3 o3 hln NK oT oS NS oL hkk
      go_upto_region 7 with fail
      generalize ((w3.setCell ⟨kk, 0, none⟩ (.bool y.str)).setCell ⟨kk, 1, none⟩ (.int .i64 y.i)).setCell ⟨kk, 2, none⟩ (.string y.s) = w4 at *
      clear e0 e1 e2 f0 f1 f2 k0 k1 k2 kkl
      have k0 : w4.cell? ⟨kk, 0, none⟩ = some (.bool y.str) := (unhide HNS).cell 0
      have k1 : w4.cell? ⟨kk, 1, none⟩ = some (.int .i64 y.i) := (unhide HNS).cell 1
      have k2 : w4.cell? ⟨kk, 2, none⟩ = some (.string y.s) := (unhide HNS).cell 2
      go_wp2_with fail
      refine (unhide CU).mono ?_
      rintro e1 w5 ⟨z, rfl, hz, o5⟩
      have HO := hide ((unhide HO0).trans o5 (fun _ _ e => e))
      clear CU o5 k0 k1 k2
      rcases hz with ⟨rfl, hno⟩ | ⟨i, r, rfl, hri, hrk⟩
      · have h17 : e ≠ 17 := fun c => by
          obtain ⟨r, h1, h2⟩ := (unhide HP).2.1 c
          exact hno r h1 h2
        by_cases h6 : e = 6
        · have n8 := (unhide HP).1 h6
          have d1 : decide ((n : Int) ≥ 8) = true := decide_eq_true (by have := unhide Hn; omega)
          have d2 : decide (8 ≤ (n : Int)) = true := decide_eq_true (by have := unhide Hn; omega)
          subst h6
          clear h17 hno n8
          go_wp2_with fail
          go_ret
          exact ⟨rfl, unhide HO⟩
        · have b6 : (e == 6) = false := ne_intO h6
          have b17 : (e == 17) = false := ne_intO h17
          by_cases h9 : e = 9
          · subst h9
            clear h6 h17 hno
            go_wp2_with fail
            go_ret
            exact ⟨rfl, unhide HO⟩
          · have b9 : (e == 9) = false := ne_intO h9
            clear h6 h17 h9 hno
            go_wp2_with fail
            go_ret
            exact ⟨rfl, unhide HO⟩
      · have h9 : e ≠ 9 := fun c => (unhide HP).2.2 c r (List.mem_of_getElem? hri) hrk
        have b9 : (e == 9) = false := ne_intO h9
        have di : decide ((i : Int) ≥ 0) = true := decide_eq_true (by omega)
        have di' : decide (0 ≤ (i : Int)) = true := decide_eq_true (by omega)
        by_cases h6 : e = 6
        · have n8 := (unhide HP).1 h6
          have d1 : decide ((n : Int) ≥ 8) = true := decide_eq_true (by have := unhide Hn; omega)
          have d2 : decide (8 ≤ (n : Int)) = true := decide_eq_true (by have := unhide Hn; omega)
          subst h6
          clear h9 hri hrk n8 b9
          go_wp2_with fail
          go_ret
          exact ⟨rfl, unhide HO⟩
        · have b6 : (e == 6) = false := ne_intO h6
          by_cases h17 : e = 17
          · subst h17
            clear h6 h9 hri hrk b6 b9
            go_wp2_with fail
            go_ret
            exact ⟨rfl, unhide HO⟩
          · have b17 : (e == 17) = false := ne_intO h17
            clear h6 h17 h9 hri hrk
            go_wp2_with fail
            go_ret
            exact ⟨rfl, unhide HO⟩
    · have d1 : decide ((pk : Int) ≥ (ln : Int)) = true := decide_eq_true (by omega)
      have d2 : decide ((ln : Int) ≤ (pk : Int)) = true := decide_eq_true (by omega)
      obtain ⟨n6, n17, n9⟩ := unhide HPs (by rw [hln]; omega)
      have m6 : (e != 6) = true := by simpa using n6
      have m17 : (e != 17) = true := by simpa using n17
      have m9 : (e != 9) = true := by simpa using n9
      have HO := hide oT
      clear O3 o3 hln NK oT n6 n17 n9 hkk
      go_wp2_with fail
      go_ret
      exact ⟨rfl, unhide HO⟩
end
end Go.Proofs.Qxb6500414aGreat
