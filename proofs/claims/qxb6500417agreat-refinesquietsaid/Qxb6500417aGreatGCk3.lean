/-
  OWN WORK. THE GRAPH: Check: the order of the commits.
-/
import Derived.Test.Qxb6500417aGreatGCk1
namespace Go.Proofs.Qxb6500417aGreat
open Go.RowKit Go.PlainAid
set_option linter.unusedSimpArgs false
set_option linter.unusedVariables false

/-- The Seq of the commit ahead of place i. -/
def lastQ (T : Gt) (i : Nat) : Nat := if i = 0 then 0 else (T.c (T.o (i - 1))).seq
section
variable {w : World} {g t s d rt : Nat} {D B : Nat → Nat} {recs : List Rec} {J : Nat → Sl} {F : Nat → Prop} {T : Gt}
theorem GI.last (h : GI J rt T) {i : Nat} (hi : i < T.n) : lastQ T i < (T.c (T.o i)).seq := by
  unfold lastQ
  by_cases e : i = 0
  · rw [if_pos e]; have := (h.tab.cs _ (h.ord.oin i hi)).1; omega
  · rw [if_neg e]; exact h.ord.srt (i - 1) i (by omega) hi
set_option maxRecDepth 100000 in
set_option maxHeartbeats 8000000 in
theorem gordF_any (h : TS w t s d D B recs J rt F) (hg : GH w g t T) (hI : GI J rt T) :
    Calls Tryz.prog 89 #[.pointer (some ⟨g, 0, none⟩)] w fun e w' => e = .returned (.bool true) ∧ Only (fun _ => False) w w' := by
  have H0 := hide h
  have HG := hide hg
  have HI := hide hI
  have hn := hI.ord.n40
  clear h hg hI
  go_enter Tryz.func89, Tryz.ntmps89
  go_wp2_with fail
  go_loopw [3, 4] (fun lv kv wr => ∃ k : Nat, kv = .int .i64 k ∧ k ≤ T.n ∧ lv = .int .i64 (lastQ T k : Nat) ∧ Only (fun _ => False) w wr) (fun _ kv _ => T.n - (intOf kv).toNat)
  case atStart => exact ⟨0, rfl, by omega, rfl, Only.refl _ _⟩
  case round =>
    obtain ⟨i, rfl, hi, rfl, hO⟩ := hrel
    have hT := (unhide H0).quiet hO
    have hG := (unhide HG).quiet hO
    have cn := hG.n_.1
    have hgl := hG.lt
    by_cases hil : i < T.n
    · have a1 : decide ((i : Int) < (T.n : Int)) = true := decide_eq_true (by omega)
      have a1n : decide (i < T.n) = true := decide_eq_true hil
      have a2 : (i : Int) < 48 := by omega
      have hC := (unhide HI).ord.oin i hil
      have hcl : T.o i < 49 := by have := hC.1.2; omega
      have zo := (hG.ord i (by omega)).1
      have C1 := hide (gisC_any hG (T.o i) hC)
      have hw := (unhide HI).tab.cw _ hC
      have hsq := (unhide HI).tab.cs _ hC
      have hls := (unhide HI).last hil
      have hnl : lastQ T (i + 1) = (T.c (T.o i)).seq := by unfold lastQ; rw [if_neg (by omega)]; rfl
      have hct := (unhide HI).tab.ct _ hC
      have hcp := (unhide HI).tab.cp _ hC
      have Hnl := hide hnl
      have HGk := hide hG
      have HTk := hide hT
      have HO := hide hO
      have Hct := hide hct
      have Hcp := hide hcp
      have hnp := hw.np
      have a3 : (T.o i : Int) < 49 := by omega
      clear hG hO hT hC hnl hct hcp hw
      go_wp2_with fail
      refine (unhide C1).mono ?_
      rintro e w1 ⟨rfl, rfl⟩
      have z0 := ((unhide HGk).com0 (T.o i) hcl).1
      have z1 : wr.cell? ⟨g, 1 + T.o i * 6 + 1, none⟩ = some (.int .i64 ((T.c (T.o i)).seq : Int)) := ((unhide HGk).com (T.o i) 1 hcl (by omega)).1
      have z2 : wr.cell? ⟨g, 1 + T.o i * 6 + 2, none⟩ = some (.int .i64 ((T.c (T.o i)).tree : Int)) := ((unhide HGk).com (T.o i) 2 hcl (by omega)).1
      have z3 : wr.cell? ⟨g, 1 + T.o i * 6 + 3, none⟩ = some (.int .i64 ((T.c (T.o i)).np : Int)) := ((unhide HGk).com (T.o i) 3 hcl (by omega)).1
      have z4 : wr.cell? ⟨g, 1 + T.o i * 6 + 4, none⟩ = some (.int .i64 ((T.c (T.o i)).p0 : Int)) := ((unhide HGk).com (T.o i) 4 hcl (by omega)).1
      have z5 : wr.cell? ⟨g, 1 + T.o i * 6 + 5, none⟩ = some (.int .i64 ((T.c (T.o i)).p1 : Int)) := ((unhide HGk).com (T.o i) 5 hcl (by omega)).1
      clear C1
      go_upto_region 9 with fail
      clear z0 z1 z2 z3 z4 z5 zo
      have hA4 := Has.new wr (crA (T.c (T.o i))) 82
      have hO4 := (Only.refl (fun _ => False) wr).alloc (.cells (crA (T.c (T.o i))) 82)
      have HA4 := hide hA4
      have HO4 := hide hO4
      have m1 : (wr.alloc (.cells (crA (T.c (T.o i))) 82)).cell? ⟨wr.heap.size, 1, none⟩ = some (.int .i64 ((T.c (T.o i)).seq : Int)) := hA4.cell 1
      have m2 : (wr.alloc (.cells (crA (T.c (T.o i))) 82)).cell? ⟨wr.heap.size, 2, none⟩ = some (.int .i64 ((T.c (T.o i)).tree : Int)) := hA4.cell 2
      have m3 : (wr.alloc (.cells (crA (T.c (T.o i))) 82)).cell? ⟨wr.heap.size, 3, none⟩ = some (.int .i64 ((T.c (T.o i)).np : Int)) := hA4.cell 3
      have cnx := ((unhide HGk).quiet hO4).nx_.1
      have hnx := (unhide HI).nx
      unfold crA at HA4 HO4 m1 m2 m3 cnx
      clear hA4 hO4
      generalize hW4 : wr.alloc (.cells #[.bool (T.c (T.o i)).used, .int .i64 ((T.c (T.o i)).seq : Int), .int .i64 ((T.c (T.o i)).tree : Int), .int .i64 ((T.c (T.o i)).np : Int), .int .i64 ((T.c (T.o i)).p0 : Int), .int .i64 ((T.c (T.o i)).p1 : Int)] 82) = W4 at *
      clear hW4
      generalize wr.heap.size = q3 at *
      generalize hrow : T.c (T.o i) = r at *
      have Hrow := hide hrow
      clear hrow
      generalize lastQ T i = ls at *
      have b1 : decide ((r.seq : Int) ≤ (ls : Int)) = false := decide_eq_false (by omega)
      have b1n : decide (r.seq ≤ ls) = false := decide_eq_false (by omega)
      have b2 : decide ((T.nx : Int) ≤ (r.seq : Int)) = false := decide_eq_false (by omega)
      have b2n : decide (T.nx ≤ r.seq) = false := decide_eq_false (by omega)
      have b3 : decide ((r.np : Int) < 0) = false := decide_eq_false (by omega)
      have b4 : decide ((2 : Int) < (r.np : Int)) = false := decide_eq_false (by omega)
      have b4n : decide (2 < r.np) = false := decide_eq_false (by omega)
      go_quiet (fail)
      have hOd : Only (fun _ => False) wr (W4.drewN nq) := (unhide HO4).trans (onlyDN _ _) (fun _ _ h => h)
      have HA5 := hide ((unhide HA4).keep (onlyDN (B := fun _ => False) W4 nq) (fun h => h))
      have m1 := (unhide HA5).cell 1
      have m2 := (unhide HA5).cell 2
      have m3 := (unhide HA5).cell 3
      simp only [List.getElem?_toArray, List.getElem?_cons_zero, List.getElem?_cons_succ] at m1 m2 m3
      have hG5 := (unhide HGk).quiet hOd
      have hT5 := (unhide HTk).quiet hOd
      have hctk : IsT J r.tree := by have := unhide Hct; exact this
      have C2 := hide (gisT_any hT5 hG5 r.tree hctk)
      have HG5 := hide hG5
      have HO5 := hide ((unhide HO).trans hOd (fun _ _ h => h))
      clear hOd hG5 hT5 hctk HO4 HA4 b1 b1n b2 b2n b3 b4 b4n HO
      generalize W4.drewN nq = W5 at *
      go_wp2_with fail
      refine (unhide C2).mono ?_
      rintro e w6 ⟨rfl, hO6⟩
      have HA6 := hide ((unhide HA5).keep hO6 (fun h => h))
      have HG6 := hide ((unhide HG5).quiet hO6)
      have HO6 := hide ((unhide HO5).trans hO6 (fun _ _ h => h))
      clear C2 hO6 m1 m2 m3 HA5 HG5 HO5 HGk HTk cnx
      go_wp2_with fail
      go_loopw [7] (fun pv wr => ∃ k : Nat, pv = .int .i64 k ∧ k ≤ r.np ∧ Only (fun _ => False) w6 wr) (fun pv _ => r.np - (intOf pv).toNat)
      case atStart => exact ⟨0, rfl, by omega, Only.refl _ _⟩
      case round =>
        obtain ⟨k, rfl, hk, hOr⟩ := hrel
        have hA7 := (unhide HA6).keep hOr (fun h => h)
        have hG7 := (unhide HG6).quiet hOr
        have m3 := hA7.cell 3
        have m1 := hA7.cell 1
        have m4 := hA7.cell 4
        have m5 := hA7.cell 5
        simp only [List.getElem?_toArray, List.getElem?_cons_zero, List.getElem?_cons_succ] at m1 m3 m4 m5
        by_cases hkl : k < r.np
        · have b1 : decide ((k : Int) < (r.np : Int)) = true := decide_eq_true (by omega)
          have b1n : decide (k < r.np) = true := decide_eq_true hkl
          have b2 : (k : Int) < 2 := by omega
          have hpt := pars_take hnp hkl
          have hm2 : parN r k ∈ r.pars := List.mem_of_mem_take (i := k + 1) (by rw [hpt]; simp)
          have hPC := unhide Hcp _ hm2
          have C7 := gisC_any hG7 (parN r k) hPC.1
          have hp49 : parN r k < 49 := by have := hPC.1.1.2; omega
          have cp : wr.cell? ⟨q3, 4 + k, none⟩ = some (.int .i64 (parN r k : Int)) := by
            have h2 : k = 0 ∨ k = 1 := by omega
            rcases h2 with rfl | rfl
            · exact m4
            · exact m5
          have cs : wr.cell? ⟨g, 1 + parN r k * 6 + 1, none⟩ = some (.int .i64 ((T.c (parN r k)).seq : Int)) := (hG7.com (parN r k) 1 hp49 (by omega)).1
          have hlt := hPC.2
          have b3 : decide ((r.seq : Int) ≤ ((T.c (parN r k)).seq : Int)) = false := decide_eq_false (by omega)
          have b3n : decide (r.seq ≤ (T.c (parN r k)).seq) = false := decide_eq_false (by omega)
          have b4 : (parN r k : Int) < 49 := by omega
          have hgl7 := hG7.lt
          have C7 := hide C7
          have HOr := hide hOr
          clear hOr hA7 hG7 hpt hm2 hPC m4 m5 hlt
          generalize (T.c (parN r k)).seq = ps at *
          generalize parN r k = pn at *
          go_wp2_with fail
          refine (unhide C7).mono ?_
          rintro e w8 ⟨rfl, rfl⟩
          clear C7
          go_upto_region 19 with fail
          go_quiet (fail)
          have HOr2 := hide ((unhide HOr).trans (onlyDN (B := fun _ => False) wr nq) (fun _ _ h => h))
          go_wp2_with fail
          go_roundw
          case rel => exact ⟨k + 1, by go_num, by omega, unhide HOr2⟩
          case measure => simp [intOf]; omega
        · have b1 : decide ((k : Int) < (r.np : Int)) = false := decide_eq_false (by omega)
          have b1n : decide (k < r.np) = false := decide_eq_false hkl
          have HOr := hide ((unhide HO6).trans hOr (fun _ _ h => h))
          clear hOr hA7 hG7 m4 m5
          go_wp2_with fail
          go_roundw
          case rel => exact ⟨i + 1, by go_num, by omega, by rw [unhide Hnl], unhide HOr⟩
          case measure => simp [intOf]; omega
    · have a1 : decide ((i : Int) < (T.n : Int)) = false := decide_eq_false (by omega)
      have a1n : decide (i < T.n) = false := decide_eq_false hil
      have HO := hide hO
      clear hG hO hT
      go_wp2_with fail
      go_ret
      exact ⟨rfl, unhide HO⟩
end
end Go.Proofs.Qxb6500417aGreat
