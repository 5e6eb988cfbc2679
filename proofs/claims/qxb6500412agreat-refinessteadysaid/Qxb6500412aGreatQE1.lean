/-
  OWN WORK. QUERY's MODEL: match (written by tools/gen_qe0.py).
-/
import Derived.Test.Qxb6500412aGreatQE0
namespace Go.Proofs.Qxb6500412aGreat
open Go.RowKit Go.PlainAid
set_option linter.unusedSimpArgs false
set_option linter.unusedVariables false

section
variable {w w' : World} {ca wa ra : Option Addr} {cn cc wn wk rn rc : Nat} {cols : List Cl} {l : List Cm} {row : List Vl} {tn : ByteArray} {pk ix : Int}
set_option maxRecDepth 100000 in
set_option maxHeartbeats 8000000 in
theorem smmatch_any (hC : OwnC w (.slice ca cn cc) cols) (hcl : cols.length ≤ 100) (hM : OwnSm w (.slice wa wn wk) l) (hml : l.length ≤ 1000) (hop : ∀ c ∈ l, okSg c.op) (hR : OwnV w (.slice ra rn rc) row) (hrl : row.length = cols.length) (hin : ∀ c ∈ l, 0 ≤ qcol cols c.col) : Calls Tryz.prog 278 #[schU tn (.slice ca cn cc) pk ix, .slice wa wn wk, .slice ra rn rc] w fun e w' => e = .returned (.bool (matB cols l row)) ∧ Only (fun _ => False) w w' := by
  unfold schU
  have o0 : Only (fun _ => False) w (w.alloc (.cells #[.string tn, .slice ca cn cc, .int .i64 pk, .int .i64 ix] 79)) := (Only.refl _ w).alloc _
  have N0 := Has.new w #[.string tn, .slice ca cn cc, .int .i64 pk, .int .i64 ix] 79
  obtain ⟨a', cap', hsh⟩ := hM.shape
  have hwn : wn = l.length := by cases hsh; rfl
  subst hwn
  obtain ⟨a'', cap'', hsh2⟩ := hR.shape
  have hrn : rn = row.length := by cases hsh2; rfl
  subst hrn
  have HS := hide (show Has (w.alloc (.cells #[.string tn, .slice ca cn cc, .int .i64 pk, .int .i64 ix] 79)) w.heap.size #[.string tn, .slice ca cn cc, .int .i64 pk, .int .i64 ix] 79 ∧ OwnC (w.alloc (.cells #[.string tn, .slice ca cn cc, .int .i64 pk, .int .i64 ix] 79)) (.slice ca cn cc) cols ∧ OwnSm (w.alloc (.cells #[.string tn, .slice ca cn cc, .int .i64 pk, .int .i64 ix] 79)) (.slice wa l.length wk) l ∧ OwnV (w.alloc (.cells #[.string tn, .slice ca cn cc, .int .i64 pk, .int .i64 ix] 79)) (.slice ra row.length rc) row ∧ Only (fun _ => False) w (w.alloc (.cells #[.string tn, .slice ca cn cc, .int .i64 pk, .int .i64 ix] 79)) from ⟨N0, hC.keep o0 (fun _ _ e => e), hM.keep o0 (fun _ _ e => e), hR.keep o0 (fun _ _ e => e), o0⟩)
  have HO := hide (And.intro hop hin)
  have HRL := hide hrl
  clear hrl hC hM hR hsh hsh2 o0 N0 hop hin
  go_enter Tryz.func278, Tryz.ntmps278
  go_upto_region 2 with fail
  generalize w.alloc (.cells #[.string tn, .slice ca cn cc, .int .i64 pk, .int .i64 ix] 79) = w1 at *
  generalize w.heap.size = H at *
  go_loopg [7, 8, 9] (l.length + 1) (fun gk jv _ _ wr => ∃ i : Nat, gk + i = l.length + 1 ∧ jv = .int .i64 i ∧ i ≤ l.length ∧ (∀ c ∈ l.take i, cmpB cols row c = true) ∧ Has wr H #[.string tn, .slice ca cn cc, .int .i64 pk, .int .i64 ix] 79 ∧ OwnC wr (.slice ca cn cc) cols ∧ OwnSm wr (.slice wa l.length wk) l ∧ OwnV wr (.slice ra row.length rc) row ∧ Only (fun _ => False) w wr)
  case atStart => exact ⟨0, rfl, rfl, Nat.zero_le _, fun c hc => by simp at hc, (unhide HS).1, (unhide HS).2.1, (unhide HS).2.2.1, (unhide HS).2.2.2.1, (unhide HS).2.2.2.2⟩
  case round =>
    obtain ⟨i, hgk, rfl, hi, hall, hI⟩ := hrel
    clear HS
    have HA := hide hall
    clear hall
    by_cases hs : i < l.length
    · have a1 : decide ((i : Int) < (l.length : Int)) = true := decide_eq_true (by omega)
      have a1p : (i : Int) < (l.length : Int) := by omega
      obtain ⟨c, hx⟩ := getE hs
      have hmem := List.mem_of_getElem? hx
      have hq0 := (unhide HO).2 c hmem
      have hqr := qcol_rng cols c.col
      obtain ⟨k, hk⟩ : ∃ k : Nat, qcol cols c.col = (k : Int) := ⟨(qcol cols c.col).toNat, by omega⟩
      have hkl : k < row.length := by have := unhide HRL; omega
      obtain ⟨y, hy⟩ := getE hkl
      obtain ⟨gw, ha, d0, d1, d2, d3, d4⟩ := hI.2.2.1.at_ hx
      subst ha
      obtain ⟨rg, ha2, e0, e1, e2⟩ := hI.2.2.2.1.at_ hy
      subst ha2
      have hcm : cmpB cols row c = holdB (vcmp y c.lit) c.op := by
        unfold cmpB rAt
        rw [hk]
        simp [List.getD, hy]
      have htk : l.take (i + 1) = l.take i ++ [c] := by rw [List.take_add_one, hx]; rfl
      have HK := hide (And.intro hcm (And.intro htk (And.intro hmem ((unhide HO).1 c hmem))))
      have s0 : wr.cell? ⟨H, 0, none⟩ = some (.string tn) := hI.1.cell 0
      have s1 : wr.cell? ⟨H, 1, none⟩ = some (.slice ca cn cc) := hI.1.cell 1
      have s2 : wr.cell? ⟨H, 2, none⟩ = some (.int .i64 pk) := hI.1.cell 2
      have s3 : wr.cell? ⟨H, 3, none⟩ = some (.int .i64 ix) := hI.1.cell 3
      have sl := hI.1.lt
      have oD : Only (fun _ => False) wr wr.drew := (Only.refl _ wr).drew
      have C1 := smcolOf_any (tn := tn) (pk := pk) (ix := ix) (hI.2.1.keep oD (fun _ _ e => e)) hcl c.col
      rw [hk] at C1
      unfold schU at C1
      have C1 := hide C1
      have HI := hide hI
      have k1p : (k : Int) < (row.length : Int) := by omega
      clear hI hx hmem hq0 hqr hcm htk oD hk hy
      go_upto_region 4 with fail
      refine wp_region_held_drew (S := (fun w' => w'.cell? ⟨H, 0, none⟩ = some (.string tn) ∧ w'.cell? ⟨H, 1, none⟩ = some (.slice ca cn cc) ∧ w'.cell? ⟨H, 2, none⟩ = some (.int .i64 pk) ∧ w'.cell? ⟨H, 3, none⟩ = some (.int .i64 ix) ∧ w'.cell? ⟨gw, i * 5, none⟩ = some (.string c.col))) (by kernel_rfl) ⟨s0, s1, s2, s3, d0⟩ (fun hH0 => ?_)
      refine takeH 0 16 (v := ?va1) rfl rfl (by kernel_rfl) (by kernel_rfl) (by kernel_rfl) (fun _ _ _ h => h) (Or.inl ⟨by rfl, ?ha1⟩) hH0 ?ra1
      case ha1 => (intro w hSw; obtain ⟨s0, s1, s2, s3, s4⟩ := hSw; go_simp; (try with_reducible rfl))
      case ra1 =>
      try simp only [Act.put, List.setIfInBounds_toArray, List.set_cons_zero, List.set_cons_succ]
      refine takeH 1 17 (v := ?va2) rfl rfl (by kernel_rfl) (by kernel_rfl) (by kernel_rfl) (fun _ _ _ h => h) (Or.inl ⟨by rfl, ?ha2⟩) hH0 ?ra2
      case ha2 => (intro w hSw; clear hSw; go_simp; (try with_reducible rfl))
      case ra2 =>
      try simp only [Act.put, List.setIfInBounds_toArray, List.set_cons_zero, List.set_cons_succ]
      refine takeH 2 18 (v := ?va3) rfl rfl (by kernel_rfl) (by kernel_rfl) (by kernel_rfl) (fun _ _ _ h => h) (Or.inl ⟨by rfl, ?ha3⟩) hH0 ?ra3
      case ha3 => (intro w hSw; clear hSw; go_simp; (try with_reducible rfl))
      case ra3 =>
      try simp only [Act.put, List.setIfInBounds_toArray, List.set_cons_zero, List.set_cons_succ]
      refine takeH 3 19 (v := ?va4) rfl rfl (by kernel_rfl) (by kernel_rfl) (by kernel_rfl) (fun _ _ _ h => h) (Or.inl ⟨by rfl, ?ha4⟩) hH0 ?ra4
      case ha4 => (intro w hSw; clear hSw; go_simp; (try with_reducible rfl))
      case ra4 =>
      try simp only [Act.put, List.setIfInBounds_toArray, List.set_cons_zero, List.set_cons_succ]
      refine takeH 4 20 (v := ?va5) rfl rfl (by kernel_rfl) (by kernel_rfl) (by kernel_rfl) (fun _ _ _ h => h) (Or.inl ⟨by rfl, ?ha5⟩) hH0 ?ra5
      case ha5 => (intro w hSw; clear hSw; go_simp; (try with_reducible rfl))
      case ra5 =>
      try simp only [Act.put, List.setIfInBounds_toArray, List.set_cons_zero, List.set_cons_succ]
      refine takeH 5 21 (v := ?va6) rfl rfl (by kernel_rfl) (by kernel_rfl) (by kernel_rfl) (fun _ _ _ h => h) (Or.inl ⟨by rfl, ?ha6⟩) hH0 ?ra6
      case ha6 => (intro w hSw; obtain ⟨s0, s1, s2, s3, s4⟩ := hSw; go_simp; (try with_reducible rfl))
      case ra6 =>
      try simp only [Act.put, List.setIfInBounds_toArray, List.set_cons_zero, List.set_cons_succ]
      refine callH 6 (by kernel_rfl) rfl 22 rfl rfl 273 Tryz.func273 (by kernel_rfl) (by kernel_rfl) #[.tmp 16, .tmp 21] #[79, 9] rfl #[.agg #[.string tn, .slice ca cn cc, .int .i64 pk, .int .i64 ix], .string c.col] (by simp [Act.eval]) (R := fun v w' => v = .int .i64 (k : Int) ∧ Only (fun _ => False) wr.drew w') ((unhide C1).mono (by rintro en w' ⟨rfl, o⟩; exact ⟨_, rfl, rfl, o⟩)) ?ka
      case ka =>
      rintro _ w6 ⟨rfl, o6⟩
      have S6 : w6.cell? ⟨H, 0, none⟩ = some (.string tn) ∧ w6.cell? ⟨H, 1, none⟩ = some (.slice ca cn cc) ∧ w6.cell? ⟨H, 2, none⟩ = some (.int .i64 pk) ∧ w6.cell? ⟨H, 3, none⟩ = some (.int .i64 ix) ∧ w6.cell? ⟨gw, i * 5, none⟩ = some (.string c.col) := ⟨o6.cellS hH0.1, o6.cellS hH0.2.1, o6.cellS hH0.2.2.1, o6.cellS hH0.2.2.2.1, o6.cellS hH0.2.2.2.2⟩
      refine ⟨S6, ?_⟩
      try simp only [Act.put, List.setIfInBounds_toArray, List.set_cons_zero, List.set_cons_succ]
      refine takeH 7 8 (v := ?va7) rfl rfl (by kernel_rfl) (by kernel_rfl) (by kernel_rfl) (fun _ _ _ h => h) (Or.inl ⟨by rfl, ?ha7⟩) S6 ?ra7
      case ha7 => (intro w hSw; clear hSw; go_simp; (try with_reducible rfl))
      case ra7 =>
      try simp only [Act.put, List.setIfInBounds_toArray, List.set_cons_zero, List.set_cons_succ]
      refine wpAnyH_done (by kernel_rfl) ?_ _
      have oD : Only (fun _ => False) wr w6 := (Only.refl _ wr).drew.trans o6 (fun _ _ e => e)
      have HF := hide oD
      clear hH0 S6 o6 oD
      have HI2 := hide (show Has w6 H #[.string tn, .slice ca cn cc, .int .i64 pk, .int .i64 ix] 79 ∧ OwnC w6 (.slice ca cn cc) cols ∧ OwnSm w6 (.slice (some ⟨gw, 0, none⟩) l.length wk) l ∧ OwnV w6 (.slice (some ⟨rg, 0, none⟩) row.length rc) row ∧ Only (fun _ => False) w w6 from ⟨(unhide HI).1.keep (unhide HF) (fun e => e), (unhide HI).2.1.keep (unhide HF) (fun _ _ e => e), (unhide HI).2.2.1.keep (unhide HF) (fun _ _ e => e), (unhide HI).2.2.2.1.keep (unhide HF) (fun _ _ e => e), (unhide HI).2.2.2.2.trans (unhide HF) (fun _ _ e => e)⟩)
      have e0 := (unhide HF).cellS e0
      have e1 := (unhide HF).cellS e1
      have e2 := (unhide HF).cellS e2
      have d1 := (unhide HF).cellS d1
      have d2 := (unhide HF).cellS d2
      have d3 := (unhide HF).cellS d3
      have d4 := (unhide HF).cellS d4
      clear HF C1 HI s0 s1 s2 s3 sl d0
      generalize w6 = w2 at *
      have C2 := ecmp_any y c.lit w2.drew
      unfold vlA at C2
      obtain ⟨vc, hvc⟩ : ∃ x, vcmp y c.lit = x := ⟨_, rfl⟩
      rw [hvc] at C2
      have Hvc := hide hvc
      have C2 := hide C2
      clear hvc
      go_upto_region 5 with fail
      refine wp_region_held_drew (S := (fun w' => w'.cell? ⟨rg, k * 3, none⟩ = some (.bool y.str) ∧ w'.cell? ⟨rg, k * 3 + 1, none⟩ = some (.int .i64 y.i) ∧ w'.cell? ⟨rg, k * 3 + 2, none⟩ = some (.string y.s) ∧ w'.cell? ⟨gw, i * 5 + 2, none⟩ = some (.bool c.lit.str) ∧ w'.cell? ⟨gw, i * 5 + 3, none⟩ = some (.int .i64 c.lit.i) ∧ w'.cell? ⟨gw, i * 5 + 4, none⟩ = some (.string c.lit.s))) (by kernel_rfl) ⟨e0, e1, e2, d2, d3, d4⟩ (fun hH0 => ?_)
      refine takeH 0 23 (v := ?vb1) rfl rfl (by kernel_rfl) (by kernel_rfl) (by kernel_rfl) (fun _ _ _ h => h) (Or.inl ⟨by rfl, ?hb1⟩) hH0 ?rb1
      case hb1 => (intro w hSw; clear hSw; go_simp; (try with_reducible rfl))
      case rb1 =>
      try simp only [Act.put, List.setIfInBounds_toArray, List.set_cons_zero, List.set_cons_succ]
      refine takeH 1 24 (v := ?vb2) rfl rfl (by kernel_rfl) (by kernel_rfl) (by kernel_rfl) (fun _ _ _ h => h) (Or.inl ⟨by rfl, ?hb2⟩) hH0 ?rb2
      case hb2 => (intro w hSw; clear hSw; go_simp; (try with_reducible rfl))
      case rb2 =>
      try simp only [Act.put, List.setIfInBounds_toArray, List.set_cons_zero, List.set_cons_succ]
      refine takeH 2 25 (v := ?vb3) rfl rfl (by kernel_rfl) (by kernel_rfl) (by kernel_rfl) (fun _ _ _ h => h) (Or.inl ⟨by rfl, ?hb3⟩) hH0 ?rb3
      case hb3 => (intro w hSw; clear hSw; go_simp; (try with_reducible rfl))
      case rb3 =>
      try simp only [Act.put, List.setIfInBounds_toArray, List.set_cons_zero, List.set_cons_succ]
      refine takeH 3 26 (v := ?vb4) rfl rfl (by kernel_rfl) (by kernel_rfl) (by kernel_rfl) (fun _ _ _ h => h) (Or.inl ⟨by rfl, ?hb4⟩) hH0 ?rb4
      case hb4 => (intro w hSw; obtain ⟨s0, s1, s2, s3, s4, s5⟩ := hSw; go_simp; (try with_reducible rfl))
      case rb4 =>
      try simp only [Act.put, List.setIfInBounds_toArray, List.set_cons_zero, List.set_cons_succ]
      refine takeH 4 27 (v := ?vb5) rfl rfl (by kernel_rfl) (by kernel_rfl) (by kernel_rfl) (fun _ _ _ h => h) (Or.inl ⟨by rfl, ?hb5⟩) hH0 ?rb5
      case hb5 => (intro w hSw; clear hSw; go_simp; (try with_reducible rfl))
      case rb5 =>
      try simp only [Act.put, List.setIfInBounds_toArray, List.set_cons_zero, List.set_cons_succ]
      refine takeH 5 28 (v := ?vb6) rfl rfl (by kernel_rfl) (by kernel_rfl) (by kernel_rfl) (fun _ _ _ h => h) (Or.inl ⟨by rfl, ?hb6⟩) hH0 ?rb6
      case hb6 => (intro w hSw; clear hSw; go_simp; (try with_reducible rfl))
      case rb6 =>
      try simp only [Act.put, List.setIfInBounds_toArray, List.set_cons_zero, List.set_cons_succ]
      refine takeH 6 29 (v := ?vb7) rfl rfl (by kernel_rfl) (by kernel_rfl) (by kernel_rfl) (fun _ _ _ h => h) (Or.inl ⟨by rfl, ?hb7⟩) hH0 ?rb7
      case hb7 => (intro w hSw; clear hSw; go_simp; (try with_reducible rfl))
      case rb7 =>
      try simp only [Act.put, List.setIfInBounds_toArray, List.set_cons_zero, List.set_cons_succ]
      refine takeH 7 30 (v := ?vb8) rfl rfl (by kernel_rfl) (by kernel_rfl) (by kernel_rfl) (fun _ _ _ h => h) (Or.inl ⟨by rfl, ?hb8⟩) hH0 ?rb8
      case hb8 => (intro w hSw; clear hSw; go_simp; (try with_reducible rfl))
      case rb8 =>
      try simp only [Act.put, List.setIfInBounds_toArray, List.set_cons_zero, List.set_cons_succ]
      refine takeH 8 31 (v := ?vb9) rfl rfl (by kernel_rfl) (by kernel_rfl) (by kernel_rfl) (fun _ _ _ h => h) (Or.inl ⟨by rfl, ?hb9⟩) hH0 ?rb9
      case hb9 => (intro w hSw; obtain ⟨s0, s1, s2, s3, s4, s5⟩ := hSw; go_simp; (try with_reducible rfl))
      case rb9 =>
      try simp only [Act.put, List.setIfInBounds_toArray, List.set_cons_zero, List.set_cons_succ]
      refine callH 9 (by kernel_rfl) rfl 32 rfl rfl 115 Tryz.func115 (by kernel_rfl) (by kernel_rfl) #[.tmp 26, .tmp 31] #[152, 152] rfl #[.agg #[.bool y.str, .int .i64 y.i, .string y.s], .agg #[.bool c.lit.str, .int .i64 c.lit.i, .string c.lit.s]] (by simp [Act.eval]) (R := fun v w' => v = .int .i64 vc ∧ Only (fun _ => False) w2.drew w') ((unhide C2).mono (by rintro en w' ⟨rfl, o⟩; exact ⟨_, rfl, rfl, o⟩)) ?kb
      case kb =>
      rintro _ w6 ⟨rfl, o6⟩
      have S6 : w6.cell? ⟨rg, k * 3, none⟩ = some (.bool y.str) ∧ w6.cell? ⟨rg, k * 3 + 1, none⟩ = some (.int .i64 y.i) ∧ w6.cell? ⟨rg, k * 3 + 2, none⟩ = some (.string y.s) ∧ w6.cell? ⟨gw, i * 5 + 2, none⟩ = some (.bool c.lit.str) ∧ w6.cell? ⟨gw, i * 5 + 3, none⟩ = some (.int .i64 c.lit.i) ∧ w6.cell? ⟨gw, i * 5 + 4, none⟩ = some (.string c.lit.s) := ⟨o6.cellS hH0.1, o6.cellS hH0.2.1, o6.cellS hH0.2.2.1, o6.cellS hH0.2.2.2.1, o6.cellS hH0.2.2.2.2.1, o6.cellS hH0.2.2.2.2.2⟩
      refine ⟨S6, ?_⟩
      try simp only [Act.put, List.setIfInBounds_toArray, List.set_cons_zero, List.set_cons_succ]
      refine takeH 10 9 (v := ?vb10) rfl rfl (by kernel_rfl) (by kernel_rfl) (by kernel_rfl) (fun _ _ _ h => h) (Or.inl ⟨by rfl, ?hb10⟩) S6 ?rb10
      case hb10 => (intro w hSw; clear hSw; go_simp; (try with_reducible rfl))
      case rb10 =>
      try simp only [Act.put, List.setIfInBounds_toArray, List.set_cons_zero, List.set_cons_succ]
      refine wpAnyH_done (by kernel_rfl) ?_ _
      have oD : Only (fun _ => False) w2 w6 := (Only.refl _ w2).drew.trans o6 (fun _ _ e => e)
      have HF := hide oD
      clear hH0 S6 o6 oD
      have HI3 := hide (show Has w6 H #[.string tn, .slice ca cn cc, .int .i64 pk, .int .i64 ix] 79 ∧ OwnC w6 (.slice ca cn cc) cols ∧ OwnSm w6 (.slice (some ⟨gw, 0, none⟩) l.length wk) l ∧ OwnV w6 (.slice (some ⟨rg, 0, none⟩) row.length rc) row ∧ Only (fun _ => False) w w6 from ⟨(unhide HI2).1.keep (unhide HF) (fun e => e), (unhide HI2).2.1.keep (unhide HF) (fun _ _ e => e), (unhide HI2).2.2.1.keep (unhide HF) (fun _ _ e => e), (unhide HI2).2.2.2.1.keep (unhide HF) (fun _ _ e => e), (unhide HI2).2.2.2.2.trans (unhide HF) (fun _ _ e => e)⟩)
      have d1 := (unhide HF).cellS d1
      clear HF C2 HI2 e0 e1 e2 d2 d3 d4
      generalize w6 = w3 at *
      have C3 := smholds_any vc c.op (unhide HK).2.2.2 w3
      obtain ⟨hb, hhb⟩ : ∃ b, holdB vc c.op = b := ⟨_, rfl⟩
      rw [hhb] at C3
      have Hhb := hide (show cmpB cols row c = hb by rw [(unhide HK).1, unhide Hvc]; exact hhb)
      have C3 := hide C3
      clear hhb
      cases hb with
      | true =>
        have HN := hide (show ∀ x ∈ l.take (i + 1), cmpB cols row x = true by
          intro x hx
          rw [(unhide HK).2.1] at hx
          rcases List.mem_append.1 hx with h | h
          · exact unhide HA x h
          · rw [List.mem_singleton.1 h]; exact unhide Hhb)
        go_wp2_with fail
        refine (unhide C3).mono ?_
        rintro e9 w4 ⟨rfl, rfl⟩
        clear d1 C3
        go_wp2_with fail
        go_roundg (gk - 1)
        case measure => omega
        case rel => exact ⟨i + 1, by omega, by go_num, by omega, unhide HN, unhide HI3⟩
      | false =>
        have RR := hide (show matB cols l row = false by
          unfold matB
          rw [List.all_eq_false]
          exact ⟨c, (unhide HK).2.2.1, by rw [unhide Hhb]; decide⟩)
        go_wp2_with fail
        refine (unhide C3).mono ?_
        rintro e9 w4 ⟨rfl, rfl⟩
        clear d1 C3
        go_wp2_with fail
        go_ret
        exact ⟨by rw [unhide RR]; rfl, (unhide HI3).2.2.2.2⟩
    · have hil : i = l.length := by omega
      have a1 : decide ((i : Int) < (l.length : Int)) = false := decide_eq_false (by omega)
      have a1p : ¬ (i : Int) < (l.length : Int) := by omega
      have RR := hide (show matB cols l row = true by
        unfold matB
        rw [List.all_eq_true]
        intro x hx
        exact unhide HA x (by rw [hil, List.take_length]; exact hx))
      have HI := hide hI
      clear hI
      go_wp2_with fail
      go_ret
      exact ⟨by rw [unhide RR]; rfl, (unhide HI).2.2.2.2⟩
end
end Go.Proofs.Qxb6500412aGreat
