/-
  OWN WORK. QUERY: one token read (written by tools/gen_s3.py).
-/
import Derived.Test.Qxb6500412aGreatS2
namespace Go.Proofs.Qxb6500412aGreat
open Go.RowKit Go.PlainAid
set_option linter.unusedSimpArgs false
set_option linter.unusedVariables false

/-- What lex answers at place i. -/
def lexC (t : ByteArray) (i : Nat) : Array Value := if run blkC t i < t.size then tokC (tokA t (run blkC t i)) else tkV 0 ⟨#[]⟩ 0 (run blkC t i)
theorem tokC_word (s : ByteArray) (e : Nat) (b : Bool) (h : kwB s = b) : tokC (some (.word s, e)) = tkV (if b = true then 3 else 2) s 0 e := by rw [← h]; rfl
theorem tokC_tk (x : Option (Tk × Nat)) : ∃ k s v e, tokC x = tkV k s v e := by
  match x with
  | none => exact ⟨_, _, _, _, rfl⟩
  | some (.word s, e) => exact ⟨_, _, _, _, rfl⟩
  | some (.num v, e) => exact ⟨_, _, _, _, rfl⟩
  | some (.str s, e) => exact ⟨_, _, _, _, rfl⟩
  | some (.sign s, e) => exact ⟨_, _, _, _, rfl⟩
/-- The first place behind i that is not of the kind. -/
theorem run_stop {p : Nat → Bool} {t : ByteArray} {i j : Nat} (hij : i ≤ j) (hj : j ≤ t.size) (hall : ∀ k, i ≤ k → k < j → p (byteAt t k) = true) (hs : t.size ≤ j ∨ p (byteAt t j) = false) : run p t i = j :=
  run_eq hij hj hall (fun h => hs.elim (fun c => by omega) id)
theorem run_more {p : Nat → Bool} {t : ByteArray} {i j : Nat} (hall : ∀ k, i ≤ k → k < j → p (byteAt t k) = true) (hj : p (byteAt t j) = true) : ∀ k, i ≤ k → k < j + 1 → p (byteAt t k) = true := fun k h1 h2 => by
  by_cases e : k = j
  · rw [e]; exact hj
  · exact hall k h1 (by omega)
set_option maxRecDepth 100000 in
set_option maxHeartbeats 8000000 in
theorem sqlex_any (t : ByteArray) (ht : t.size ≤ 256) (i : Nat) (hi : i ≤ t.size) (w : World) : Calls Tryz.prog 214 #[.string t, .int .i64 (i : Int)] w fun e w' => e = .returned (.agg (lexC t i)) ∧ Only (fun _ => False) w w' := by
  have o1 : Only (fun _ => False) w (w.alloc (.cells #[.int .i64 0, .string ⟨#[]⟩, .int .i64 0, .int .i64 0] 227)) := (Only.refl _ w).alloc _
  have N1 := Has.new w #[.int .i64 0, .string ⟨#[]⟩, .int .i64 0, .int .i64 0] 227
  have hsI : (t.size : Int) ≤ 256 := by omega
  have HO := hide o1
  have HN := hide N1
  clear o1 N1
  go_enter Tryz.func214, Tryz.ntmps214
  go_upto_region 1 with fail
  generalize w.alloc (.cells #[.int .i64 0, .string ⟨#[]⟩, .int .i64 0, .int .i64 0] 227) = w1 at *
  generalize hg : w.heap.size = g at *
  have Hg := hide hg
  clear hg
  go_loopw [1] (fun av wr => ∃ j : Nat, av = .int .i64 (j : Int) ∧ i ≤ j ∧ j ≤ t.size ∧ (∀ k, i ≤ k → k < j → blkC (byteAt t k) = true) ∧ wr = w1) (fun av _ => t.size + 1 - (intOf av).toNat)
  case atStart => exact ⟨i, rfl, Nat.le_refl _, hi, fun k h1 h2 => by omega, rfl⟩
  case round =>
    obtain ⟨j, rfl, hij, hjs, hall, hwr⟩ := hrel
    subst wr
    have gl := (unhide HN).lt
    have c0 : w1.cell? ⟨g, 0, none⟩ = some (.int .i64 0) := (unhide HN).cell 0
    have c1 : w1.cell? ⟨g, 1, none⟩ = some (.string ⟨#[]⟩) := (unhide HN).cell 1
    have c2 : w1.cell? ⟨g, 2, none⟩ = some (.int .i64 0) := (unhide HN).cell 2
    have c3 : w1.cell? ⟨g, 3, none⟩ = some (.int .i64 0) := (unhide HN).cell 3
    have f0 := (unhide HN).free 0
    have f1 := (unhide HN).free 1
    have f2 := (unhide HN).free 2
    have f3 := (unhide HN).free 3
    have HE := hide (fun (k : Int) (s : ByteArray) (v e : Int) (h : tkV k s v e = lexC t i) => show (Ending.returned (.agg (tkV k s v e)) = .returned (.agg (lexC t i)) ∧ Only (fun _ => False) w ((((w1.setCell ⟨g, 0, none⟩ (.int .i64 k)).setCell ⟨g, 1, none⟩ (.string s)).setCell ⟨g, 2, none⟩ (.int .i64 v)).setCell ⟨g, 3, none⟩ (.int .i64 e))) from ⟨by rw [h], (unhide HO).fresh (onlyS4 w1 g _ _ _ _) (by have := unhide Hg; omega)⟩)
    have HT := hide (fun (k : Int) (s : ByteArray) (v e : Int) => tok_set (unhide HN) k s v e)
    have HA := hide hall
    clear hall
    by_cases hjl : j < t.size
    · have a1 : decide ((j : Int) < (t.size : Int)) = true := decide_eq_true (by omega)
      have a1p : (j : Int) < (t.size : Int) := by omega
      have a1n : decide ((j : Int) ≥ (t.size : Int)) = false := decide_eq_false (by omega)
      have a1m : decide ((t.size : Int) ≤ (j : Int)) = false := decide_eq_false (by omega)
      have hb : (t[j].toNat : Int) = ((byteAt t j : Nat) : Int) := byteAt_idx t j hjl
      have CB := hide (sqblank_any (byteAt t j) w1)
      obtain ⟨bb, hbb⟩ : ∃ b, blkC (byteAt t j) = b := ⟨_, rfl⟩
      rw [hbb] at CB
      have Hb := hide hbb
      have c256 := byteAt_lt t j
      obtain ⟨c, hc⟩ : ∃ c, byteAt t j = c := ⟨_, rfl⟩
      rw [hc] at CB hb c256
      have Hc := hide hc
      clear hbb hc
      go_wp2_with fail
      refine (unhide CB).mono ?_
      rintro e w2 ⟨rfl, rfl⟩
      clear CB
      cases bb with
      | true =>
        have HR := hide (run_more (unhide HA) (unhide Hb))
        go_wp2_with fail
        exact ⟨⟨j + 1, by go_num, by omega, by omega, unhide HR, trivial⟩, by simp [intOf]; omega⟩
      | false =>
        have hrun := run_stop hij hjs (unhide HA) (.inr (unhide Hb))
        have HX := hide (show lexC t i = tokC (tokA t j) by unfold lexC; rw [hrun, if_pos hjl])
        clear hrun
        -- what stands there
        obtain ⟨bl, hbl⟩ : ∃ b, letC (byteAt t j) = b := ⟨_, rfl⟩
        have CL := hide (sqletter_any (byteAt t j) w1)
        rw [hbl, unhide Hc] at CL
        have Hl := hide hbl
        clear hbl
        go_wp2_with fail
        refine (unhide CL).mono ?_
        rintro e w2 ⟨rfl, rfl⟩
        clear CL
        cases bl with
        | true =>
          go_upto_region 7 with fail
          go_loopw [6] (fun ev wr => ∃ z : Nat, ev = .int .i64 (z : Int) ∧ j + 1 ≤ z ∧ z ≤ t.size ∧ (∀ k, j + 1 ≤ k → k < z → wrdC (byteAt t k) = true) ∧ wr = w1) (fun ev _ => t.size + 1 - (intOf ev).toNat)
          case atStart => exact ⟨j + 1, by go_num, Nat.le_refl _, by omega, fun k h1 h2 => by omega, rfl⟩
          case round =>
            obtain ⟨z, rfl, hjz, hzs, hall, hwr⟩ := hrel
            subst wr
            have HA2 := hide hall
            clear hall
            have jz : (j : Int) ≤ (z : Int) := by omega
            have zs : (z : Int) ≤ (t.size : Int) := by omega
            have done : (t.size ≤ z ∨ wrdC (byteAt t z) = false) → tokA t j = some (.word (t.extract j z), z) := fun h => by
              unfold tokA
              rw [if_pos (unhide Hl), run_stop hjz hzs (unhide HA2) h]
            have HD := hide done
            clear done
            by_cases hzl : z < t.size
            · have b1 : decide ((z : Int) < (t.size : Int)) = true := decide_eq_true (by omega)
              have b1p : (z : Int) < (t.size : Int) := by omega
              have hb2 : (t[z].toNat : Int) = ((byteAt t z : Nat) : Int) := byteAt_idx t z hzl
              obtain ⟨d, hd⟩ : ∃ c, byteAt t z = c := ⟨_, rfl⟩
              rw [hd] at hb2
              have CL := hide (sqletter_any d w1)
              have CD := hide (sqdigit_any d w1)
              obtain ⟨b3, hb3⟩ : ∃ b, letC d = b := ⟨_, rfl⟩
              obtain ⟨b4, hb4⟩ : ∃ b, digC d = b := ⟨_, rfl⟩
              rw [hb3] at CL
              rw [hb4] at CD
              have Hw := hide (show wrdC (byteAt t z) = (b3 || b4) by unfold wrdC; rw [hd, hb3, hb4])
              clear hd hb3 hb4
              go_wp2_with fail
              refine (unhide CL).mono ?_
              rintro e w2 ⟨rfl, rfl⟩
              clear CL
              cases b3 with
              | true =>
                have HR := hide (run_more (unhide HA2) (unhide Hw))
                go_wp2_with fail
                exact ⟨⟨z + 1, by go_num, by omega, by omega, unhide HR, trivial⟩, by simp [intOf]; omega⟩
              | false =>
                go_wp2_with fail
                refine (unhide CD).mono ?_
                rintro e w2 ⟨rfl, rfl⟩
                clear CD
                cases b4 with
                | true =>
                  have HR := hide (run_more (unhide HA2) (unhide Hw))
                  go_wp2_with fail
                  exact ⟨⟨z + 1, by go_num, by omega, by omega, unhide HR, trivial⟩, by simp [intOf]; omega⟩
                | false =>
                  have ht2 := unhide HD (.inr (unhide Hw))
                  have CK := hide (sqkeyword_any (t.extract j z) w1)
                  obtain ⟨bk, hbk⟩ : ∃ b, kwB (t.extract j z) = b := ⟨_, rfl⟩
                  rw [hbk] at CK
                  have HF := hide (show lexC t i = tkV (if bk = true then 3 else 2) (t.extract j z) 0 (z : Int) by rw [unhide HX, ht2, tokC_word _ _ _ hbk])
                  clear hbk ht2
                  generalize hsx : t.extract j z = sx at *
                  go_wp2_with fail
                  refine (unhide CK).mono ?_
                  rintro e w2 ⟨rfl, rfl⟩
                  clear CK
                  cases bk with
                  | true =>
                    have hfin : tkV 3 sx 0 (z : Int) = lexC t i := by rw [unhide HF]; rfl
                    have FF := hide (unhide HE 3 sx 0 (z : Int) hfin)
                    have HH := hide (unhide HT 3 sx 0 (z : Int))
                    clear hfin
                    go_wp2_with fail
                    exact bodyPost_ret (sres_tok Tryz.results214 _ rfl (unhide HH) rfl) rfl (unhide FF)
                  | false =>
                    have hfin : tkV 2 sx 0 (z : Int) = lexC t i := by rw [unhide HF]; rfl
                    have FF := hide (unhide HE 2 sx 0 (z : Int) hfin)
                    have HH := hide (unhide HT 2 sx 0 (z : Int))
                    clear hfin
                    go_wp2_with fail
                    exact bodyPost_ret (sres_tok Tryz.results214 _ rfl (unhide HH) rfl) rfl (unhide FF)
            · have b1 : decide ((z : Int) < (t.size : Int)) = false := decide_eq_false (by omega)
              have ht2 := unhide HD (.inl (by omega))
              have CK := hide (sqkeyword_any (t.extract j z) w1)
              obtain ⟨bk, hbk⟩ : ∃ b, kwB (t.extract j z) = b := ⟨_, rfl⟩
              rw [hbk] at CK
              have HF := hide (show lexC t i = tkV (if bk = true then 3 else 2) (t.extract j z) 0 (z : Int) by rw [unhide HX, ht2, tokC_word _ _ _ hbk])
              clear hbk ht2
              generalize hsx : t.extract j z = sx at *
              go_wp2_with fail
              refine (unhide CK).mono ?_
              rintro e w2 ⟨rfl, rfl⟩
              clear CK
              cases bk with
              | true =>
                have hfin : tkV 3 sx 0 (z : Int) = lexC t i := by rw [unhide HF]; rfl
                have FF := hide (unhide HE 3 sx 0 (z : Int) hfin)
                have HH := hide (unhide HT 3 sx 0 (z : Int))
                clear hfin
                go_wp2_with fail
                exact bodyPost_ret (sres_tok Tryz.results214 _ rfl (unhide HH) rfl) rfl (unhide FF)
              | false =>
                have hfin : tkV 2 sx 0 (z : Int) = lexC t i := by rw [unhide HF]; rfl
                have FF := hide (unhide HE 2 sx 0 (z : Int) hfin)
                have HH := hide (unhide HT 2 sx 0 (z : Int))
                clear hfin
                go_wp2_with fail
                exact bodyPost_ret (sres_tok Tryz.results214 _ rfl (unhide HH) rfl) rfl (unhide FF)
        | false =>
          obtain ⟨bd, hbd⟩ : ∃ b, digC (byteAt t j) = b := ⟨_, rfl⟩
          have CD := hide (sqdigit_any (byteAt t j) w1)
          rw [hbd, unhide Hc] at CD
          obtain ⟨bm, hbm⟩ : ∃ b, decide (c = 45) = b := ⟨_, rfl⟩
          have em : ((c : Int) == 45) = bm := by rw [← hbm, Bool.eq_iff_iff]; simp; omega
          obtain ⟨bs, hbs⟩ : ∃ b, decide (j + 1 < t.size) = b := ⟨_, rfl⟩
          have es : decide ((j : Int) + 1 < (t.size : Int)) = bs := by rw [← hbs, Bool.eq_iff_iff]; simp; omega
          obtain ⟨bn, hbn⟩ : ∃ b, numb t j = b := ⟨_, rfl⟩
          have Hn := hide hbn
          have HQ := hide (show bn = (bd || (bm && (bs && digC (byteAt t (j + 1))))) by rw [← hbn]; unfold numb; rw [hbd, unhide Hc, hbm, hbs])
          have Hbs := hide hbs
          clear hbd hbm hbn hbs
          go_wp2_with fail
          refine (unhide CD).mono ?_
          rintro e w2 ⟨rfl, rfl⟩
          clear CD
          go_upto_region 15 with fail
          go_cut [79] from 68 to 79 (fun zv wx => zv = .bool (!bd && bm && bs) ∧ wx = w1)
          case first =>
            cases bd with
            | true =>
              go_wp2_with fail
              go_meet
              exact ⟨rfl, rfl⟩
            | false =>
              cases bm with
              | false =>
                go_wp2_with fail
                go_meet
                exact ⟨rfl, rfl⟩
              | true =>
                cases bs with
                | false =>
                  go_wp2_with fail
                  go_meet
                  exact ⟨rfl, rfl⟩
                | true =>
                  go_wp2_with fail
                  go_meet
                  exact ⟨rfl, rfl⟩
          case rest =>
          obtain ⟨rfl, hw⟩ := hcut
          subst wc
          go_upto_if 79 with fail
          go_cut [7] from 80 to 83 (fun nv wx => nv = .bool bn ∧ wx = w1)
          case first =>
            cases bd with
            | true =>
              have r : bn = true := unhide HQ
              subst r
              simp only [Bool.not_true, Bool.false_and]
              go_wp2_with fail
              go_meet
              exact ⟨rfl, rfl⟩
            | false =>
              cases bm with
              | false =>
                have r : bn = false := unhide HQ
                subst r
                simp only [Bool.not_false, Bool.true_and, Bool.false_and]
                go_wp2_with fail
                go_meet
                exact ⟨rfl, rfl⟩
              | true =>
                cases bs with
                | false =>
                  have r : bn = false := unhide HQ
                  subst r
                  simp only [Bool.not_false, Bool.true_and]
                  go_wp2_with fail
                  go_meet
                  exact ⟨rfl, rfl⟩
                | true =>
                  have hl1 := of_decide_eq_true (unhide Hbs)
                  have jlI : (j : Int) + 1 < (t.size : Int) := by omega
                  have hb2 : (t[j + 1].toNat : Int) = ((byteAt t (j + 1) : Nat) : Int) := byteAt_idx t (j + 1) hl1
                  have r : bn = digC (byteAt t (j + 1)) := by rw [unhide HQ]; simp
                  obtain ⟨d, hd⟩ : ∃ c, byteAt t (j + 1) = c := ⟨_, rfl⟩
                  rw [hd] at hb2 r
                  have CD := hide (sqdigit_any d w1)
                  rw [← r] at CD
                  clear r hd
                  simp only [Bool.not_false, Bool.true_and]
                  go_wp2_with fail
                  refine (unhide CD).mono ?_
                  rintro e w2 ⟨rfl, rfl⟩
                  clear CD
                  go_wp2_with fail
                  go_meet
                  exact ⟨rfl, rfl⟩
          case rest =>
          obtain ⟨rfl, hw⟩ := hcut
          subst wc
          clear em es
          cases bn with
          | true =>
            have CI := sqlexInt_any t ht j hjl (unhide Hn) w1
            obtain ⟨nk, ns, nv, ne, hC⟩ := tokC_tk (numA t j)
            rw [hC] at CI
            have HF := hide (show lexC t i = tkV nk ns nv ne by rw [unhide HX, ← hC]; unfold tokA; rw [if_neg (show ¬ letC (byteAt t j) = true by rw [unhide Hl]; decide), if_pos (unhide Hn)])
            unfold tkV at CI
            have CI := hide CI
            clear hC
            go_wp2_with fail
            refine (unhide CI).mono ?_
            rintro e w2 ⟨rfl, o2⟩
            have N2 := (unhide HN).keep o2 (fun e => e)
            have gl2 := N2.lt
            have d0 : w2.cell? ⟨g, 0, none⟩ = some (.int .i64 0) := N2.cell 0
            have d1 : w2.cell? ⟨g, 1, none⟩ = some (.string ⟨#[]⟩) := N2.cell 1
            have d2 : w2.cell? ⟨g, 2, none⟩ = some (.int .i64 0) := N2.cell 2
            have d3 : w2.cell? ⟨g, 3, none⟩ = some (.int .i64 0) := N2.cell 3
            have g0 := N2.free 0
            have g1 := N2.free 1
            have g2 := N2.free 2
            have g3 := N2.free 3
            have FF := hide (show (Ending.returned (.agg (tkV nk ns nv ne)) = .returned (.agg (lexC t i)) ∧ Only (fun _ => False) w ((((w2.setCell ⟨g, 0, none⟩ (.int .i64 nk)).setCell ⟨g, 1, none⟩ (.string ns)).setCell ⟨g, 2, none⟩ (.int .i64 nv)).setCell ⟨g, 3, none⟩ (.int .i64 ne))) from ⟨by rw [unhide HF], ((unhide HO).trans o2 (fun _ _ e => e)).fresh (onlyS4 w2 g _ _ _ _) (by have := unhide Hg; omega)⟩)
            have HH := hide (tok_set N2 nk ns nv ne)
            clear CI o2 N2 c0 c1 c2 c3 f0 f1 f2 f3
            go_wp2_with fail
            exact bodyPost_ret (sres_tok Tryz.results214 _ rfl (unhide HH) rfl) rfl (unhide FF)
          | false =>
            by_cases hc39 : c = 39
            · have c39 := hc39
              have q1 : ((c : Int) == 39) = true := by rw [c39]; rfl
              have Hq := hide (show byteAt t j = 39 by rw [unhide Hc]; exact hc39)
              clear c39 hc39
              go_upto_region 20 with fail
              go_loopw [6] (fun ev wr => ∃ z : Nat, ev = .int .i64 (z : Int) ∧ j + 1 ≤ z ∧ z ≤ t.size ∧ (∀ k, j + 1 ≤ k → k < z → nquC (byteAt t k) = true) ∧ wr = w1) (fun ev _ => t.size + 1 - (intOf ev).toNat)
              case atStart => exact ⟨j + 1, by go_num, Nat.le_refl _, by omega, fun k h1 h2 => by omega, rfl⟩
              case round =>
                obtain ⟨z, rfl, hjz, hzs, hall, hwr⟩ := hrel
                subst wr
                have HA2 := hide hall
                clear hall
                have jz : (j : Int) + 1 ≤ (z : Int) := by omega
                have jzn : j + 1 ≤ z := hjz
                have zs : (z : Int) ≤ (t.size : Int) := by omega
                have HD := hide (show (t.size ≤ z ∨ nquC (byteAt t z) = false) → tokA t j = if z < t.size then some (.str (t.extract (j + 1) z), z + 1) else none from fun h => by
                  unfold tokA
                  rw [if_neg (show ¬ letC (byteAt t j) = true by rw [unhide Hl]; decide), if_neg (show ¬ numb t j = true by rw [unhide Hn]; decide), if_pos (unhide Hq), run_stop hjz hzs (unhide HA2) h])
                by_cases hzl : z < t.size
                · have b1 : decide ((z : Int) < (t.size : Int)) = true := decide_eq_true (by omega)
                  have b1p : (z : Int) < (t.size : Int) := by omega
                  have b1n : decide ((z : Int) ≥ (t.size : Int)) = false := decide_eq_false (by omega)
                  have b1m : decide ((t.size : Int) ≤ (z : Int)) = false := decide_eq_false (by omega)
                  have hb2 : (t[z].toNat : Int) = ((byteAt t z : Nat) : Int) := byteAt_idx t z hzl
                  obtain ⟨d, hd⟩ : ∃ c, byteAt t z = c := ⟨_, rfl⟩
                  rw [hd] at hb2
                  by_cases hd39 : d = 39
                  · have q2 : ((d : Int) != 39) = false := by rw [hd39]; rfl
                    have ht2 := unhide HD (.inr (by unfold nquC; rw [hd, hd39]; decide))
                    rw [if_pos hzl] at ht2
                    clear hd hd39
                    generalize hsx : t.extract (j + 1) z = sx at *
                    have hfin : tkV 5 sx 0 ((z : Int) + 1) = lexC t i := by rw [unhide HX, ht2]; rfl
                    have FF := hide (unhide HE 5 sx 0 ((z : Int) + 1) hfin)
                    have HH := hide (unhide HT 5 sx 0 ((z : Int) + 1))
                    clear hfin
                    go_wp2_with fail
                    exact bodyPost_ret (sres_tok Tryz.results214 _ rfl (unhide HH) rfl) rfl (unhide FF)
                  · have q2 : ((d : Int) != 39) = true := by simp; omega
                    have HR := hide (run_more (unhide HA2) (show nquC (byteAt t z) = true by unfold nquC; rw [hd]; exact decide_eq_true hd39))
                    clear hd hd39
                    go_wp2_with fail
                    exact ⟨⟨z + 1, by go_num, by omega, by omega, unhide HR, trivial⟩, by simp [intOf]; omega⟩
                · have b1 : decide ((z : Int) < (t.size : Int)) = false := decide_eq_false (by omega)
                  have b2 : decide ((z : Int) ≥ (t.size : Int)) = true := decide_eq_true (by omega)
                  have b3 : decide ((t.size : Int) ≤ (z : Int)) = true := decide_eq_true (by omega)
                  have ht2 := unhide HD (.inl (by omega))
                  rw [if_neg hzl] at ht2
                  have hfin : tkV 1 ⟨#[]⟩ 0 0 = lexC t i := by rw [unhide HX, ht2]; rfl
                  have FF := hide (unhide HE 1 ⟨#[]⟩ 0 0 hfin)
                  have HH := hide (unhide HT 1 ⟨#[]⟩ 0 0)
                  clear hfin
                  go_wp2_with fail
                  exact bodyPost_ret (sres_tok Tryz.results214 _ rfl (unhide HH) rfl) rfl (unhide FF)
            · have q1 : ((c : Int) == 39) = false := ne_intO (by omega)
              obtain ⟨b2t, hb2t⟩ : ∃ b, two t j = b := ⟨_, rfl⟩
              have H2 := hide hb2t
              clear hb2t
              go_upto_region 25 with fail
              go_cut [136] from 115 to 136 (fun zv wx => zv = .bool b2t ∧ wx = w1)
              case first =>
                by_cases hv0 : c = 60
                · have hv : c = 60 := hv0
                  have p0 : ((c : Int) == 60) = true := by rw [hv]; rfl
                  by_cases hl1 : j + 1 < t.size
                  · have l1 : decide ((j : Int) + 1 < (t.size : Int)) = true := decide_eq_true (by omega)
                    have l1p : (j : Int) + 1 < (t.size : Int) := by omega
                    obtain ⟨jn, hjn⟩ : ∃ n, j + 1 = n := ⟨_, rfl⟩
                    have jnI : (j : Int) + 1 = (jn : Int) := by omega
                    have jl : jn < t.size := by omega
                    have jlI : (jn : Int) < (t.size : Int) := by omega
                    have hb2 : (t[jn].toNat : Int) = ((byteAt t jn : Nat) : Int) := byteAt_idx t jn jl
                    obtain ⟨d, hd⟩ : ∃ c, byteAt t jn = c := ⟨_, rfl⟩
                    rw [hd] at hb2
                    by_cases hd61 : d = 61
                    · have q2 : ((d : Int) == 61) = true := by rw [hd61]; rfl
                      have r : b2t = true := by rw [← unhide H2]; unfold two twoC; rw [unhide Hc, hjn, hd, hd61]; simp [hv]; omega
                      subst r
                      go_wp2_with fail
                      go_meet
                      exact ⟨rfl, rfl⟩
                    · have q2 : ((d : Int) == 61) = false := ne_intO (by omega)
                      have r : b2t = false := by rw [← unhide H2]; unfold two; rw [hjn, hd, decide_eq_false hd61]; simp
                      subst r
                      go_wp2_with fail
                      go_meet
                      exact ⟨rfl, rfl⟩
                  · have l1 : decide ((j : Int) + 1 < (t.size : Int)) = false := decide_eq_false (by omega)
                    have r : b2t = false := by rw [← unhide H2]; unfold two; rw [decide_eq_false hl1]; simp
                    subst r
                    go_wp2_with fail
                    go_meet
                    exact ⟨rfl, rfl⟩
                have p0 : ((c : Int) == 60) = false := ne_intO (by omega)
                by_cases hv1 : c = 62
                · have hv : c = 62 := hv1
                  have p1 : ((c : Int) == 62) = true := by rw [hv]; rfl
                  by_cases hl1 : j + 1 < t.size
                  · have l1 : decide ((j : Int) + 1 < (t.size : Int)) = true := decide_eq_true (by omega)
                    have l1p : (j : Int) + 1 < (t.size : Int) := by omega
                    obtain ⟨jn, hjn⟩ : ∃ n, j + 1 = n := ⟨_, rfl⟩
                    have jnI : (j : Int) + 1 = (jn : Int) := by omega
                    have jl : jn < t.size := by omega
                    have jlI : (jn : Int) < (t.size : Int) := by omega
                    have hb2 : (t[jn].toNat : Int) = ((byteAt t jn : Nat) : Int) := byteAt_idx t jn jl
                    obtain ⟨d, hd⟩ : ∃ c, byteAt t jn = c := ⟨_, rfl⟩
                    rw [hd] at hb2
                    by_cases hd61 : d = 61
                    · have q2 : ((d : Int) == 61) = true := by rw [hd61]; rfl
                      have r : b2t = true := by rw [← unhide H2]; unfold two twoC; rw [unhide Hc, hjn, hd, hd61]; simp [hv]; omega
                      subst r
                      go_wp2_with fail
                      go_meet
                      exact ⟨rfl, rfl⟩
                    · have q2 : ((d : Int) == 61) = false := ne_intO (by omega)
                      have r : b2t = false := by rw [← unhide H2]; unfold two; rw [hjn, hd, decide_eq_false hd61]; simp
                      subst r
                      go_wp2_with fail
                      go_meet
                      exact ⟨rfl, rfl⟩
                  · have l1 : decide ((j : Int) + 1 < (t.size : Int)) = false := decide_eq_false (by omega)
                    have r : b2t = false := by rw [← unhide H2]; unfold two; rw [decide_eq_false hl1]; simp
                    subst r
                    go_wp2_with fail
                    go_meet
                    exact ⟨rfl, rfl⟩
                have p1 : ((c : Int) == 62) = false := ne_intO (by omega)
                by_cases hv2 : c = 33
                · have hv : c = 33 := hv2
                  have p2 : ((c : Int) == 33) = true := by rw [hv]; rfl
                  by_cases hl1 : j + 1 < t.size
                  · have l1 : decide ((j : Int) + 1 < (t.size : Int)) = true := decide_eq_true (by omega)
                    have l1p : (j : Int) + 1 < (t.size : Int) := by omega
                    obtain ⟨jn, hjn⟩ : ∃ n, j + 1 = n := ⟨_, rfl⟩
                    have jnI : (j : Int) + 1 = (jn : Int) := by omega
                    have jl : jn < t.size := by omega
                    have jlI : (jn : Int) < (t.size : Int) := by omega
                    have hb2 : (t[jn].toNat : Int) = ((byteAt t jn : Nat) : Int) := byteAt_idx t jn jl
                    obtain ⟨d, hd⟩ : ∃ c, byteAt t jn = c := ⟨_, rfl⟩
                    rw [hd] at hb2
                    by_cases hd61 : d = 61
                    · have q2 : ((d : Int) == 61) = true := by rw [hd61]; rfl
                      have r : b2t = true := by rw [← unhide H2]; unfold two twoC; rw [unhide Hc, hjn, hd, hd61]; simp [hv]; omega
                      subst r
                      go_wp2_with fail
                      go_meet
                      exact ⟨rfl, rfl⟩
                    · have q2 : ((d : Int) == 61) = false := ne_intO (by omega)
                      have r : b2t = false := by rw [← unhide H2]; unfold two; rw [hjn, hd, decide_eq_false hd61]; simp
                      subst r
                      go_wp2_with fail
                      go_meet
                      exact ⟨rfl, rfl⟩
                  · have l1 : decide ((j : Int) + 1 < (t.size : Int)) = false := decide_eq_false (by omega)
                    have r : b2t = false := by rw [← unhide H2]; unfold two; rw [decide_eq_false hl1]; simp
                    subst r
                    go_wp2_with fail
                    go_meet
                    exact ⟨rfl, rfl⟩
                have p2 : ((c : Int) == 33) = false := ne_intO (by omega)
                have r : b2t = false := by rw [← unhide H2]; unfold two twoC; rw [unhide Hc, decide_eq_false hv0, decide_eq_false hv1, decide_eq_false hv2]; rfl
                subst r
                go_wp2_with fail
                go_meet
                exact ⟨rfl, rfl⟩
              case rest =>
              obtain ⟨rfl, hw⟩ := hcut
              subst wc
              cases b2t with
              | true =>
                have ht2 : tokA t j = some (.sign (t.extract j (j + 2)), j + 2) := by
                  unfold tokA
                  rw [if_neg (show ¬ letC (byteAt t j) = true by rw [unhide Hl]; decide), if_neg (show ¬ numb t j = true by rw [unhide Hn]; decide), if_neg (show ¬ byteAt t j = 39 by rw [unhide Hc]; exact hc39), if_pos (unhide H2)]
                have jl2 : j + 2 ≤ t.size := by
                  have := unhide H2
                  unfold two at this
                  simp only [Bool.and_eq_true, decide_eq_true_eq] at this
                  omega
                have jl2I : (j : Int) + 2 ≤ (t.size : Int) := by omega
                have jw : (j : Int) + 1 + 1 = (j : Int) + 2 := by omega
                generalize hsx : t.extract j (j + 2) = sx at *
                have hfin : tkV 6 sx 0 ((j : Int) + 2) = lexC t i := by rw [unhide HX, ht2]; rfl
                have FF := hide (unhide HE 6 sx 0 ((j : Int) + 2) hfin)
                have HH := hide (unhide HT 6 sx 0 ((j : Int) + 2))
                clear hfin
                go_wp2_with fail
                exact bodyPost_ret (sres_tok Tryz.results214 _ rfl (unhide HH) rfl) rfl (unhide FF)
              | false =>
                obtain ⟨b1t, hb1t⟩ : ∃ b, oneC c = b := ⟨_, rfl⟩
                have H1 := hide hb1t
                clear hb1t
                go_upto_region 27 with fail
                go_cut [164] from 139 to 164 (fun zv wx => zv = .bool (!b1t) ∧ wx = w1)
                case first =>
                  by_cases hv0 : c = 40
                  · have p0 : ((c : Int) != 40) = false := by rw [hv0]; rfl
                    have r : b1t = true := by rw [← unhide H1]; unfold oneC; rw [hv0]; decide
                    subst r
                    go_wp2_with fail
                    go_meet
                    exact ⟨rfl, rfl⟩
                  have p0 : ((c : Int) != 40) = true := by simp; omega
                  by_cases hv1 : c = 41
                  · have p1 : ((c : Int) != 41) = false := by rw [hv1]; rfl
                    have r : b1t = true := by rw [← unhide H1]; unfold oneC; rw [hv1]; decide
                    subst r
                    go_wp2_with fail
                    go_meet
                    exact ⟨rfl, rfl⟩
                  have p1 : ((c : Int) != 41) = true := by simp; omega
                  by_cases hv2 : c = 44
                  · have p2 : ((c : Int) != 44) = false := by rw [hv2]; rfl
                    have r : b1t = true := by rw [← unhide H1]; unfold oneC; rw [hv2]; decide
                    subst r
                    go_wp2_with fail
                    go_meet
                    exact ⟨rfl, rfl⟩
                  have p2 : ((c : Int) != 44) = true := by simp; omega
                  by_cases hv3 : c = 42
                  · have p3 : ((c : Int) != 42) = false := by rw [hv3]; rfl
                    have r : b1t = true := by rw [← unhide H1]; unfold oneC; rw [hv3]; decide
                    subst r
                    go_wp2_with fail
                    go_meet
                    exact ⟨rfl, rfl⟩
                  have p3 : ((c : Int) != 42) = true := by simp; omega
                  by_cases hv4 : c = 61
                  · have p4 : ((c : Int) != 61) = false := by rw [hv4]; rfl
                    have r : b1t = true := by rw [← unhide H1]; unfold oneC; rw [hv4]; decide
                    subst r
                    go_wp2_with fail
                    go_meet
                    exact ⟨rfl, rfl⟩
                  have p4 : ((c : Int) != 61) = true := by simp; omega
                  by_cases hv5 : c = 60
                  · have p5 : ((c : Int) != 60) = false := by rw [hv5]; rfl
                    have r : b1t = true := by rw [← unhide H1]; unfold oneC; rw [hv5]; decide
                    subst r
                    go_wp2_with fail
                    go_meet
                    exact ⟨rfl, rfl⟩
                  have p5 : ((c : Int) != 60) = true := by simp; omega
                  by_cases hv6 : c = 62
                  · have p6 : ((c : Int) != 62) = false := by rw [hv6]; rfl
                    have r : b1t = true := by rw [← unhide H1]; unfold oneC; rw [hv6]; decide
                    subst r
                    go_wp2_with fail
                    go_meet
                    exact ⟨rfl, rfl⟩
                  have p6 : ((c : Int) != 62) = true := by simp; omega
                  have r : b1t = false := by rw [← unhide H1]; unfold oneC; simp; omega
                  subst r
                  go_wp2_with fail
                  go_meet
                  exact ⟨rfl, rfl⟩
                case rest =>
                obtain ⟨rfl, hw⟩ := hcut
                subst wc
                cases b1t with
                | true =>
                  have ht2 : tokA t j = some (.sign (t.extract j (j + 1)), j + 1) := by
                    unfold tokA
                    rw [if_neg (show ¬ letC (byteAt t j) = true by rw [unhide Hl]; decide), if_neg (show ¬ numb t j = true by rw [unhide Hn]; decide), if_neg (show ¬ byteAt t j = 39 by rw [unhide Hc]; exact hc39), if_neg (show ¬ two t j = true by rw [unhide H2]; decide), if_pos (by rw [unhide Hc]; exact unhide H1)]
                  generalize hsx : t.extract j (j + 1) = sx at *
                  have hfin : tkV 6 sx 0 ((j : Int) + 1) = lexC t i := by rw [unhide HX, ht2]; rfl
                  have FF := hide (unhide HE 6 sx 0 ((j : Int) + 1) hfin)
                  have HH := hide (unhide HT 6 sx 0 ((j : Int) + 1))
                  clear hfin
                  go_wp2_with fail
                  exact bodyPost_ret (sres_tok Tryz.results214 _ rfl (unhide HH) rfl) rfl (unhide FF)
                | false =>
                  have ht2 : tokA t j = none := by
                    unfold tokA
                    rw [if_neg (show ¬ letC (byteAt t j) = true by rw [unhide Hl]; decide), if_neg (show ¬ numb t j = true by rw [unhide Hn]; decide), if_neg (show ¬ byteAt t j = 39 by rw [unhide Hc]; exact hc39), if_neg (show ¬ two t j = true by rw [unhide H2]; decide), if_neg (by rw [unhide Hc, unhide H1]; decide)]
                  have hfin : tkV 1 ⟨#[]⟩ 0 0 = lexC t i := by rw [unhide HX, ht2]; rfl
                  have FF := hide (unhide HE 1 ⟨#[]⟩ 0 0 hfin)
                  have HH := hide (unhide HT 1 ⟨#[]⟩ 0 0)
                  clear hfin
                  go_wp2_with fail
                  exact bodyPost_ret (sres_tok Tryz.results214 _ rfl (unhide HH) rfl) rfl (unhide FF)
    · have a1 : decide ((j : Int) < (t.size : Int)) = false := decide_eq_false (by omega)
      have a2 : decide ((j : Int) ≥ (t.size : Int)) = true := decide_eq_true (by omega)
      have a3 : decide ((t.size : Int) ≤ (j : Int)) = true := decide_eq_true (by omega)
      have hrun := run_stop hij hjs (unhide HA) (.inl (by omega))
      have hfin : tkV 0 ⟨#[]⟩ 0 (j : Int) = lexC t i := by unfold lexC; rw [hrun, if_neg hjl]
      have FF := hide (unhide HE 0 ⟨#[]⟩ 0 (j : Int) hfin)
      have HH := hide (unhide HT 0 ⟨#[]⟩ 0 (j : Int))
      clear hfin
      go_wp2_with fail
      exact bodyPost_ret (sres_tok Tryz.results214 _ rfl (unhide HH) rfl) rfl (unhide FF)
end Go.Proofs.Qxb6500412aGreat
