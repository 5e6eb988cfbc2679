/-
  OWN WORK. TABLE: CreateIndex. (written by tools/gen_eci.py)
-/
import Derived.Test.Qxb6500412aGreatECt
import Derived.Test.Qxb6500412aGreatERg
namespace Go.Proofs.Qxb6500412aGreat
open Go.RowKit Go.PlainAid
set_option linter.unusedSimpArgs false
set_option linter.unusedVariables false

section
variable {q : Gnd} {w : World} {x : Nat} {op : Bool} {S S1 : Vu} {T : List (Tb × Hd)} {t : Tb} {h : Hd}
theorem Lay.c55 (L : Lay S T) (hx : (t, h) ∈ T) (hi : h.idx = none) : (al8 S).length ≤ 55 ∧ (hands T).length < 7 := by
  have h1 := L.cnt
  have h2 := L.clen
  have h3 := hands_less (T := T) hx hi
  have h4 := L.len
  omega
set_option maxRecDepth 100000 in
set_option maxHeartbeats 8000000 in
theorem ecreateI_in (H : ST q w x true S) (L : Lay S T) (hx : (t, h) ∈ T) (col : Int) (Z : Int) (hZ : (cixR t col).2 = Z) (D' : Db) (hD : Z = 0 → putT { t with ix := some col.toNat } (dbOf T) = D') : Calls Tryz.prog 169 #[.pointer (some ⟨x, 0, none⟩), .string t.nm, .int .i64 col] w fun e w' => e = .returned (.int .i64 Z) ∧ DbP q w x S D' Z w' := by
  have CL := hide (eloadTxn_yes H L hx)
  have ok := L.tb _ hx
  have hf := L.hd _ hx
  have hn : h.n = t.cols.length := hf.n
  have epk : h.pk = t.pk := hf.pk
  have eix : h.ix = t.ix := hf.ix
  have HX := hide (And.intro L (And.intro hx (And.intro epk (And.intro ok (And.intro hZ hD)))))
  have HE := hide (And.intro hn eix)
  have H0 := H
  clear L hx ok H hn epk eix hZ hD hf
  go_enter Tryz.func169, Tryz.ntmps169
  go_wp2_with fail
  refine (unhide CL).mono ?_
  rintro e w1 ⟨cv, rfl, hoc, nc, st1, o1⟩
  obtain ⟨ca, cc, rfl⟩ := hoc.shape
  have I2 := OpI.start (t := t) (h := h) o1.size st1 o1 hoc nc
  clear CL hoc nc st1 o1
  unfold hdC scC at I2
  unfold hdC scC
  go_upto_region 4 with fail
  generalize (w1.alloc (.cells #[.int .i64 (h.n : Int), .int .i64 (h.pk : Int), .int .i64 (ixI h.ix), .int .i64 (h.rows : Int), .int .i64 (ixI h.idx)] 275)).alloc (.cells #[.string t.nm, .slice ca t.cols.length cc, .int .i64 (t.pk : Int), .int .i64 (ixI t.ix)] 79) = w2 at *
  generalize w1.heap.size = g at *
  have a0 := I2.ha.cell 0
  have a1 := I2.ha.cell 1
  have a2 := I2.ha.cell 2
  have a3 := I2.ha.cell 3
  have a4 := I2.ha.cell 4
  have b0 := I2.hb.cell 0
  have b1 := I2.hb.cell 1
  have b2 := I2.hb.cell 2
  have b3 := I2.hb.cell 3
  simp [hdC] at a0 a1 a2 a3 a4
  simp [scC] at b0 b1 b2 b3
  rw [(unhide HE).1] at a0
  rw [(unhide HX).2.2.1] at a1
  rw [(unhide HE).2] at a2
  by_cases c1 : col < 0
  · have d1 : decide (col < 0) = true := decide_eq_true c1
    have HF0 := hide (show (14 : Int) = Z from by rw [← (unhide HX).2.2.2.2.1]; unfold cixR; rw [if_pos (.inl c1)])
    have HF := hide (DbP.same (D' := D') (show Z ≠ 0 by rw [← unhide HF0]; decide) I2.st I2.on)
    clear I2
    go_wp2_with fail
    go_ret
    exact ⟨by rw [← unhide HF0]; rfl, unhide HF⟩
  · have d1 : decide (col < 0) = false := decide_eq_false c1
    obtain ⟨c, rfl⟩ : ∃ c : Nat, col = (c : Int) := ⟨col.toNat, by omega⟩
    by_cases c2 : t.cols.length ≤ c
    · have d2 : decide ((c : Int) ≥ (t.cols.length : Int)) = true := decide_eq_true (by omega)
      have d2' : decide ((t.cols.length : Int) ≤ (c : Int)) = true := decide_eq_true (by omega)
      have d2n : decide (t.cols.length ≤ c) = true := decide_eq_true c2
      have HF0 := hide (show (14 : Int) = Z from by rw [← (unhide HX).2.2.2.2.1]; unfold cixR; rw [if_pos (.inr (by omega))])
      have HF := hide (DbP.same (D' := D') (show Z ≠ 0 by rw [← unhide HF0]; decide) I2.st I2.on)
      clear I2
      go_wp2_with fail
      go_ret
      exact ⟨by rw [← unhide HF0]; rfl, unhide HF⟩
    · have d2 : decide ((c : Int) ≥ (t.cols.length : Int)) = false := decide_eq_false (by omega)
      have d2' : decide ((t.cols.length : Int) ≤ (c : Int)) = false := decide_eq_false (by omega)
      have d2n : decide (t.cols.length ≤ c) = false := decide_eq_false c2
      by_cases c3 : c = t.pk
      · have d3 : ((c : Int) == (t.pk : Int)) = true := by rw [c3]; simp
        have d3n : (c == t.pk) = true := by rw [c3]; simp
        have HF0 := hide (show (18 : Int) = Z from by rw [← (unhide HX).2.2.2.2.1]; unfold cixR; rw [if_neg (by omega), if_pos (by rw [c3])])
        have HF := hide (DbP.same (D' := D') (show Z ≠ 0 by rw [← unhide HF0]; decide) I2.st I2.on)
        clear I2 c3 c2 c1
        go_wp2_with fail
        go_ret
        exact ⟨by rw [← unhide HF0]; rfl, unhide HF⟩
      · have d3 : ((c : Int) == (t.pk : Int)) = false := by simp; omega
        have d3n : (c == t.pk) = false := by simpa using c3
        cases hix : t.ix with
        | some cx =>
          rw [hix] at a2
          simp only [ixI] at a2
          have d4 : decide ((cx : Int) ≥ 0) = true := decide_eq_true (by omega)
          have d4' : decide (0 ≤ (cx : Int)) = true := decide_eq_true (by omega)
          have HF0 := hide (show (11 : Int) = Z from by rw [← (unhide HX).2.2.2.2.1]; unfold cixR; rw [if_neg (by omega), if_neg (by omega), hix]; rfl)
          have HF := hide (DbP.same (D' := D') (show Z ≠ 0 by rw [← unhide HF0]; decide) I2.st I2.on)
          clear I2 hix c1 c2 c3
          go_wp2_with fail
          go_ret
          exact ⟨by rw [← unhide HF0]; rfl, unhide HF⟩
        | none =>
          rw [hix] at a2
          simp only [ixI] at a2
          have hidx : h.idx = none := ((unhide HX).1.hd _ (unhide HX).2.1).ok.both.mp ((unhide HE).2.trans hix)
          have HF0 := hide (show (0 : Int) = Z from by rw [← (unhide HX).2.2.2.2.1]; unfold cixR; rw [if_neg (by omega), if_neg (by omega), hix]; rfl)
          obtain ⟨hc55, hh7⟩ := (unhide HX).1.c55 (unhide HX).2.1 hidx
          obtain ⟨i, hlow, hi1, hi8, hi0, hnew⟩ := (unhide HX).1.low hh7
          have HM := hide (show IMid S t i c 0 (updV S i (some [])) from IMid.start hi8 hi0)
          have HB := hide (And.intro hc55 (And.intro hi1 (And.intro hi8 (And.intro hi0 (And.intro (show c < t.cols.length by omega) (And.intro c3 hix))))))
          have CC := hide (ecreate_any I2.st hnew)
          have xc := I2.st.c0
          have HI := hide I2
          clear I2 hc55 hh7 hlow hi0 hnew hi1 hi8 c1 c2 c3 hix hidx
          go_wp2_with fail
          refine (unhide CC).mono ?_
          rintro e w3 ⟨rfl, st3, o3⟩
          have I3 := (unhide HI).go H0 st3 o3
          clear a0 a1 a2 a3 a4 b0 b1 b2 b3 HI CC xc st3 o3 d1 d2 d2' d2n d3 d3n
          have a0 := I3.ha.cell 0
          have a1 := I3.ha.cell 1
          have a2 := I3.ha.cell 2
          have a3 := I3.ha.cell 3
          have a4 := I3.ha.cell 4
          have b0 := I3.hb.cell 0
          have b1 := I3.hb.cell 1
          have b2 := I3.hb.cell 2
          have b3 := I3.hb.cell 3
          simp [hdC] at a0 a1 a2 a3 a4
          simp [scC] at b0 b1 b2 b3
          rw [(unhide HE).1] at a0
          rw [(unhide HX).2.2.1] at a1
          rw [(unhide HE).2] at a2
          have hS3 : updV S i (some []) h.rows = some (rowsL t.pk t.rows) := by rw [updV_ne _ _ (fun e => (unhide HX).1.free (unhide HB).2.2.2.1 (mem_hands.mpr ⟨_, (unhide HX).2.1, by simp [hnd, e]⟩))]; exact (unhide HX).1.rows _ (unhide HX).2.1
          have CA := eall_any I3.st (h.rows : Int)
          rw [Lz_nat ((unhide HX).1.hd _ (unhide HX).2.1).ok.r8 hS3] at CA
          have CA := hide CA
          have HI := hide I3
          have sz3 := I3.on.size
          clear I3 hS3
          go_wp2_with fail
          refine (unhide CA).mono ?_
          rintro e w4 ⟨va, rfl, hva, nva, st4, o4⟩
          have I4 := (unhide HI).go H0 st4 o4
          have hvl : (rowsL t.pk t.rows).length = t.rows.length := by simp [rowsL, kvsOf]
          obtain ⟨la, lc, rfl⟩ : ∃ a c, va = .slice a t.rows.length c := by obtain ⟨a, c, e⟩ := ownsRow_shape hva; exact ⟨a, c, by rw [e]; show Value.slice a (rowsL t.pk t.rows).length c = _; rw [hvl]⟩
          have HVA := hide (show OwnE w4 (.slice la t.rows.length lc) (rowsL t.pk t.rows) ∧ (∀ k, (Value.slice la t.rows.length lc).ownBlock = some k → ¬ q.S k) from ⟨hva, fun k hk => H0.new (Nat.le_trans sz3 (nva k hk))⟩)
          have HI4 := hide I4
          have r8 : t.rows.length ≤ 8 := (unhide HX).2.2.2.1.len
          clear a0 a1 a2 a3 a4 b0 b1 b2 b3 HI CA st4 o4 nva hva hvl I4 sz3
          go_upto_region 13 with fail
          go_loopw [9, 12, 13, 14, 15, 16] (fun ev iv rv okv kv gv wr => ∃ (n : Nat) (R : Vu), ev = .int .i64 0 ∧ iv = .int .i64 n ∧ n ≤ t.rows.length ∧ IMid S t i c n R ∧ OpI q w x true R t h g (g + 1) (.slice ca t.cols.length cc) wr ∧ OwnE wr (.slice la t.rows.length lc) (rowsL t.pk t.rows)) (fun _ iv _ _ _ _ _ => t.rows.length - (intOf iv).toNat)
          case atStart => exact ⟨0, _, rfl, rfl, Nat.zero_le _, unhide HM, unhide HI4, (unhide HVA).1⟩
          case round =>
            clear HI4 HM
            obtain ⟨n, R, rfl, rfl, hn, M, I, E⟩ := hrel
            by_cases hn2 : n < t.rows.length
            · have a1 : decide ((n : Int) < (t.rows.length : Int)) = true := decide_eq_true (by omega)
              have a1p : (n : Int) < (t.rows.length : Int) := by omega
              obtain ⟨r, hr⟩ := getE hn2
              have hre : (rowsL t.pk t.rows)[n]? = some (pkK t.pk r, restP r t.pk) := by unfold rowsL kvsOf; rw [List.getElem?_map, hr]; rfl
              obtain ⟨rl, lc2, hle, e0, e1⟩ := E.at_ hre
              have hvl : (rowsL t.pk t.rows).length = t.rows.length := by simp [rowsL, kvsOf]
              rw [hvl] at hle
              simp only [Value.slice.injEq] at hle
              obtain ⟨rfl, _, rfl⟩ := hle
              have hrok := (unhide HX).2.2.2.1.row r (List.mem_of_getElem? hr)
              obtain ⟨R3, hp3, M3⟩ := M.step hr (unhide HB).2.2.1 (unhide HB).1 (by omega)
              have CR := hide (erowOf_any (I.oc.keep (Only.refl (fun _ => False) wr).drew (fun _ _ e => e)) hrok (unhide HX).2.2.2.1.n3 (unhide HX).2.2.2.1.pkn t.nm (ixI t.ix))
              have HI := hide (And.intro I E)
              have HM3 := hide (And.intro hp3 M3)
              have HSB := hide I.hb
              have HRO := hide hrok
              clear M hp3 M3 hre hvl hr hrok I E
              generalize pkK t.pk r = KK at *
              generalize restP r t.pk = VV at *
              go_upto_region 15 with fail
              go_cut [13, 14] (fun rv okv wx => okv = .bool true ∧ OwnV wx rv r ∧ (∀ k, rv.ownBlock = some k → w.heap.size ≤ k) ∧ OpI q w x true R t h g (g + 1) (.slice ca t.cols.length cc) wx ∧ OwnE wx (.slice (some ⟨rl, 0, none⟩) t.rows.length lc) (rowsL t.pk t.rows))
              case first =>
                refine wp_region_held_drew (S := (fun w' => Has w' (g + 1) (scC t.nm (.slice ca t.cols.length cc) (t.pk : Int) (ixI t.ix)) 79 ∧ w'.cell? ⟨rl, n * 2, none⟩ = some (.string KK) ∧ w'.cell? ⟨rl, n * 2 + 1, none⟩ = some (.string VV))) (by kernel_rfl) ⟨(unhide HSB).drew, e0, e1⟩ (fun hH0 => ?_)
                refine takeH 0 64 rfl rfl (by kernel_rfl) (by kernel_rfl) (by kernel_rfl) (fun _ _ _ h => h) (yieldsIf_load_sch (by rfl) _ rfl (g + 1) rfl (scC t.nm (.slice ca t.cols.length cc) (t.pk : Int) (ixI t.ix)) rfl (fun _ h => h.1)) hH0 ?rd1
                case rd1 =>
                try simp only [Act.put, List.setIfInBounds_toArray, List.set_cons_zero, List.set_cons_succ]
                refine takeH 1 65 (v := ?vd2) rfl rfl (by kernel_rfl) (by kernel_rfl) (by kernel_rfl) (fun _ _ _ h => h) (Or.inl ⟨by rfl, ?hd2⟩) hH0 ?rd2
                case hd2 => (intro w hSw; clear hSw; go_simp; (try with_reducible rfl))
                case rd2 =>
                try simp only [Act.put, List.setIfInBounds_toArray, List.set_cons_zero, List.set_cons_succ]
                refine takeH 2 66 (v := ?vd3) rfl rfl (by kernel_rfl) (by kernel_rfl) (by kernel_rfl) (fun _ _ _ h => h) (Or.inl ⟨by rfl, ?hd3⟩) hH0 ?rd3
                case hd3 => (intro w hSw; clear hSw; go_simp; (try with_reducible rfl))
                case rd3 =>
                try simp only [Act.put, List.setIfInBounds_toArray, List.set_cons_zero, List.set_cons_succ]
                refine takeH 3 67 (v := ?vd4) rfl rfl (by kernel_rfl) (by kernel_rfl) (by kernel_rfl) (fun _ _ _ h => h) (Or.inl ⟨by rfl, ?hd4⟩) hH0 ?rd4
                case hd4 => (intro w hSw; clear hSw; go_simp; (try with_reducible rfl))
                case rd4 =>
                try simp only [Act.put, List.setIfInBounds_toArray, List.set_cons_zero, List.set_cons_succ]
                refine takeH 4 68 (v := ?vd5) rfl rfl (by kernel_rfl) (by kernel_rfl) (by kernel_rfl) (fun _ _ _ h => h) (Or.inl ⟨by rfl, ?hd5⟩) hH0 ?rd5
                case hd5 => (intro w hSw; clear hSw; go_simp; (try with_reducible rfl))
                case rd5 =>
                try simp only [Act.put, List.setIfInBounds_toArray, List.set_cons_zero, List.set_cons_succ]
                refine takeH 5 69 (v := ?vd6) rfl rfl (by kernel_rfl) (by kernel_rfl) (by kernel_rfl) (fun _ _ _ h => h) (Or.inl ⟨by rfl, ?hd6⟩) hH0 ?rd6
                case hd6 => (intro w hSw; have q1 := hSw.2.1; clear hSw; go_simp; (try with_reducible rfl))
                case rd6 =>
                try simp only [Act.put, List.setIfInBounds_toArray, List.set_cons_zero, List.set_cons_succ]
                refine takeH 6 70 (v := ?vd7) rfl rfl (by kernel_rfl) (by kernel_rfl) (by kernel_rfl) (fun _ _ _ h => h) (Or.inl ⟨by rfl, ?hd7⟩) hH0 ?rd7
                case hd7 => (intro w hSw; clear hSw; go_simp; (try with_reducible rfl))
                case rd7 =>
                try simp only [Act.put, List.setIfInBounds_toArray, List.set_cons_zero, List.set_cons_succ]
                refine takeH 7 71 (v := ?vd8) rfl rfl (by kernel_rfl) (by kernel_rfl) (by kernel_rfl) (fun _ _ _ h => h) (Or.inl ⟨by rfl, ?hd8⟩) hH0 ?rd8
                case hd8 => (intro w hSw; clear hSw; go_simp; (try with_reducible rfl))
                case rd8 =>
                try simp only [Act.put, List.setIfInBounds_toArray, List.set_cons_zero, List.set_cons_succ]
                refine takeH 8 72 (v := ?vd9) rfl rfl (by kernel_rfl) (by kernel_rfl) (by kernel_rfl) (fun _ _ _ h => h) (Or.inl ⟨by rfl, ?hd9⟩) hH0 ?rd9
                case hd9 => (intro w hSw; clear hSw; go_simp; (try with_reducible rfl))
                case rd9 =>
                try simp only [Act.put, List.setIfInBounds_toArray, List.set_cons_zero, List.set_cons_succ]
                refine takeH 9 73 (v := ?vd10) rfl rfl (by kernel_rfl) (by kernel_rfl) (by kernel_rfl) (fun _ _ _ h => h) (Or.inl ⟨by rfl, ?hd10⟩) hH0 ?rd10
                case hd10 => (intro w hSw; clear hSw; go_simp; (try with_reducible rfl))
                case rd10 =>
                try simp only [Act.put, List.setIfInBounds_toArray, List.set_cons_zero, List.set_cons_succ]
                refine takeH 10 74 (v := ?vd11) rfl rfl (by kernel_rfl) (by kernel_rfl) (by kernel_rfl) (fun _ _ _ h => h) (Or.inl ⟨by rfl, ?hd11⟩) hH0 ?rd11
                case hd11 => (intro w hSw; have q1 := hSw.2.2; clear hSw; go_simp; (try with_reducible rfl))
                case rd11 =>
                try simp only [Act.put, List.setIfInBounds_toArray, List.set_cons_zero, List.set_cons_succ]
                refine callH 11 (by kernel_rfl) rfl 75 rfl rfl 243 Tryz.func243 (by kernel_rfl) (by kernel_rfl) #[.tmp 64, .tmp 69, .tmp 74] #[79, 9, 9] rfl #[.agg (scC t.nm (.slice ca t.cols.length cc) (t.pk : Int) (ixI t.ix)), .string KK, .string VV] (by simp [Act.eval]) (R := fun v w' => ∃ rv, v = .tuple #[rv, .bool true] ∧ OwnV w' rv r ∧ Newer wr.drew rv ∧ Only (fun _ => False) wr.drew w') ((unhide CR).mono (by rintro en w' ⟨v, rfl, hv, nv, o⟩; exact ⟨_, rfl, v, rfl, hv, nv, o⟩)) ?kcs
                case kcs =>
                rintro _ w6 ⟨rv, rfl, hv6, nv6, o6⟩
                have S6 : Has w6 (g + 1) (scC t.nm (.slice ca t.cols.length cc) (t.pk : Int) (ixI t.ix)) 79 ∧ w6.cell? ⟨rl, n * 2, none⟩ = some (.string KK) ∧ w6.cell? ⟨rl, n * 2 + 1, none⟩ = some (.string VV) := ⟨hH0.1.keep o6 (fun e => e), o6.cellF hH0.2.1, o6.cellF hH0.2.2⟩
                refine ⟨S6, ?_⟩
                try simp only [Act.put, List.setIfInBounds_toArray, List.set_cons_zero, List.set_cons_succ]
                refine takeH 12 63 (v := ?ve1) rfl rfl (by kernel_rfl) (by kernel_rfl) (by kernel_rfl) (fun _ _ _ h => h) (Or.inl ⟨by rfl, ?he1⟩) S6 ?re1
                case he1 => (intro w hSw; clear hSw; go_simp; (try with_reducible rfl))
                case re1 =>
                try simp only [Act.put, List.setIfInBounds_toArray, List.set_cons_zero, List.set_cons_succ]
                refine takeH 13 76 (v := ?ve2) rfl rfl (by kernel_rfl) (by kernel_rfl) (by kernel_rfl) (fun _ _ _ h => h) (Or.inl ⟨by rfl, ?he2⟩) S6 ?re2
                case he2 => (intro w hSw; clear hSw; go_simp; (try with_reducible rfl))
                case re2 =>
                try simp only [Act.put, List.setIfInBounds_toArray, List.set_cons_zero, List.set_cons_succ]
                refine takeH 14 77 (v := ?ve3) rfl rfl (by kernel_rfl) (by kernel_rfl) (by kernel_rfl) (fun _ _ _ h => h) (Or.inl ⟨by rfl, ?he3⟩) S6 ?re3
                case he3 => (intro w hSw; clear hSw; go_simp; (try with_reducible rfl))
                case re3 =>
                try simp only [Act.put, List.setIfInBounds_toArray, List.set_cons_zero, List.set_cons_succ]
                refine takeH 15 13 (v := ?ve4) rfl rfl (by kernel_rfl) (by kernel_rfl) (by kernel_rfl) (fun _ _ _ h => h) (Or.inl ⟨by rfl, ?he4⟩) S6 ?re4
                case he4 => (intro w hSw; clear hSw; go_simp; (try with_reducible rfl))
                case re4 =>
                try simp only [Act.put, List.setIfInBounds_toArray, List.set_cons_zero, List.set_cons_succ]
                refine takeH 16 14 (v := ?ve5) rfl rfl (by kernel_rfl) (by kernel_rfl) (by kernel_rfl) (fun _ _ _ h => h) (Or.inl ⟨by rfl, ?he5⟩) S6 ?re5
                case he5 => (intro w hSw; clear hSw; go_simp; (try with_reducible rfl))
                case re5 =>
                try simp only [Act.put, List.setIfInBounds_toArray, List.set_cons_zero, List.set_cons_succ]
                refine wpAnyH_done (by kernel_rfl) ?_ _
                have oD : Only (fun _ => False) wr w6 := (Only.refl _ wr).drew.trans o6 (fun _ _ e => e)
                have HF := hide (show OwnV w6 rv r ∧ (∀ k, rv.ownBlock = some k → w.heap.size ≤ k) ∧ OpI q w x true R t h g (g + 1) (.slice ca t.cols.length cc) w6 ∧ OwnE w6 (.slice (some ⟨rl, 0, none⟩) t.rows.length lc) (rowsL t.pk t.rows) from ⟨hv6, fun k hk => Nat.le_trans (unhide HI).1.on.size (nv6 k hk), (unhide HI).1.quiet oD, (unhide HI).2.keep oD (fun _ _ e => e)⟩)
                clear hv6 nv6 o6 oD S6 hH0 CR
                go_wp2_with fail
                go_meet
                exact ⟨rfl, unhide HF⟩
              case rest =>
              obtain ⟨rfl, hv7, nv7, I7, E7⟩ := hcut
              skip
              generalize wc = w7 at *
              obtain ⟨va7, vc7, hve7⟩ := hv7.shape
              subst hve7
              have CX := eidxKey_any hv7 (by rw [(unhide HRO).len]; have := (unhide HX).2.2.2.1.n3; omega) (col := c) (pk := h.pk) (by rw [(unhide HRO).len]; exact (unhide HB).2.2.2.2.1) (by rw [(unhide HRO).len, (unhide HX).2.2.1]; exact (unhide HX).2.2.2.1.pkn) (unhide HRO).2
              rw [show idxK r c h.pk = idxK r c t.pk from by rw [(unhide HX).2.2.1]] at CX
              have CX := hide CX
              have a1x := I7.ha.cell 1
              simp [hdC] at a1x
              have HI7 := hide (And.intro I7 E7)
              clear hv7 nv7 I7 E7 HI CR e0 e1 HSB
              go_wp2_with fail
              refine (unhide CX).mono ?_
              rintro e w8 ⟨rfl, o8⟩
              have I8 := (unhide HI7).1.quiet o8
              have E8 := (unhide HI7).2.keep o8 (fun _ _ e => e)
              have CP := hide (eput_any I8.st (unhide HM3).1)
              have xc := I8.st.c0
              have HI8 := hide (And.intro I8 E8)
              generalize idxK r c t.pk = KX at *
              clear I8 E8 o8 CX HI7 a1x
              go_wp2_with fail
              refine (unhide CP).mono ?_
              rintro e w9 ⟨rfl, st9, o9⟩
              have I9 := (unhide HI8).1.go H0 st9 o9
              have E9 := (unhide HI8).2.keep o9 (unhide HVA).2
              have HI9 := hide (And.intro I9 E9)
              have CFo := hide (efold_ok w9)
              clear I9 E9 st9 o9 CP xc HI8
              go_wp2_with fail
              refine (unhide CFo).mono ?_
              rintro e wf ⟨rfl, rfl⟩
              clear CFo
              go_wp2_with fail
              go_roundw
              case rel => exact ⟨n + 1, R3, rfl, by go_num, by omega, (unhide HM3).2, (unhide HI9).1, (unhide HI9).2⟩
              case measure => simp [intOf]; omega
            · obtain rfl : n = t.rows.length := by omega
              have a1 : decide ((t.rows.length : Int) < (t.rows.length : Int)) = false := by simp
              obtain ⟨hpz, hlz, hokz⟩ := IMid.done M (unhide HX).1 (unhide HX).2.1 (unhide HB).2.2.2.1 (unhide HB).2.1 (unhide HB).2.2.1 (unhide HB).2.2.2.2.1 (unhide HB).2.2.2.2.2.1 (unhide HB).2.2.2.2.2.2
              have HZZ := hide (And.intro hpz (And.intro hlz hokz))
              have u2 := I.ha.cell 2
              have u4 := I.ha.cell 4
              have f2 := I.ha.free 2
              have f4 := I.ha.free 4
              simp [hdC] at u2 u4
              have AZ := (I.ha.setCell 2 (.int .i64 (c : Int))).setCell 4 (.int .i64 (i : Int))
              have oz : Only (fun k => k = g) wr ((wr.setCell ⟨g, 2, none⟩ (.int .i64 (c : Int))).setCell ⟨g, 4, none⟩ (.int .i64 (i : Int))) := (only1 _ _).trans (only1 _ _) (fun _ _ h => h)
              have gl := I.al
              have hA := H0.fv.Alt
              have hxl := H0.has.lt
              have SZ := I.st.keep oz (fun k hk e => by
                rcases hk with d | d
                · have := hA k d; omega
                · omega)
              have OZ : Only q.S w ((wr.setCell ⟨g, 2, none⟩ (.int .i64 (c : Int))).setCell ⟨g, 4, none⟩ (.int .i64 (i : Int))) := I.on.trans oz (fun k hk e => by omega)
              have HSZ := hide (And.intro AZ (And.intro SZ OZ))
              have CK := hide (ecatKey_any t.nm 0 (unhide HX).2.2.2.1.nm.2 (by omega) ((wr.setCell ⟨g, 2, none⟩ (.int .i64 (c : Int))).setCell ⟨g, 4, none⟩ (.int .i64 (i : Int))))
              clear M I E hpz hlz hokz AZ oz gl hA hxl SZ OZ
              go_wp2_with fail
              refine (unhide CK).mono ?_
              rintro e w5 ⟨rfl, o5⟩
              obtain ⟨AZ, SZ, OZ⟩ := unhide HSZ
              have AZ := AZ.keep o5 (fun e => e)
              have SZ := SZ.quiet o5
              have OZ := OZ.andS o5
              have CH := eheadText_any { h with ix := some c, idx := some i } (unhide HZZ).2.2 w5
              unfold hdA at CH
              simp only [ixI] at CH
              have CH := hide CH
              have z0 := AZ.cell 0
              have z1 := AZ.cell 1
              have z2 := AZ.cell 2
              have z3 := AZ.cell 3
              have z4 := AZ.cell 4
              simp [hdC] at z0 z1 z2 z3 z4
              have HS5 := hide (And.intro SZ OZ)
              clear AZ SZ OZ HSZ o5 CK u2 u4 f2 f4
              generalize catK t.nm 0 = K0 at *
              go_wp2_with fail
              refine (unhide CH).mono ?_
              rintro e w6 ⟨rfl, o6⟩
              have S6 := (unhide HS5).1.quiet o6
              have O6 := (unhide HS5).2.andS o6
              have CP := hide (eput_any S6 (unhide HZZ).1)
              have xc := S6.c0
              have HS6 := hide (And.intro S6 O6)
              clear S6 O6 o6 CH HS5 z0 z1 z2 z3 z4
              go_wp2_with fail
              refine (unhide CP).mono ?_
              rintro e w7 ⟨rfl, st7, o7⟩
              have HF := hide (show DbP q w x S D' Z w7 from DbP.turn (unhide HF0).symm st7 (unhide HZZ).2.1 (by rw [db_put]; exact (unhide HX).2.2.2.2.2 (unhide HF0).symm) ((unhide HS6).2.ss o7))
              have CFo := hide (efold_ok w7)
              clear st7 o7 CP xc HS6
              go_wp2_with fail
              refine (unhide CFo).mono ?_
              rintro e wf ⟨rfl, rfl⟩
              clear CFo
              go_wp2_with fail
              go_ret
              exact ⟨by rw [← unhide HF0]; rfl, unhide HF⟩
end
end Go.Proofs.Qxb6500412aGreat
