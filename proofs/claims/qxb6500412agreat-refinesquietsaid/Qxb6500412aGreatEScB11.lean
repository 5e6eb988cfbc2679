/-
  OWN WORK. TABLE: Scan. (written by tools/gen_escn.py)
-/
import Derived.Test.Qxb6500412aGreatERr
import Derived.Test.Qxb6500412aGreatELk
namespace Go.Proofs.Qxb6500412aGreat
open Go.RowKit Go.PlainAid
set_option linter.unusedSimpArgs false
set_option linter.unusedVariables false

section
variable {q : Gnd} {w : World} {x : Nat} {op : Bool} {S S1 : Vu} {T : List (Tb × Hd)} {t : Tb} {h : Hd}
set_option maxRecDepth 100000 in
set_option maxHeartbeats 16000000 in
theorem escan_B11 (H : ST q w x op S) (L : Lay S T) (hx : (t, h) ∈ T) (c : Nat) (lv hv : Vl) (hlw : lv.wf) (hhw : hv.wf) (cl : Cl) (hcl : t.cols[c]? = some cl) (hcp : c ≠ t.pk) (hcx : t.ix = some c) (Z : Int) (hZ : scnE t (c : Int) (bndOf true lv) (bndOf true hv) = Z) (RR : List (List Vl)) (hRR : (if scnE t (c : Int) (bndOf true lv) (bndOf true hv) = 0 then scnL t ((c : Int)).toNat (bndOf true lv) (bndOf true hv) else []) = RR) : Calls Tryz.prog 175 #[.pointer (some ⟨x, 0, none⟩), .string t.nm, .int .i64 (c : Int), bdA true lv, bdA true hv] w fun e w' => ∃ v, e = .returned (.tuple #[v, .int .i64 Z]) ∧ OwnRR w.heap.size w' v RR ∧ ST q w' x op S ∧ Only q.S w w' := by
  have o0 : Only (fun _ => False) w ((w.alloc (.cells #[.bool true, .bool lv.str, .int .i64 lv.i, .string lv.s] 244)).alloc (.cells #[.bool true, .bool hv.str, .int .i64 hv.i, .string hv.s] 244)) := ((Only.refl _ w).alloc _).alloc _
  have KL : Has ((w.alloc (.cells #[.bool true, .bool lv.str, .int .i64 lv.i, .string lv.s] 244)).alloc (.cells #[.bool true, .bool hv.str, .int .i64 hv.i, .string hv.s] 244)) w.heap.size #[.bool true, .bool lv.str, .int .i64 lv.i, .string lv.s] 244 := (Has.new w _ _).alloc _
  have KH : Has ((w.alloc (.cells #[.bool true, .bool lv.str, .int .i64 lv.i, .string lv.s] 244)).alloc (.cells #[.bool true, .bool hv.str, .int .i64 hv.i, .string hv.s] 244)) (w.heap.size + 1) #[.bool true, .bool hv.str, .int .i64 hv.i, .string hv.s] 244 := Has.new' _ _ _ _ (by simp)
  have H0 := H.quiet o0
  have CL := hide (eload_yes H0 L hx)
  have ok := L.tb _ hx
  have hf := L.hd _ hx
  have hn : h.n = t.cols.length := hf.n
  have epk : h.pk = t.pk := hf.pk
  have eix : h.ix = t.ix := hf.ix
  have HX := hide (And.intro L (And.intro hx (And.intro epk (And.intro ok (And.intro hZ hRR)))))
  have HE := hide (And.intro hn eix)
  have hcn := (List.getElem?_eq_some_iff.mp hcl).1
  have HCL := hide (And.intro hcl (And.intro hcp (And.intro hlw hhw)))
  obtain ⟨ib, hib⟩ : ∃ ib, h.idx = some ib := by
    cases e : h.idx with
    | none => have := hf.ok.both.mpr e; rw [eix, hcx] at this; cases this
    | some ib => exact ⟨ib, rfl⟩
  have hi8 : ib < 8 := (hf.ok.idx ib hib).2.1
  have HLz := hide (show Lz S (ib : Int) = scnT t c from by rw [Lz_nat hi8 (L.idx _ hx c ib hcx hib)]; unfold scnT; rw [if_neg hcp])
  have HIX := hide hcx
  have HIB := hide hib
  clear hib hi8
  clear L hx ok hn epk eix hZ hRR hf hcl hcp hlw hhw hcx
  unfold bdA
  go_enter Tryz.func175, Tryz.ntmps175
  go_upto_region 1 with fail
  generalize (w.alloc (.cells #[.bool true, .bool lv.str, .int .i64 lv.i, .string lv.s] 244)).alloc (.cells #[.bool true, .bool hv.str, .int .i64 hv.i, .string hv.s] 244) = w0 at *
  go_wp2_with fail
  refine (unhide CL).mono ?_
  rintro e w1 ⟨cv, rfl, hoc, nc, st1, o1⟩
  obtain ⟨ca, cc, rfl⟩ := hoc.shape
  have KL1 := KL.keep o1 (H.new (Nat.le_refl _))
  have KH1 := KH.keep o1 (H.new (by omega))
  have I2 := OpI.start (t := t) (h := h) o1.size st1 o1 hoc nc
  have oB : Only (fun _ => False) w1 ((w1.alloc (.cells (hdC h) 275)).alloc (.cells (scC t.nm (.slice ca t.cols.length cc) (t.pk : Int) (ixI t.ix)) 79)) := ((Only.refl _ w1).alloc _).alloc _
  have KL2 := KL1.keep oB (fun e => e)
  have KH2 := KH1.keep oB (fun e => e)
  clear CL hoc nc st1 o1 oB KL1 KH1 KL KH
  unfold hdC scC at I2 KL2 KH2
  unfold hdC scC
  go_upto_region 4 with fail
  generalize (w1.alloc (.cells #[.int .i64 (h.n : Int), .int .i64 (h.pk : Int), .int .i64 (ixI h.ix), .int .i64 (h.rows : Int), .int .i64 (ixI h.idx)] 275)).alloc (.cells #[.string t.nm, .slice ca t.cols.length cc, .int .i64 (t.pk : Int), .int .i64 (ixI t.ix)] 79) = w2 at *
  generalize w1.heap.size = g at *
  have a0 := I2.ha.cell 0
  have a1 := I2.ha.cell 1
  have a2 := I2.ha.cell 2
  have a3 := I2.ha.cell 3
  have a4 := I2.ha.cell 4
  have b0 := I2.hb.cell 0
  have b1 := I2.hb.cell 1
  have b2 := I2.hb.cell 2
  have b3 := I2.hb.cell 3
  simp [hdC] at a0 a1 a2 a3 a4
  simp [scC] at b0 b1 b2 b3
  rw [(unhide HE).1] at a0
  rw [(unhide HX).2.2.1] at a1
  rw [(unhide HE).2] at a2
  rw [unhide HIX] at a2
  rw [unhide HIB] at a4
  simp only [ixI] at a2 a4
  have l0 := KL2.cell 0
  have m0 := KH2.cell 0
  have l1 := KL2.cell 1
  have m1 := KH2.cell 1
  have l2 := KL2.cell 2
  have m2 := KH2.cell 2
  have l3 := KL2.cell 3
  have m3 := KH2.cell 3
  simp at l0 l1 l2 l3 m0 m1 m2 m3
  have d1 : decide ((c : Int) < 0) = false := decide_eq_false (by omega)
  have d2 : decide ((c : Int) ≥ (t.cols.length : Int)) = false := decide_eq_false (by omega)
  have d2' : decide ((t.cols.length : Int) ≤ (c : Int)) = false := decide_eq_false (by omega)
  have d2n : decide (t.cols.length ≤ c) = false := decide_eq_false (by omega)
  have d3 : ((c : Int) != (t.pk : Int)) = true := by have := (unhide HCL).2.1; simp; omega
  have d3n : (c != t.pk) = true := by simpa using (unhide HCL).2.1
  have d4 : ((c : Int) != (c : Int)) = false := by simp
  have d0p : (c : Int) < (t.cols.length : Int) := by omega
  have hoc := I2.oc
  obtain ⟨gc, cc2, hce, q0, q1⟩ := getc_at hoc (unhide HCL).1
  simp only [Value.slice.injEq] at hce
  obtain ⟨rfl, _, rfl⟩ := hce
  clear hoc
  by_cases tl : lv.str = cl.2
  · have el : (lv.str != cl.2) = false := by rw [tl]; simp
    have el' : (!(lv.str == cl.2)) = false := by rw [tl]; simp
    by_cases th : hv.str = cl.2
    · have eh : (hv.str != cl.2) = false := by rw [th]; simp
      have eh' : (!(hv.str == cl.2)) = false := by rw [th]; simp
      by_cases sl : lv.s.size ≤ 7
      · have rl : decide ((lv.s.size : Int) > 7) = false := decide_eq_false (by omega)
        have rl' : decide (7 < (lv.s.size : Int)) = false := decide_eq_false (by omega)
        have rln : decide (7 < lv.s.size) = false := decide_eq_false (by omega)
        by_cases sh : hv.s.size ≤ 7
        · have rh : decide ((hv.s.size : Int) > 7) = false := decide_eq_false (by omega)
          have rh' : decide (7 < (hv.s.size : Int)) = false := decide_eq_false (by omega)
          have rhn : decide (7 < hv.s.size) = false := decide_eq_false (by omega)
          have hE : scnE t (c : Int) (bndOf true lv) (bndOf true hv) = 0 := by unfold scnE bndOf; rw [if_neg (by have := hcn; omega), if_neg (by rw [unhide HIX]; simp [ixI]), Int.toNat_natCast, (unhide HCL).1]; simp only [Option.getD_some]; simp [bndT, bndS, tl, sl, th, sh]
          have HF0 := hide (show (0 : Int) = Z ∧ scnL t c (bndOf true lv) (bndOf true hv) = RR from ⟨by rw [← (unhide HX).2.2.2.2.1, hE], by rw [← (unhide HX).2.2.2.2.2, if_pos hE, Int.toNat_natCast]⟩)
          have HSP := hide (scan_hits (unhide HX).2.2.2.1 (unhide HCL).1 (lo := (bndOf true lv)) (hi := (bndOf true hv)) (fun v e => by unfold bndOf at e; simp at e; subst e; exact ⟨⟨(unhide HCL).2.2.1, sl⟩, tl⟩) (fun v e => by unfold bndOf at e; simp at e; subst e; exact ⟨⟨(unhide HCL).2.2.2, sh⟩, th⟩))
          have CKL := hide (fun w => ecodeVal_any lv ⟨(unhide HCL).2.2.1, sl⟩ w)
          have CKH := hide (fun w => ecodeVal_any hv ⟨(unhide HCL).2.2.2, sh⟩ w)
          have HI := hide (And.intro I2 (And.intro KL2 KH2))
          clear I2 KL2 KH2 hE tl sl th sh
          go_upto_region 8 with fail
          go_cut [79] (fun zv wx => zv = .bool false ∧ Only (fun _ => False) w2 wx)
          case first =>
            go_quiet (fail)
            go_wp2_with fail
            go_meet
            exact ⟨rfl, onlyQ _ _⟩
          case rest =>
          obtain ⟨rfl, o3⟩ := hcut
          generalize wc = w3 at *
          have I3 := (unhide HI).1.quiet o3
          have KL3 := (unhide HI).2.1.keep o3 (fun e => e)
          have KH3 := (unhide HI).2.2.keep o3 (fun e => e)
          clear a0 a1 a2 a3 a4 b0 b1 b2 b3 HI o3 l0 l1 l2 l3 m0 m1 m2 m3 q0 q1 d1 d2 d2' d2n d4 el el' eh eh'
          have a0 := I3.ha.cell 0
          have a1 := I3.ha.cell 1
          have a2 := I3.ha.cell 2
          have a3 := I3.ha.cell 3
          have a4 := I3.ha.cell 4
          have b0 := I3.hb.cell 0
          have b1 := I3.hb.cell 1
          have b2 := I3.hb.cell 2
          have b3 := I3.hb.cell 3
          simp [hdC] at a0 a1 a2 a3 a4
          simp [scC] at b0 b1 b2 b3
          rw [(unhide HE).1] at a0
          rw [(unhide HX).2.2.1] at a1
          rw [(unhide HE).2] at a2
          rw [unhide HIX] at a2
          rw [unhide HIB] at a4
          simp only [ixI] at a2 a4
          have l0 := KL3.cell 0
          have m0 := KH3.cell 0
          have l1 := KL3.cell 1
          have m1 := KH3.cell 1
          have l2 := KL3.cell 2
          have m2 := KH3.cell 2
          have l3 := KL3.cell 3
          have m3 := KH3.cell 3
          simp at l0 l1 l2 l3 m0 m1 m2 m3
          have CK := unhide CKL w3
          unfold vlA at CK
          have CK := hide CK
          have HI := hide (And.intro I3 (And.intro KL3 KH3))
          clear I3 KL3 KH3
          go_wp2_with fail
          refine (unhide CK).mono ?_
          rintro e w4 ⟨rfl, o4⟩
          have I4 := (unhide HI).1.quiet o4
          have KL4 := (unhide HI).2.1.keep o4 (fun e => e)
          have KH4 := (unhide HI).2.2.keep o4 (fun e => e)
          clear a0 a1 a2 a3 a4 b0 b1 b2 b3 HI CK o4 l0 l1 l2 l3 m0 m1 m2 m3
          have a0 := I4.ha.cell 0
          have a1 := I4.ha.cell 1
          have a2 := I4.ha.cell 2
          have a3 := I4.ha.cell 3
          have a4 := I4.ha.cell 4
          have b0 := I4.hb.cell 0
          have b1 := I4.hb.cell 1
          have b2 := I4.hb.cell 2
          have b3 := I4.hb.cell 3
          simp [hdC] at a0 a1 a2 a3 a4
          simp [scC] at b0 b1 b2 b3
          rw [(unhide HE).1] at a0
          rw [(unhide HX).2.2.1] at a1
          rw [(unhide HE).2] at a2
          rw [unhide HIX] at a2
          rw [unhide HIB] at a4
          simp only [ixI] at a2 a4
          have l0 := KL4.cell 0
          have m0 := KH4.cell 0
          have l1 := KL4.cell 1
          have m1 := KH4.cell 1
          have l2 := KL4.cell 2
          have m2 := KH4.cell 2
          have l3 := KL4.cell 3
          have m3 := KH4.cell 3
          simp at l0 l1 l2 l3 m0 m1 m2 m3
          have CK := unhide CKH w4
          unfold vlA at CK
          have CK := hide CK
          have HI := hide (And.intro I4 (And.intro KL4 KH4))
          clear I4 KL4 KH4
          go_wp2_with fail
          refine (unhide CK).mono ?_
          rintro e w5 ⟨rfl, o5⟩
          have I5 := (unhide HI).1.quiet o5
          have KL5 := (unhide HI).2.1.keep o5 (fun e => e)
          have KH5 := (unhide HI).2.2.keep o5 (fun e => e)
          clear a0 a1 a2 a3 a4 b0 b1 b2 b3 HI CK o5 l0 l1 l2 l3 m0 m1 m2 m3
          have a0 := I5.ha.cell 0
          have a1 := I5.ha.cell 1
          have a2 := I5.ha.cell 2
          have a3 := I5.ha.cell 3
          have a4 := I5.ha.cell 4
          have b0 := I5.hb.cell 0
          have b1 := I5.hb.cell 1
          have b2 := I5.hb.cell 2
          have b3 := I5.hb.cell 3
          simp [hdC] at a0 a1 a2 a3 a4
          simp [scC] at b0 b1 b2 b3
          rw [(unhide HE).1] at a0
          rw [(unhide HX).2.2.1] at a1
          rw [(unhide HE).2] at a2
          rw [unhide HIX] at a2
          rw [unhide HIB] at a4
          simp only [ixI] at a2 a4
          have l0 := KL5.cell 0
          have m0 := KH5.cell 0
          have l1 := KL5.cell 1
          have m1 := KH5.cell 1
          have l2 := KL5.cell 2
          have m2 := KH5.cell 2
          have l3 := KL5.cell 3
          have m3 := KH5.cell 3
          simp at l0 l1 l2 l3 m0 m1 m2 m3
          have CS := espan_any I5.st (ib : Int) (cV lv) true (cV hv)
          rw [unhide HLz] at CS
          rw [show spanP (scnT t c) (cV lv) true (cV hv) = kvsOf (scnF t c) (scnV t c) (scnL t c (bndOf true lv) (bndOf true hv)) from unhide HSP, (unhide HF0).2] at CS
          have CS := hide CS
          have HI := hide I5
          have sz := I5.on.size
          clear I5 KL5 KH5
          generalize cV lv = KLO at *
          generalize cV hv = KHI at *
          go_wp2_with fail
          refine (unhide CS).mono ?_
          rintro e w8 ⟨va, rfl, hva, nva, st8, o8⟩
          have I8 := (unhide HI).go H0 st8 o8
          have hvl : (kvsOf (scnF t c) (scnV t c) RR).length = RR.length := by simp [kvsOf]
          obtain ⟨la, lc, rfl⟩ : ∃ a c, va = .slice a RR.length c := by obtain ⟨a, c2, e⟩ := ownsRow_shape hva; exact ⟨a, c2, by rw [e]; show Value.slice a (kvsOf (scnF t c) (scnV t c) RR).length c2 = _; rw [hvl]⟩
          have r8 : RR.length ≤ 8 := by rw [← (unhide HF0).2]; exact scnL_len (unhide HX).2.2.2.1 _ _ _
          have hvq : ∀ k, (Value.slice la RR.length lc).ownBlock = some k → ¬ q.S k := fun k hk => H0.new (Nat.le_trans sz (nva k hk))
          obtain ⟨cur0, hcur0, hmk⟩ := run_make_rows w8 RR.length (by omega)
          have sz8 := I8.on.size
          have szw := o0.size
          have oN : Only (fun _ => False) w8 (w8.alloc (.cells cur0 95)) := (Only.refl _ w8).alloc _
          have RS : RsI w.heap.size RR w8.heap.size 0 (w8.alloc (.cells cur0 95)) := ⟨⟨cur0, hcur0, Has.new _ _ _, fun j r hj => by omega, fun j j' u u' k _ hj' => by omega⟩, by omega⟩
          have HS := hide (And.intro (I8.quiet oN) (And.intro (hva.keep oN (fun _ _ e => e)) RS))
          have gB : w0.heap.size ≤ w8.heap.size := sz8
          clear a0 a1 a2 a3 a4 b0 b1 b2 b3 HI CS st8 o8 nva hva hvl I8 oN RS hcur0 l0 l1 l2 l3 m0 m1 m2 m3 sz sz8
          go_upto_region 23 with fail
          clear hmk
          generalize w8.alloc (.cells cur0 95) = w9 at *
          generalize w8.heap.size = gb at *
          go_loopw [14, 20, 21] (fun ev iv kv wr => ∃ n : Nat, iv = .int .i64 n ∧ n ≤ RR.length ∧ OpI q w0 x op S t h g (g + 1) (.slice (some ⟨gc, 0, none⟩) t.cols.length cc) wr ∧ OwnE wr (.slice la RR.length lc) (kvsOf (scnF t c) (scnV t c) RR) ∧ RsI w.heap.size RR gb n wr) (fun _ iv _ _ => RR.length - (intOf iv).toNat)
          case atStart => exact ⟨0, rfl, Nat.zero_le _, (unhide HS).1, (unhide HS).2.1, (unhide HS).2.2⟩
          case round =>
            clear HS
            obtain ⟨n, rfl, hn, I, E, R⟩ := hrel
            by_cases hn2 : n < RR.length
            · have a1 : decide ((n : Int) < (RR.length : Int)) = true := decide_eq_true (by omega)
              have a1p : (n : Int) < (RR.length : Int) := by omega
              obtain ⟨r, hr⟩ := getE hn2
              have hre : (kvsOf (scnF t c) (scnV t c) RR)[n]? = some (scnF t c r, scnV t c r) := by unfold kvsOf; rw [List.getElem?_map, hr]; rfl
              obtain ⟨rl, lc2, hle, e0, e1⟩ := E.at_ hre
              have hvl : (kvsOf (scnF t c) (scnV t c) RR).length = RR.length := by simp [kvsOf]
              rw [hvl] at hle
              simp only [Value.slice.injEq] at hle
              obtain ⟨rfl, _, rfl⟩ := hle
              have hrm : r ∈ t.rows := scn_sub (by rw [(unhide HF0).2]; exact List.mem_of_getElem? hr)
              have CB := eback_any (scnF t c r) (by have := scnF_size (t := t) c r; omega) wr
              rw [show (if 8 < (scnF t c r).size then (scnF t c r).extract ((scnF t c r).size - 8) (scnF t c r).size else scnF t c r) = pkK t.pk r from scn_back c r] at CB
              have CB := hide CB
              have HFN := hide (show fndR t (pkK t.pk r) = some r from fnd_own (unhide HX).2.2.2.1 hrm)
              have HIE := hide (And.intro I (And.intro E (And.intro R hr)))
              clear hre hvl hr hrm I E R
              generalize scnF t c r = KF at *
              generalize scnV t c r = VF at *
              go_wp2_with fail
              refine (unhide CB).mono ?_
              rintro e wx ⟨rfl, rfl⟩
              obtain ⟨I, E, R, hr⟩ := unhide HIE
              have a0 := I.ha.cell 0
              have a1 := I.ha.cell 1
              have a2 := I.ha.cell 2
              have a3 := I.ha.cell 3
              have a4 := I.ha.cell 4
              have b0 := I.hb.cell 0
              have b1 := I.hb.cell 1
              have b2 := I.hb.cell 2
              have b3 := I.hb.cell 3
              simp [hdC] at a0 a1 a2 a3 a4
              simp [scC] at b0 b1 b2 b3
              have CF := efetch_o I.st (unhide HX).1 (unhide HX).2.1 I.oc (I.notS H0) t.nm (ixI t.ix) (pkK t.pk r) (some r) (unhide HFN)
              unfold hdA schA at CF
              have CF := hide CF
              clear I E R hr CB e0 e1
              generalize pkK t.pk r = KP at *
              go_wp2_with fail
              refine (unhide CF).mono ?_
              rintro e w10 ⟨vv, c5, rfl, hvv, nvv, hc5, st10, o10⟩
              obtain rfl : c5 = 0 := hc5
              have hvv : OwnV w10 vv r := hvv
              obtain ⟨fa, fc, rfl⟩ := hvv.shape
              obtain ⟨I, E, R, hr⟩ := unhide HIE
              have I10 := I.go H0 st10 o10
              have E10 := E.keep o10 hvq
              have R10 := R.keep o10 (fun k hk c => by
                rcases c with c | c
                · have := (FV.Alt H.fv) k (.inr (.inl c)); omega
                · have := (FV.Alt H.fv) k (.inr (.inr (.inl c))); omega)
              obtain ⟨z, y0, y1⟩ := R10.cell hn2
              have RS := R10.step (N := wr.heap.size) hr hvv (fun k hk => ⟨Nat.le_trans (Nat.le_trans szw I.on.size) (nvv k hk), nvv k hk⟩) (fun j s cur hj hh hs k hk => by
                obtain ⟨cu, h1, h2, h3, h4⟩ := R.has
                obtain ⟨cu2, g1, g2, g3, g4⟩ := R10.has
                have h2' := h2.keep o10 (fun c => by
                  rcases c with c | c
                  · have := (FV.Alt H.fv) gb (.inr (.inl c)); have := R.gl; omega
                  · have := (FV.Alt H.fv) gb (.inr (.inr (.inl c))); have := R.gl; omega)
                obtain ⟨rfl, _⟩ := h2'.inj hh
                exact R.old hn j s _ hj h2 hs k hk)
              have oS : Only (fun k => k = gb) w10 (w10.setCell ⟨gb, n, none⟩ (.slice fa r.length fc)) := only1 _ _
              have hA := H0.fv.Alt
              have hxl := H0.has.lt
              have hal := I10.al
              have hbl := I10.bl
              have I11 : OpI q w0 x op S t h g (g + 1) (.slice (some ⟨gc, 0, none⟩) t.cols.length cc) (w10.setCell ⟨gb, n, none⟩ (.slice fa r.length fc)) := ⟨I10.st.keep oS (fun k hk e => by
                rcases hk with d | d
                · have := hA k d; omega
                · omega), I10.on.trans oS (fun k hk e => by omega), I10.ha.keep oS (fun e => by have := R10.has; obtain ⟨_, _, a2, _⟩ := this; exact (I10.ha.ne a2 (by decide)) e), I10.hb.keep oS (fun e => by have := R10.has; obtain ⟨_, _, a2, _⟩ := this; exact (I10.hb.ne a2 (by decide)) e), I10.oc.keep oS (fun k hk e => by have := R10.has; obtain ⟨_, _, a2, _⟩ := this; exact ownsRow_ne I10.oc a2 (by decide) k hk e), I10.al, I10.bl, I10.nc⟩
              have E11 := E10.keep oS (fun k hk e => by have := R10.has; obtain ⟨_, _, a2, _⟩ := this; exact ownsRow_ne E10 a2 (by decide) k hk e)
              have HF := hide (And.intro I11 (And.intro E11 RS))
              clear I11 E11 RS oS hA hxl hal hbl I10 E10 R10 I E R hr hvv nvv st10 o10 CF HIE
              clear a0 a1 a2 a3 a4 b0 b1 b2 b3 
              go_wp2_with fail
              go_roundw
              case rel => exact ⟨n + 1, by go_num, by omega, (unhide HF).1, (unhide HF).2.1, (unhide HF).2.2⟩
              case measure => simp [intOf]; omega
            · obtain rfl : n = RR.length := by omega
              have a1 : decide ((RR.length : Int) < (RR.length : Int)) = false := by simp
              have HF := hide (show OwnRR w.heap.size wr (.slice (some ⟨gb, 0, none⟩) RR.length RR.length) RR ∧ ST q wr x op S ∧ Only q.S w wr from ⟨.inr ⟨gb, rfl, R⟩, I.st, (o0.toS (q := q)).ss I.on⟩)
              clear I E R
              go_wp2_with fail
              go_ret2
              exact ⟨_, by rw [← (unhide HF0).1]; rfl, unhide HF⟩
        · have rh : decide ((hv.s.size : Int) > 7) = true := decide_eq_true (by omega)
          have rh' : decide (7 < (hv.s.size : Int)) = true := decide_eq_true (by omega)
          have rhn : decide (7 < hv.s.size) = true := decide_eq_true (by omega)
          have HT := hide (And.intro tl th)
          have HF := hide (show ST q w2 x op S ∧ Only q.S w w2 ∧ (16 : Int) = Z ∧ [] = RR from by
            have e : scnE t (c : Int) (bndOf true lv) (bndOf true hv) = 16 := by unfold scnE bndOf; rw [if_neg (by have := hcn; omega), if_neg (by rw [unhide HIX]; simp [ixI]), Int.toNat_natCast, (unhide HCL).1]; simp only [Option.getD_some]; simp [bndT, bndS, tl, th, sh, sl]
            exact ⟨I2.st, (o0.toS (q := q)).ss I2.on, by rw [← (unhide HX).2.2.2.2.1, e], by rw [← (unhide HX).2.2.2.2.2, e, if_neg (by decide)]⟩)
          clear I2 KL2 KH2
          clear HT tl th sh sl
          skip
          go_upto_region 8 with fail
          go_quiet (fail)
          go_wp2_with fail
          go_ret2
          exact ⟨.slice none 0 0, by rw [← (unhide HF).2.2.1]; rfl, by rw [← (unhide HF).2.2.2]; exact OwnRR.nil _ _, (unhide HF).1.quiet (onlyQ _ _), (unhide HF).2.1.andS (onlyQ _ _)⟩
      · have rl : decide ((lv.s.size : Int) > 7) = true := decide_eq_true (by omega)
        have rl' : decide (7 < (lv.s.size : Int)) = true := decide_eq_true (by omega)
        have rln : decide (7 < lv.s.size) = true := decide_eq_true (by omega)
        have HT := hide (And.intro tl th)
        have HF := hide (show ST q w2 x op S ∧ Only q.S w w2 ∧ (16 : Int) = Z ∧ [] = RR from by
          have e : scnE t (c : Int) (bndOf true lv) (bndOf true hv) = 16 := by unfold scnE bndOf; rw [if_neg (by have := hcn; omega), if_neg (by rw [unhide HIX]; simp [ixI]), Int.toNat_natCast, (unhide HCL).1]; simp only [Option.getD_some]; simp [bndT, bndS, tl, th, sl]
          exact ⟨I2.st, (o0.toS (q := q)).ss I2.on, by rw [← (unhide HX).2.2.2.2.1, e], by rw [← (unhide HX).2.2.2.2.2, e, if_neg (by decide)]⟩)
        clear I2 KL2 KH2
        clear HT tl th sl 
        skip
        go_upto_region 8 with fail
        go_quiet (fail)
        go_wp2_with fail
        go_ret2
        exact ⟨.slice none 0 0, by rw [← (unhide HF).2.2.1]; rfl, by rw [← (unhide HF).2.2.2]; exact OwnRR.nil _ _, (unhide HF).1.quiet (onlyQ _ _), (unhide HF).2.1.andS (onlyQ _ _)⟩
    · have eh : (hv.str != cl.2) = true := by simpa using th
      have eh' : (!(hv.str == cl.2)) = true := by simpa using th
      have HF := hide (show ST q w2 x op S ∧ Only q.S w w2 ∧ (15 : Int) = Z ∧ [] = RR from by
        have e : scnE t (c : Int) (bndOf true lv) (bndOf true hv) = 15 := by unfold scnE bndOf; rw [if_neg (by have := hcn; omega), if_neg (by rw [unhide HIX]; simp [ixI]), Int.toNat_natCast, (unhide HCL).1]; simp only [Option.getD_some]; simp [bndT, bndS, tl, th]
        exact ⟨I2.st, (o0.toS (q := q)).ss I2.on, by rw [← (unhide HX).2.2.2.2.1, e], by rw [← (unhide HX).2.2.2.2.2, e, if_neg (by decide)]⟩)
      clear I2 KL2 KH2
      clear tl th
      go_upto_region 8 with fail
      go_quiet (fail)
      go_wp2_with fail
      go_ret2
      exact ⟨.slice none 0 0, by rw [← (unhide HF).2.2.1]; rfl, by rw [← (unhide HF).2.2.2]; exact OwnRR.nil _ _, (unhide HF).1.quiet (onlyQ _ _), (unhide HF).2.1.andS (onlyQ _ _)⟩
  · have el : (lv.str != cl.2) = true := by simpa using tl
    have el' : (!(lv.str == cl.2)) = true := by simpa using tl
    have HF := hide (show ST q w2 x op S ∧ Only q.S w w2 ∧ (15 : Int) = Z ∧ [] = RR from by
      have e : scnE t (c : Int) (bndOf true lv) (bndOf true hv) = 15 := by unfold scnE bndOf; rw [if_neg (by have := hcn; omega), if_neg (by rw [unhide HIX]; simp [ixI]), Int.toNat_natCast, (unhide HCL).1]; simp only [Option.getD_some]; simp [bndT, bndS, tl]
      exact ⟨I2.st, (o0.toS (q := q)).ss I2.on, by rw [← (unhide HX).2.2.2.2.1, e], by rw [← (unhide HX).2.2.2.2.2, e, if_neg (by decide)]⟩)
    clear I2 KL2 KH2
    clear tl
    go_upto_region 8 with fail
    go_quiet (fail)
    go_wp2_with fail
    go_ret2
    exact ⟨.slice none 0 0, by rw [← (unhide HF).2.2.1]; rfl, by rw [← (unhide HF).2.2.2]; exact OwnRR.nil _ _, (unhide HF).1.quiet (onlyQ _ _), (unhide HF).2.1.andS (onlyQ _ _)⟩
end
end Go.Proofs.Qxb6500412aGreat
