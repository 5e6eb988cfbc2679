/-
  OWN WORK. THE TABLE LAW: ScanFits (written by tools/gen_js1.py).
-/
import Derived.Test.Qxb6500413aGreatJS0
import Derived.Test.Qxb6500413aGreatJSP
namespace Go.Proofs.Qxb6500413aGreat
open Go.RowKit Go.PlainAid
set_option linter.unusedSimpArgs false
set_option linter.unusedVariables false

theorem OwnRR.shp {lo : Nat} {w : World} {v : Value} {R : List (List Vl)} (h : OwnRR lo w v R) : ∃ a cap, v = .slice a R.length cap := by
  rcases h with ⟨rfl, rfl⟩ | ⟨g, rfl, _⟩
  · exact ⟨_, _, rfl⟩
  · exact ⟨_, _, rfl⟩
theorem OwnRR.get {lo : Nat} {w : World} {v : Value} {R : List (List Vl)} (h : OwnRR lo w v R) {j : Nat} {r : List Vl} (hr : R[j]? = some r) : ∃ g u cap, v = .slice (some ⟨g, 0, none⟩) R.length cap ∧ w.cell? ⟨g, j, none⟩ = some u ∧ OwnV w u r := by
  rcases h with ⟨rfl, rfl⟩ | ⟨g, rfl, I⟩
  · simp at hr
  · obtain ⟨cur, h1, h2, h3, _⟩ := I.has
    obtain ⟨u, hu, ho, _⟩ := h3 j r (List.getElem?_eq_some_iff.mp hr).1 hr
    exact ⟨g, u, _, rfl, by rw [h2.cell]; exact hu, ho⟩
def SfP (t : Tb) (c : Nat) (lo hi : Bnd) (R : List (List Vl)) (w : World) (x : Ending) (w' : World) : Prop := ∃ bb : Bool, x = .returned (.bool bb) ∧ (bb = true ↔ ScF t c lo hi R) ∧ Only (fun _ => False) w w'
theorem SfP.no {t : Tb} {c : Nat} {lo hi : Bnd} {R : List (List Vl)} {w w' : World} {i : Nat} {r : List Vl} (hr : R[i]? = some r) (h : ¬ OkR t c lo hi R i r) (ho : Only (fun _ => False) w w') : SfP t c lo hi R w (.returned (.bool false)) w' :=
  ⟨false, rfl, ⟨fun e => (by cases e), fun f => absurd (f.2 i r hr) h⟩, ho⟩
section
variable {w : World} {b o : Nat} {e : GE}
set_option maxRecDepth 100000 in
set_option maxHeartbeats 16000000 in
theorem jscanFits_any (P : GPt w b o e) (E : GEl w e) {c : Nat} (hc : c < e.t.cols.length) (lh hh : Bool) (lv hv : Vl) {lo : Nat} {rv : Value} {R : List (List Vl)} (hR : OwnRR lo w rv R) (hR8 : R.length ≤ 8) : Calls Tryz.prog 99 #[.pointer (some ⟨b, o, none⟩), .int .i64 c, bdA lh lv, bdA hh hv, rv] w (SfP e.t c (bndOf lh lv) (bndOf hh hv) R w) := by
  have o1 : Only (fun _ => False) w ((w.alloc (.cells (scA lh lv) 74)).alloc (.cells (scA hh hv) 74)) := ((Only.refl _ w).alloc _).alloc _
  have A1 : Has ((w.alloc (.cells (scA lh lv) 74)).alloc (.cells (scA hh hv) 74)) w.heap.size (scA lh lv) 74 := (Has.new w _ _).alloc _
  have B1 : Has ((w.alloc (.cells (scA lh lv) 74)).alloc (.cells (scA hh hv) 74)) (w.heap.size + 1) (scA hh hv) 74 := Has.new' _ _ _ _ (by simp)
  obtain ⟨wa, wcp, hrv0⟩ := hR.shp
  subst hrv0
  obtain ⟨sa, sc, hsv⟩ := E.rshape
  obtain ⟨ca, cc, hcc⟩ := E.col.shape
  have HP := hide (P.keep o1 (fun e => e))
  have HE := hide (E.keep o1 (fun _ _ e => e) (fun _ _ e => e))
  have HRR := hide (hR.keep o1 (fun _ _ e => e))
  have HAB := hide (And.intro A1 B1)
  have HO := hide o1
  have HOK := hide E.ok
  have hn8 := E.ok.len
  have HSV := hide hsv
  have HCC := hide hcc
  have hc3 := E.ok.n3
  have HLEN := hide (show ∀ r ∈ e.t.rows, r.length = e.t.cols.length from fun r hr => (E.ok.row r hr).len)
  have hpkn := E.ok.pkn
  obtain ⟨n, hn⟩ : ∃ n, e.t.rows.length = n := ⟨_, rfl⟩
  rw [hn] at hn8 HSV
  have HN := hide hn
  obtain ⟨m, hm⟩ : ∃ m, R.length = m := ⟨_, rfl⟩
  rw [hm] at hR8 HRR ⊢
  have HM := hide hm
  obtain ⟨cn, hcn⟩ : ∃ cn, e.t.cols.length = cn := ⟨_, rfl⟩
  rw [hcn] at hc HCC HLEN hc3 hpkn
  have HCN := hide hcn
  obtain ⟨pk, hpk⟩ : ∃ pk, e.t.pk = pk := ⟨_, rfl⟩
  rw [hpk] at hpkn
  have HPK := hide hpk
  have hcI : (c : Int) < (cn : Int) := by omega
  have hpI : (pk : Int) < (cn : Int) := by omega
  obtain ⟨lo', hlo⟩ : ∃ lo', bndOf lh lv = lo' := ⟨_, rfl⟩
  obtain ⟨hi', hhi⟩ : ∃ hi', bndOf hh hv = hi' := ⟨_, rfl⟩
  rw [hlo, hhi]
  have HB := hide (And.intro hlo hhi)
  clear P E hR o1 A1 B1 hsv hcc hn hm hcn hpk hlo hhi
  unfold scA at *
  unfold bdA
  go_enter Tryz.func99, Tryz.ntmps99
  go_upto_region 3 with fail
  generalize ((w.alloc (.cells #[.bool lh, .bool lv.str, .int .i64 lv.i, .string lv.s] 74)).alloc (.cells #[.bool hh, .bool hv.str, .int .i64 hv.i, .string hv.s] 74)) = w1 at *
  generalize w.heap.size = kb at *
  go_loopw [11, 12] (fun nv iv wr => ∃ i : Nat, iv = .int .i64 i ∧ i ≤ n ∧ nv = .int .i64 (((e.t.rows.take i).filter (fun r => inB lo' hi' (kyR c r))).length : Int) ∧ Only (fun _ => False) w1 wr) (fun _ iv _ => n - (intOf iv).toNat)
  case atStart => exact ⟨0, rfl, Nat.zero_le _, by simp, Only.refl _ _⟩
  case round =>
    obtain ⟨i, rfl, hi, rfl, oW⟩ := hrel
    have p4 := ((unhide HP).keep oW (fun e => e)).c4
    rw [unhide HSV] at p4
    have hcnt : ((e.t.rows.take i).filter (fun r => inB lo' hi' (kyR c r))).length ≤ 8 := Nat.le_trans (List.length_filter_le _ _) (by rw [List.length_take]; omega)
    obtain ⟨cnt, hcnt0⟩ : ∃ cnt, ((e.t.rows.take i).filter (fun r => inB lo' hi' (kyR c r))).length = cnt := ⟨_, rfl⟩
    rw [hcnt0] at hcnt ⊢
    have HCNT := hide hcnt0
    clear hcnt0
    by_cases hi2 : i < n
    · have a1 : decide ((i : Int) < (n : Int)) = true := decide_eq_true (by omega)
      have a0 := ((unhide HAB).1.keep oW (fun e => e)).cell 0
      have a1x := ((unhide HAB).1.keep oW (fun e => e)).cell 1
      have a2x := ((unhide HAB).1.keep oW (fun e => e)).cell 2
      have a3x := ((unhide HAB).1.keep oW (fun e => e)).cell 3
      have b0 := ((unhide HAB).2.keep oW (fun e => e)).cell 0
      have b1x := ((unhide HAB).2.keep oW (fun e => e)).cell 1
      have b2x := ((unhide HAB).2.keep oW (fun e => e)).cell 2
      have b3x := ((unhide HAB).2.keep oW (fun e => e)).cell 3
      simp at a0 a1x a2x a3x b0 b1x b2x b3x
      have a1p : (i : Int) < (n : Int) := by omega
      obtain ⟨x, hx⟩ := getE (l := e.t.rows) (i := i) (by rw [unhide HN]; exact hi2)
      obtain ⟨y, hy⟩ := getE (l := x) (i := c) (by rw [unhide HLEN x (List.mem_of_getElem? hx)]; exact hc)
      obtain ⟨g, u, cap, he, _, cu, OU⟩ := ((unhide HE).keep oW (fun _ _ e => e) (fun _ _ e => e)).at_ hx
      rw [unhide HSV, unhide HN] at he
      simp only [Value.slice.injEq] at he
      obtain ⟨rfl, _, rfl⟩ := he
      obtain ⟨g1, k1, rfl, e0, e1, e2⟩ := getv_at OU hy
      have hky : kyR c x = y := by unfold kyR; rw [hy]; rfl
      have xl : x.length = cn := unhide HLEN x (List.mem_of_getElem? hx)
      rw [xl] at cu
      have CW := jwithin_any y lh hh lv hv wr.drew
      rw [(unhide HB).1, (unhide HB).2] at CW
      obtain ⟨z, hz⟩ : ∃ z, inB lo' hi' y = z := ⟨_, rfl⟩
      rw [hz] at CW
      unfold vlA bdA at CW
      have CW := hide CW
      have HCN2 := hide (show ((e.t.rows.take (i + 1)).filter (fun r => inB lo' hi' (kyR c r))).length = cnt + (if z then 1 else 0) from by rw [List.take_add_one, hx, List.filter_append, List.length_append, unhide HCNT]; simp only [Option.toList_some, List.filter_cons, hky, hz]; cases z <;> rfl)
      have HO2 := hide oW
      clear hx hy hky hz xl oW OU
      go_upto_region 5 with fail
      go_cut [37] (fun zv wx => zv = .bool z ∧ Only (fun _ => False) wr wx)
      case first =>
        refine wp_region_held_drew (S := (fun w' => w'.cell? ⟨b, o + 4, none⟩ = some (.slice (some ⟨g, 0, none⟩) n sc) ∧ w'.cell? ⟨g, i, none⟩ = some (.slice (some ⟨g1, 0, none⟩) cn k1) ∧ w'.cell? ⟨g1, c * 3, none⟩ = some (.bool y.str) ∧ w'.cell? ⟨g1, c * 3 + 1, none⟩ = some (.int .i64 y.i) ∧ w'.cell? ⟨g1, c * 3 + 2, none⟩ = some (.string y.s) ∧ w'.cell? ⟨kb, 0, none⟩ = some (.bool lh) ∧ w'.cell? ⟨kb, 1, none⟩ = some (.bool lv.str) ∧ w'.cell? ⟨kb, 2, none⟩ = some (.int .i64 lv.i) ∧ w'.cell? ⟨kb, 3, none⟩ = some (.string lv.s) ∧ w'.cell? ⟨kb + 1, 0, none⟩ = some (.bool hh) ∧ w'.cell? ⟨kb + 1, 1, none⟩ = some (.bool hv.str) ∧ w'.cell? ⟨kb + 1, 2, none⟩ = some (.int .i64 hv.i) ∧ w'.cell? ⟨kb + 1, 3, none⟩ = some (.string hv.s))) (by kernel_rfl) ⟨p4, cu, e0, e1, e2, a0, a1x, a2x, a3x, b0, b1x, b2x, b3x⟩ (fun hH0 => ?_)
        refine takeH 0 25 (v := ?vh1) rfl rfl (by kernel_rfl) (by kernel_rfl) (by kernel_rfl) (fun _ _ _ h => h) (Or.inl ⟨by rfl, ?hh1⟩) hH0 ?rh1
        case hh1 => (intro w hSw; clear hSw; go_simp; (try with_reducible rfl))
        case rh1 =>
        try simp only [Act.put, List.setIfInBounds_toArray, List.set_cons_zero, List.set_cons_succ]
        refine takeH 1 26 (v := ?vh2) rfl rfl (by kernel_rfl) (by kernel_rfl) (by kernel_rfl) (fun _ _ _ h => h) (Or.inl ⟨by rfl, ?hh2⟩) hH0 ?rh2
        case hh2 => (intro w hSw; clear hSw; go_simp; (try with_reducible rfl))
        case rh2 =>
        try simp only [Act.put, List.setIfInBounds_toArray, List.set_cons_zero, List.set_cons_succ]
        refine takeH 2 27 (v := ?vh3) rfl rfl (by kernel_rfl) (by kernel_rfl) (by kernel_rfl) (fun _ _ _ h => h) (Or.inl ⟨by rfl, ?hh3⟩) hH0 ?rh3
        case hh3 => (intro w hSw; clear hSw; go_simp; (try with_reducible rfl))
        case rh3 =>
        try simp only [Act.put, List.setIfInBounds_toArray, List.set_cons_zero, List.set_cons_succ]
        refine takeH 3 28 (v := ?vh4) rfl rfl (by kernel_rfl) (by kernel_rfl) (by kernel_rfl) (fun _ _ _ h => h) (Or.inl ⟨by rfl, ?hh4⟩) hH0 ?rh4
        case hh4 => (intro w hSw; obtain ⟨s0, s1, s2, s3, s4, s5, s6, s7, s8, s9, s10, s11, s12⟩ := hSw; go_simp; (try with_reducible rfl))
        case rh4 =>
        try simp only [Act.put, List.setIfInBounds_toArray, List.set_cons_zero, List.set_cons_succ]
        refine takeH 4 29 (v := ?vh5) rfl rfl (by kernel_rfl) (by kernel_rfl) (by kernel_rfl) (fun _ _ _ h => h) (Or.inl ⟨by rfl, ?hh5⟩) hH0 ?rh5
        case hh5 => (intro w hSw; clear hSw; go_simp; (try with_reducible rfl))
        case rh5 =>
        try simp only [Act.put, List.setIfInBounds_toArray, List.set_cons_zero, List.set_cons_succ]
        refine takeH 5 30 (v := ?vh6) rfl rfl (by kernel_rfl) (by kernel_rfl) (by kernel_rfl) (fun _ _ _ h => h) (Or.inl ⟨by rfl, ?hh6⟩) hH0 ?rh6
        case hh6 => (intro w hSw; clear hSw; go_simp; (try with_reducible rfl))
        case rh6 =>
        try simp only [Act.put, List.setIfInBounds_toArray, List.set_cons_zero, List.set_cons_succ]
        refine takeH 6 31 (v := ?vh7) rfl rfl (by kernel_rfl) (by kernel_rfl) (by kernel_rfl) (fun _ _ _ h => h) (Or.inl ⟨by rfl, ?hh7⟩) hH0 ?rh7
        case hh7 => (intro w hSw; obtain ⟨s0, s1, s2, s3, s4, s5, s6, s7, s8, s9, s10, s11, s12⟩ := hSw; go_simp; (try with_reducible rfl))
        case rh7 =>
        try simp only [Act.put, List.setIfInBounds_toArray, List.set_cons_zero, List.set_cons_succ]
        refine takeH 7 32 (v := ?vh8) rfl rfl (by kernel_rfl) (by kernel_rfl) (by kernel_rfl) (fun _ _ _ h => h) (Or.inl ⟨by rfl, ?hh8⟩) hH0 ?rh8
        case hh8 => (intro w hSw; clear hSw; go_simp; (try with_reducible rfl))
        case rh8 =>
        try simp only [Act.put, List.setIfInBounds_toArray, List.set_cons_zero, List.set_cons_succ]
        refine takeH 8 33 (v := ?vh9) rfl rfl (by kernel_rfl) (by kernel_rfl) (by kernel_rfl) (fun _ _ _ h => h) (Or.inl ⟨by rfl, ?hh9⟩) hH0 ?rh9
        case hh9 => (intro w hSw; clear hSw; go_simp; (try with_reducible rfl))
        case rh9 =>
        try simp only [Act.put, List.setIfInBounds_toArray, List.set_cons_zero, List.set_cons_succ]
        refine takeH 9 34 (v := ?vh10) rfl rfl (by kernel_rfl) (by kernel_rfl) (by kernel_rfl) (fun _ _ _ h => h) (Or.inl ⟨by rfl, ?hh10⟩) hH0 ?rh10
        case hh10 => (intro w hSw; obtain ⟨s0, s1, s2, s3, s4, s5, s6, s7, s8, s9, s10, s11, s12⟩ := hSw; go_simp; (try with_reducible rfl))
        case rh10 =>
        try simp only [Act.put, List.setIfInBounds_toArray, List.set_cons_zero, List.set_cons_succ]
        refine takeH 10 35 (v := ?vh11) rfl rfl (by kernel_rfl) (by kernel_rfl) (by kernel_rfl) (fun _ _ _ h => h) (Or.inl ⟨by rfl, ?hh11⟩) hH0 ?rh11
        case hh11 => (intro w hSw; obtain ⟨s0, s1, s2, s3, s4, s5, s6, s7, s8, s9, s10, s11, s12⟩ := hSw; go_simp; (try with_reducible rfl))
        case rh11 =>
        try simp only [Act.put, List.setIfInBounds_toArray, List.set_cons_zero, List.set_cons_succ]
        refine takeH 11 36 (v := ?vh12) rfl rfl (by kernel_rfl) (by kernel_rfl) (by kernel_rfl) (fun _ _ _ h => h) (Or.inl ⟨by rfl, ?hh12⟩) hH0 ?rh12
        case hh12 => (intro w hSw; obtain ⟨s0, s1, s2, s3, s4, s5, s6, s7, s8, s9, s10, s11, s12⟩ := hSw; go_simp; (try with_reducible rfl))
        case rh12 =>
        try simp only [Act.put, List.setIfInBounds_toArray, List.set_cons_zero, List.set_cons_succ]
        refine callH 12 (by kernel_rfl) rfl 37 rfl rfl 164 Tryz.func164 (by kernel_rfl) (by kernel_rfl) #[.tmp 34, .tmp 35, .tmp 36] #[72, 74, 74] rfl #[.agg #[.bool y.str, .int .i64 y.i, .string y.s], .agg #[.bool lh, .bool lv.str, .int .i64 lv.i, .string lv.s], .agg #[.bool hh, .bool hv.str, .int .i64 hv.i, .string hv.s]] (by simp [Act.eval]) (R := fun v w' => v = .bool z ∧ Only (fun _ => False) wr.drew w') ((unhide CW).mono (by rintro en w' ⟨rfl, o⟩; exact ⟨_, rfl, rfl, o⟩)) ?kh
        case kh =>
        rintro _ w6 ⟨rfl, o6⟩
        have S6 : w6.cell? ⟨b, o + 4, none⟩ = some (.slice (some ⟨g, 0, none⟩) n sc) ∧ w6.cell? ⟨g, i, none⟩ = some (.slice (some ⟨g1, 0, none⟩) cn k1) ∧ w6.cell? ⟨g1, c * 3, none⟩ = some (.bool y.str) ∧ w6.cell? ⟨g1, c * 3 + 1, none⟩ = some (.int .i64 y.i) ∧ w6.cell? ⟨g1, c * 3 + 2, none⟩ = some (.string y.s) ∧ w6.cell? ⟨kb, 0, none⟩ = some (.bool lh) ∧ w6.cell? ⟨kb, 1, none⟩ = some (.bool lv.str) ∧ w6.cell? ⟨kb, 2, none⟩ = some (.int .i64 lv.i) ∧ w6.cell? ⟨kb, 3, none⟩ = some (.string lv.s) ∧ w6.cell? ⟨kb + 1, 0, none⟩ = some (.bool hh) ∧ w6.cell? ⟨kb + 1, 1, none⟩ = some (.bool hv.str) ∧ w6.cell? ⟨kb + 1, 2, none⟩ = some (.int .i64 hv.i) ∧ w6.cell? ⟨kb + 1, 3, none⟩ = some (.string hv.s) := ⟨o6.cellF hH0.1, o6.cellF hH0.2.1, o6.cellF hH0.2.2.1, o6.cellF hH0.2.2.2.1, o6.cellF hH0.2.2.2.2.1, o6.cellF hH0.2.2.2.2.2.1, o6.cellF hH0.2.2.2.2.2.2.1, o6.cellF hH0.2.2.2.2.2.2.2.1, o6.cellF hH0.2.2.2.2.2.2.2.2.1, o6.cellF hH0.2.2.2.2.2.2.2.2.2.1, o6.cellF hH0.2.2.2.2.2.2.2.2.2.2.1, o6.cellF hH0.2.2.2.2.2.2.2.2.2.2.2.1, o6.cellF hH0.2.2.2.2.2.2.2.2.2.2.2.2⟩
        refine ⟨S6, ?_⟩
        try simp only [Act.put, List.setIfInBounds_toArray, List.set_cons_zero, List.set_cons_succ]
        refine wpAnyH_done (by kernel_rfl) ?_ _
        have oD : Only (fun _ => False) wr w6 := (Only.refl _ wr).drew.trans o6 (fun _ _ e => e)
        have HF := hide oD
        clear hH0 S6 o6 oD
        go_wp2_with fail
        go_meet
        exact ⟨rfl, unhide HF⟩
      case rest =>
      obtain ⟨rfl, o2⟩ := hcut
      have HO3 := hide ((unhide HO2).trans o2 (fun _ _ e => e))
      clear o2 CW e0 e1 e2 a0 a1x a2x a3x b0 b1x b2x b3x p4 cu
      cases z with
      | true =>
        simp only [if_true, if_false, Bool.false_eq_true, Nat.add_zero] at HCN2
        go_wp2_with fail
        go_roundw
        case rel => exact ⟨i + 1, by go_num, by omega, by first | (rw [unhide HCN2]; done) | (rw [unhide HCN2]; go_num), unhide HO3⟩
        case measure => simp [intOf]; omega
      | false =>
        simp only [if_true, if_false, Bool.false_eq_true, Nat.add_zero] at HCN2
        go_wp2_with fail
        go_roundw
        case rel => exact ⟨i + 1, by go_num, by omega, by first | (rw [unhide HCN2]; done) | (rw [unhide HCN2]; go_num), unhide HO3⟩
        case measure => simp [intOf]; omega
    · obtain rfl : i = n := by omega
      have d1 : decide ((i : Int) < (i : Int)) = false := by simp
      have HALL := hide (show (e.t.rows.filter (fun r => inB lo' hi' (kyR c r))).length = cnt from by rw [← unhide HCNT, List.take_of_length_le (by rw [unhide HN]; omega)])
      have HOW := hide oW
      clear oW hi hi2 HCNT
      by_cases hcm : m = cnt
      · have d2 : ((m : Int) != (cnt : Int)) = false := by rw [hcm]; simp
        have d2n : (m != cnt) = false := by rw [hcm]; simp
        have HCM := hide hcm
        clear hcm
        go_upto_region 10 with fail
        clear d1 d2 d2n p4
        go_loopw [13, 14, 15] (fun iv pv cv wr => ∃ j : Nat, iv = .int .i64 j ∧ j ≤ m ∧ (∀ (q : Nat) (r : List Vl), q < j → R[q]? = some r → OkR e.t c lo' hi' R q r) ∧ Only (fun _ => False) w1 wr) (fun iv _ _ _ => m - (intOf iv).toNat)
        case atStart => exact ⟨0, rfl, Nat.zero_le _, fun q _ hq => by omega, unhide HOW⟩
        case round =>
          obtain ⟨j, rfl, hj, hall, oW⟩ := hrel
          have HAL := hide hall
          clear hall
          by_cases hj2 : j < m
          · have a1 : decide ((j : Int) < (m : Int)) = true := decide_eq_true (by omega)
            have a1p : (j : Int) < (m : Int) := by omega
            obtain ⟨r, hr⟩ := getE (l := R) (i := j) (by rw [unhide HM]; exact hj2)
            have HRJ := hide hr
            have HO5 := hide oW
            clear oW hr
            obtain ⟨rn, hrn⟩ : ∃ rn, r.length = rn := ⟨_, rfl⟩
            have HRN := hide hrn
            clear hrn
            have FX := hide (fun (wr : World) (oW : Only (fun _ => False) w1 wr) => show ∃ g ua uc cap, wa = some ⟨g, 0, none⟩ ∧ wcp = cap ∧ wr.cell? ⟨g, j, none⟩ = some (.slice ua rn uc) ∧ OwnV wr (.slice ua rn uc) r from by
              obtain ⟨g, u, cap, he, cu, OU⟩ := ((unhide HRR).keep oW (fun _ _ e => e)).get (unhide HRJ)
              rw [unhide HM] at he
              simp only [Value.slice.injEq] at he
              obtain ⟨ua, uc, hu⟩ := OU.shape
              rw [unhide HRN] at hu
              subst hu
              exact ⟨g, ua, uc, cap, he.1, he.2.2, cu, OU⟩)
            obtain ⟨g, ua, uc, cap, rfl, rfl, cu, OU⟩ := unhide FX wr (unhide HO5)
            have p1 := ((unhide HP).keep (unhide HO5) (fun e => e)).c1
            rw [unhide HCC] at p1
            have HU := hide OU
            clear OU
            by_cases hrl : rn = cn
            · have d1 : ((rn : Int) != (cn : Int)) = false := by rw [hrl]; simp
              have d1n : (rn != cn) = false := by rw [hrl]; simp
              have HRL := hide hrl
              clear hrl
              go_upto_region 12 with fail
              go_cut [61] (fun zv wx => zv = .bool false ∧ Only (fun _ => False) wr wx)
              case first =>
                go_quiet (fail)
                go_wp2_with fail
                go_meet
                exact ⟨rfl, onlyQ _ _⟩
              case rest =>
              obtain ⟨rfl, o2⟩ := hcut
              generalize wc = w2 at *
              have HO6 := hide ((unhide HO5).trans o2 (fun _ _ e => e))
              have OU := (unhide HU).keep o2 (fun _ _ e => e)
              have cu := o2.cellF cu
              clear o2 p1 d1 d1n HU
              obtain ⟨y, hy⟩ := getE (l := r) (i := pk) (by rw [unhide HRN, unhide HRL]; omega)
              obtain ⟨g1, k1, hue, e0, e1, e2⟩ := getv_at OU hy
              rw [unhide HRN] at hue
              simp only [Value.slice.injEq] at hue
              obtain ⟨rfl, _, rfl⟩ := hue
              have hky : kyR e.t.pk r = y := by unfold kyR; rw [unhide HPK, hy]; rfl
              have p2 := ((unhide HP).keep (unhide HO6) (fun e => e)).c2
              rw [unhide HPK] at p2
              have CG := jgrow_any (((unhide HP).keep (unhide HO6) (fun e => e)).keep ((Only.refl (fun _ => False) w2).drew) (fun e => e)) (((unhide HE).keep (unhide HO6) (fun _ _ e => e) (fun _ _ e => e)).keep ((Only.refl (fun _ => False) w2).drew) (fun _ _ e => e) (fun _ _ e => e)) y
              unfold vlA at CG
              have CG := hide CG
              have hpr : (pk : Int) < (rn : Int) := by have := unhide HRL; omega
              have HKY := hide hky
              have HU2 := hide OU
              clear hy OU hky
              go_upto_region 14 with fail
              go_cut [14] (fun pv wx => ∃ z, pv = .int .i64 z ∧ GRR e.t y z ∧ Only (fun _ => False) w2 wx)
              case first =>
                refine wp_region_held_drew (S := (fun w' => w'.cell? ⟨g, j, none⟩ = some (.slice (some ⟨g1, 0, none⟩) rn uc) ∧ w'.cell? ⟨b, o + 2, none⟩ = some (.int .i64 (pk : Int)) ∧ w'.cell? ⟨g1, pk * 3, none⟩ = some (.bool y.str) ∧ w'.cell? ⟨g1, pk * 3 + 1, none⟩ = some (.int .i64 y.i) ∧ w'.cell? ⟨g1, pk * 3 + 2, none⟩ = some (.string y.s))) (by kernel_rfl) ⟨cu, p2, e0, e1, e2⟩ (fun hH0 => ?_)
                refine takeH 0 62 (v := ?vg1) rfl rfl (by kernel_rfl) (by kernel_rfl) (by kernel_rfl) (fun _ _ _ h => h) (Or.inl ⟨by rfl, ?hg1⟩) hH0 ?rg1
                case hg1 => (intro w hSw; clear hSw; go_simp; (try with_reducible rfl))
                case rg1 =>
                try simp only [Act.put, List.setIfInBounds_toArray, List.set_cons_zero, List.set_cons_succ]
                refine takeH 1 63 (v := ?vg2) rfl rfl (by kernel_rfl) (by kernel_rfl) (by kernel_rfl) (fun _ _ _ h => h) (Or.inl ⟨by rfl, ?hg2⟩) hH0 ?rg2
                case hg2 => (intro w hSw; clear hSw; go_simp; (try with_reducible rfl))
                case rg2 =>
                try simp only [Act.put, List.setIfInBounds_toArray, List.set_cons_zero, List.set_cons_succ]
                refine takeH 2 64 (v := ?vg3) rfl rfl (by kernel_rfl) (by kernel_rfl) (by kernel_rfl) (fun _ _ _ h => h) (Or.inl ⟨by rfl, ?hg3⟩) hH0 ?rg3
                case hg3 => (intro w hSw; clear hSw; go_simp; (try with_reducible rfl))
                case rg3 =>
                try simp only [Act.put, List.setIfInBounds_toArray, List.set_cons_zero, List.set_cons_succ]
                refine takeH 3 65 (v := ?vg4) rfl rfl (by kernel_rfl) (by kernel_rfl) (by kernel_rfl) (fun _ _ _ h => h) (Or.inl ⟨by rfl, ?hg4⟩) hH0 ?rg4
                case hg4 => (intro w hSw; clear hSw; go_simp; (try with_reducible rfl))
                case rg4 =>
                try simp only [Act.put, List.setIfInBounds_toArray, List.set_cons_zero, List.set_cons_succ]
                refine takeH 4 66 (v := ?vg5) rfl rfl (by kernel_rfl) (by kernel_rfl) (by kernel_rfl) (fun _ _ _ h => h) (Or.inl ⟨by rfl, ?hg5⟩) hH0 ?rg5
                case hg5 => (intro w hSw; obtain ⟨s0, s1, s2, s3, s4⟩ := hSw; go_simp; (try with_reducible rfl))
                case rg5 =>
                try simp only [Act.put, List.setIfInBounds_toArray, List.set_cons_zero, List.set_cons_succ]
                refine takeH 5 67 (v := ?vg6) rfl rfl (by kernel_rfl) (by kernel_rfl) (by kernel_rfl) (fun _ _ _ h => h) (Or.inl ⟨by rfl, ?hg6⟩) hH0 ?rg6
                case hg6 => (intro w hSw; clear hSw; go_simp; (try with_reducible rfl))
                case rg6 =>
                try simp only [Act.put, List.setIfInBounds_toArray, List.set_cons_zero, List.set_cons_succ]
                refine takeH 6 68 (v := ?vg7) rfl rfl (by kernel_rfl) (by kernel_rfl) (by kernel_rfl) (fun _ _ _ h => h) (Or.inl ⟨by rfl, ?hg7⟩) hH0 ?rg7
                case hg7 => (intro w hSw; clear hSw; go_simp; (try with_reducible rfl))
                case rg7 =>
                try simp only [Act.put, List.setIfInBounds_toArray, List.set_cons_zero, List.set_cons_succ]
                refine takeH 7 69 (v := ?vg8) rfl rfl (by kernel_rfl) (by kernel_rfl) (by kernel_rfl) (fun _ _ _ h => h) (Or.inl ⟨by rfl, ?hg8⟩) hH0 ?rg8
                case hg8 => (intro w hSw; clear hSw; go_simp; (try with_reducible rfl))
                case rg8 =>
                try simp only [Act.put, List.setIfInBounds_toArray, List.set_cons_zero, List.set_cons_succ]
                refine takeH 8 70 (v := ?vg9) rfl rfl (by kernel_rfl) (by kernel_rfl) (by kernel_rfl) (fun _ _ _ h => h) (Or.inl ⟨by rfl, ?hg9⟩) hH0 ?rg9
                case hg9 => (intro w hSw; clear hSw; go_simp; (try with_reducible rfl))
                case rg9 =>
                try simp only [Act.put, List.setIfInBounds_toArray, List.set_cons_zero, List.set_cons_succ]
                refine takeH 9 71 (v := ?vg10) rfl rfl (by kernel_rfl) (by kernel_rfl) (by kernel_rfl) (fun _ _ _ h => h) (Or.inl ⟨by rfl, ?hg10⟩) hH0 ?rg10
                case hg10 => (intro w hSw; obtain ⟨s0, s1, s2, s3, s4⟩ := hSw; go_simp; (try with_reducible rfl))
                case rg10 =>
                try simp only [Act.put, List.setIfInBounds_toArray, List.set_cons_zero, List.set_cons_succ]
                refine takeH 10 72 (v := ?vg11) rfl rfl (by kernel_rfl) (by kernel_rfl) (by kernel_rfl) (fun _ _ _ h => h) (Or.inl ⟨by rfl, ?hg11⟩) hH0 ?rg11
                case hg11 => (intro w hSw; clear hSw; go_simp; (try with_reducible rfl))
                case rg11 =>
                try simp only [Act.put, List.setIfInBounds_toArray, List.set_cons_zero, List.set_cons_succ]
                refine takeH 11 73 (v := ?vg12) rfl rfl (by kernel_rfl) (by kernel_rfl) (by kernel_rfl) (fun _ _ _ h => h) (Or.inl ⟨by rfl, ?hg12⟩) hH0 ?rg12
                case hg12 => (intro w hSw; obtain ⟨s0, s1, s2, s3, s4⟩ := hSw; go_simp; (try with_reducible rfl))
                case rg12 =>
                try simp only [Act.put, List.setIfInBounds_toArray, List.set_cons_zero, List.set_cons_succ]
                refine callH 12 (by kernel_rfl) rfl 74 rfl rfl 102 Tryz.func102 (by kernel_rfl) (by kernel_rfl) #[.tmp 62, .tmp 73] #[136, 72] rfl #[.pointer (some ⟨b, o, none⟩), .agg #[.bool y.str, .int .i64 y.i, .string y.s]] (by simp [Act.eval]) (R := fun v w' => ∃ z, v = .int .i64 z ∧ GRR e.t y z ∧ Only (fun _ => False) w2.drew w') ((unhide CG).mono (by rintro en w' ⟨z, rfl, hz, o⟩; exact ⟨_, rfl, z, rfl, hz, o⟩)) ?kg
                case kg =>
                rintro _ w6 ⟨z, rfl, hz, o6⟩
                have S6 : w6.cell? ⟨g, j, none⟩ = some (.slice (some ⟨g1, 0, none⟩) rn uc) ∧ w6.cell? ⟨b, o + 2, none⟩ = some (.int .i64 (pk : Int)) ∧ w6.cell? ⟨g1, pk * 3, none⟩ = some (.bool y.str) ∧ w6.cell? ⟨g1, pk * 3 + 1, none⟩ = some (.int .i64 y.i) ∧ w6.cell? ⟨g1, pk * 3 + 2, none⟩ = some (.string y.s) := ⟨o6.cellF hH0.1, o6.cellF hH0.2.1, o6.cellF hH0.2.2.1, o6.cellF hH0.2.2.2.1, o6.cellF hH0.2.2.2.2⟩
                refine ⟨S6, ?_⟩
                try simp only [Act.put, List.setIfInBounds_toArray, List.set_cons_zero, List.set_cons_succ]
                refine takeH 13 14 (v := ?vg13) rfl rfl (by kernel_rfl) (by kernel_rfl) (by kernel_rfl) (fun _ _ _ h => h) (Or.inl ⟨by rfl, ?hg13⟩) S6 ?rg13
                case hg13 => (intro w hSw; clear hSw; go_simp; (try with_reducible rfl))
                case rg13 =>
                try simp only [Act.put, List.setIfInBounds_toArray, List.set_cons_zero, List.set_cons_succ]
                refine wpAnyH_done (by kernel_rfl) ?_ _
                have oD : Only (fun _ => False) w2 w6 := (Only.refl _ w2).drew.trans o6 (fun _ _ e => e)
                have HF := hide oD
                clear hH0 S6 o6 oD
                have HZ := hide hz
                clear hz
                go_wp2_with fail
                go_meet
                exact ⟨z, rfl, unhide HZ, unhide HF⟩
              case rest =>
              obtain ⟨z, rfl, hz, o3⟩ := hcut
              generalize wc = w3 at *
              have HO7 := hide ((unhide HO6).trans o3 (fun _ _ e => e))
              have cu := o3.cellF cu
              have HU3 := hide ((unhide HU2).keep o3 (fun _ _ e => e))
              clear o3 e0 e1 e2 p2 CG HU2
              rw [← unhide HKY] at hz
              have HFI := hide (fnd_iff (unhide HOK) hz)
              rcases hz with ⟨rfl, hno⟩ | ⟨p, x, hx, rfl, _⟩
              · have HN2 := hide (SfP.no (unhide HRJ) (fun h => by
                obtain ⟨q, hq, _⟩ := (unhide HFI).mpr h.1
                omega) ((unhide HO).trans (unhide HO7) (fun _ _ e => e)) : SfP e.t c lo' hi' R w (.returned (.bool false)) w3)
                clear hno
                go_wp2_with fail
                go_ret
                exact unhide HN2
              have dp : decide ((p : Int) < 0) = false := decide_eq_false (by omega)
              obtain ⟨tg, tu, tcap, he, _, tc, TU⟩ := ((unhide HE).keep (unhide HO7) (fun _ _ e => e) (fun _ _ e => e)).at_ hx
              rw [unhide HSV, unhide HN] at he
              simp only [Value.slice.injEq] at he
              obtain ⟨rfl, _, rfl⟩ := he
              have hpn : p < i := by have := (List.getElem?_eq_some_iff.mp hx).1; rw [unhide HN] at this; exact this
              have hpnI : (p : Int) < (i : Int) := by omega
              have xl : x.length = cn := unhide HLEN x (List.mem_of_getElem? hx)
              obtain ⟨ta, tcp, htu⟩ := TU.shape
              rw [xl] at htu
              subst htu
              have p4 := ((unhide HP).keep (unhide HO7) (fun e => e)).c4
              rw [unhide HSV] at p4
              have CS := jsameRow_any ((unhide HU3).keep ((Only.refl (fun _ => False) w3).drew) (fun _ _ e => e)) (TU.keep ((Only.refl (fun _ => False) w3).drew) (fun _ _ e => e)) (by rw [unhide HRN, unhide HRL]; omega)
              obtain ⟨zs, hzs⟩ : ∃ zs, decide (r = x) = zs := ⟨_, rfl⟩
              rw [hzs] at CS
              have CS := hide CS
              have HZS := hide (And.intro hzs hx)
              clear TU xl hzs hx
              go_upto_region 17 with fail
              go_cut [89] (fun zv wx => zv = .bool (!zs) ∧ Only (fun _ => False) w3 wx)
              case first =>
                refine wp_region_held_drew (S := (fun w' => w'.cell? ⟨g, j, none⟩ = some (.slice (some ⟨g1, 0, none⟩) rn uc) ∧ w'.cell? ⟨b, o + 4, none⟩ = some (.slice (some ⟨tg, 0, none⟩) i sc) ∧ w'.cell? ⟨tg, p, none⟩ = some (.slice ta cn tcp))) (by kernel_rfl) ⟨cu, p4, tc⟩ (fun hH0 => ?_)
                refine takeH 0 77 (v := ?vk1) rfl rfl (by kernel_rfl) (by kernel_rfl) (by kernel_rfl) (fun _ _ _ h => h) (Or.inl ⟨by rfl, ?hk1⟩) hH0 ?rk1
                case hk1 => (intro w hSw; clear hSw; go_simp; (try with_reducible rfl))
                case rk1 =>
                try simp only [Act.put, List.setIfInBounds_toArray, List.set_cons_zero, List.set_cons_succ]
                refine takeH 1 78 (v := ?vk2) rfl rfl (by kernel_rfl) (by kernel_rfl) (by kernel_rfl) (fun _ _ _ h => h) (Or.inl ⟨by rfl, ?hk2⟩) hH0 ?rk2
                case hk2 => (intro w hSw; clear hSw; go_simp; (try with_reducible rfl))
                case rk2 =>
                try simp only [Act.put, List.setIfInBounds_toArray, List.set_cons_zero, List.set_cons_succ]
                refine takeH 2 79 (v := ?vk3) rfl rfl (by kernel_rfl) (by kernel_rfl) (by kernel_rfl) (fun _ _ _ h => h) (Or.inl ⟨by rfl, ?hk3⟩) hH0 ?rk3
                case hk3 => (intro w hSw; clear hSw; go_simp; (try with_reducible rfl))
                case rk3 =>
                try simp only [Act.put, List.setIfInBounds_toArray, List.set_cons_zero, List.set_cons_succ]
                refine takeH 3 80 (v := ?vk4) rfl rfl (by kernel_rfl) (by kernel_rfl) (by kernel_rfl) (fun _ _ _ h => h) (Or.inl ⟨by rfl, ?hk4⟩) hH0 ?rk4
                case hk4 => (intro w hSw; obtain ⟨s0, s1, s2⟩ := hSw; go_simp; (try with_reducible rfl))
                case rk4 =>
                try simp only [Act.put, List.setIfInBounds_toArray, List.set_cons_zero, List.set_cons_succ]
                refine takeH 4 81 (v := ?vk5) rfl rfl (by kernel_rfl) (by kernel_rfl) (by kernel_rfl) (fun _ _ _ h => h) (Or.inl ⟨by rfl, ?hk5⟩) hH0 ?rk5
                case hk5 => (intro w hSw; clear hSw; go_simp; (try with_reducible rfl))
                case rk5 =>
                try simp only [Act.put, List.setIfInBounds_toArray, List.set_cons_zero, List.set_cons_succ]
                refine takeH 5 82 (v := ?vk6) rfl rfl (by kernel_rfl) (by kernel_rfl) (by kernel_rfl) (fun _ _ _ h => h) (Or.inl ⟨by rfl, ?hk6⟩) hH0 ?rk6
                case hk6 => (intro w hSw; clear hSw; go_simp; (try with_reducible rfl))
                case rk6 =>
                try simp only [Act.put, List.setIfInBounds_toArray, List.set_cons_zero, List.set_cons_succ]
                refine takeH 6 83 (v := ?vk7) rfl rfl (by kernel_rfl) (by kernel_rfl) (by kernel_rfl) (fun _ _ _ h => h) (Or.inl ⟨by rfl, ?hk7⟩) hH0 ?rk7
                case hk7 => (intro w hSw; clear hSw; go_simp; (try with_reducible rfl))
                case rk7 =>
                try simp only [Act.put, List.setIfInBounds_toArray, List.set_cons_zero, List.set_cons_succ]
                refine takeH 7 84 (v := ?vk8) rfl rfl (by kernel_rfl) (by kernel_rfl) (by kernel_rfl) (fun _ _ _ h => h) (Or.inl ⟨by rfl, ?hk8⟩) hH0 ?rk8
                case hk8 => (intro w hSw; obtain ⟨s0, s1, s2⟩ := hSw; go_simp; (try with_reducible rfl))
                case rk8 =>
                try simp only [Act.put, List.setIfInBounds_toArray, List.set_cons_zero, List.set_cons_succ]
                refine takeH 8 85 (v := ?vk9) rfl rfl (by kernel_rfl) (by kernel_rfl) (by kernel_rfl) (fun _ _ _ h => h) (Or.inl ⟨by rfl, ?hk9⟩) hH0 ?rk9
                case hk9 => (intro w hSw; clear hSw; go_simp; (try with_reducible rfl))
                case rk9 =>
                try simp only [Act.put, List.setIfInBounds_toArray, List.set_cons_zero, List.set_cons_succ]
                refine takeH 9 86 (v := ?vk10) rfl rfl (by kernel_rfl) (by kernel_rfl) (by kernel_rfl) (fun _ _ _ h => h) (Or.inl ⟨by rfl, ?hk10⟩) hH0 ?rk10
                case hk10 => (intro w hSw; clear hSw; go_simp; (try with_reducible rfl))
                case rk10 =>
                try simp only [Act.put, List.setIfInBounds_toArray, List.set_cons_zero, List.set_cons_succ]
                refine takeH 10 87 (v := ?vk11) rfl rfl (by kernel_rfl) (by kernel_rfl) (by kernel_rfl) (fun _ _ _ h => h) (Or.inl ⟨by rfl, ?hk11⟩) hH0 ?rk11
                case hk11 => (intro w hSw; obtain ⟨s0, s1, s2⟩ := hSw; go_simp; (try with_reducible rfl))
                case rk11 =>
                try simp only [Act.put, List.setIfInBounds_toArray, List.set_cons_zero, List.set_cons_succ]
                refine callH 11 (by kernel_rfl) rfl 88 rfl rfl 103 Tryz.func103 (by kernel_rfl) (by kernel_rfl) #[.tmp 80, .tmp 87] #[76, 76] rfl #[.slice (some ⟨g1, 0, none⟩) rn uc, .slice ta cn tcp] (by simp [Act.eval]) (R := fun v w' => v = .bool zs ∧ Only (fun _ => False) w3.drew w') ((unhide CS).mono (by rintro en w' ⟨rfl, o⟩; exact ⟨_, rfl, rfl, o⟩)) ?kk
                case kk =>
                rintro _ w6 ⟨rfl, o6⟩
                have S6 : w6.cell? ⟨g, j, none⟩ = some (.slice (some ⟨g1, 0, none⟩) rn uc) ∧ w6.cell? ⟨b, o + 4, none⟩ = some (.slice (some ⟨tg, 0, none⟩) i sc) ∧ w6.cell? ⟨tg, p, none⟩ = some (.slice ta cn tcp) := ⟨o6.cellF hH0.1, o6.cellF hH0.2.1, o6.cellF hH0.2.2⟩
                refine ⟨S6, ?_⟩
                try simp only [Act.put, List.setIfInBounds_toArray, List.set_cons_zero, List.set_cons_succ]
                refine takeH 12 89 (v := ?vk12) rfl rfl (by kernel_rfl) (by kernel_rfl) (by kernel_rfl) (fun _ _ _ h => h) (Or.inl ⟨by rfl, ?hk12⟩) S6 ?rk12
                case hk12 => (intro w hSw; clear hSw; go_simp; (try with_reducible rfl))
                case rk12 =>
                try simp only [Act.put, List.setIfInBounds_toArray, List.set_cons_zero, List.set_cons_succ]
                refine wpAnyH_done (by kernel_rfl) ?_ _
                have oD : Only (fun _ => False) w3 w6 := (Only.refl _ w3).drew.trans o6 (fun _ _ e => e)
                have HF := hide oD
                clear hH0 S6 o6 oD
                go_wp2_with fail
                go_meet
                exact ⟨rfl, unhide HF⟩
              case rest =>
              obtain ⟨rfl, o4⟩ := hcut
              generalize wc = w4 at *
              have HO8 := hide ((unhide HO7).trans o4 (fun _ _ e => e))
              have cu := o4.cellF cu
              have OU := (unhide HU3).keep o4 (fun _ _ e => e)
              clear o4 p4 tc CS dp
              cases zs with
              | false =>
                have HN2 := hide (SfP.no (unhide HRJ) (fun h => by
                obtain ⟨q, hq, hq2⟩ := (unhide HFI).mpr h.1
                have : p = q := by omega
                subst this
                rw [(unhide HZS).2] at hq2
                exact absurd (Option.some.inj hq2).symm (of_decide_eq_false (unhide HZS).1)) ((unhide HO).trans (unhide HO8) (fun _ _ e => e)) : SfP e.t c lo' hi' R w (.returned (.bool false)) w4)
                clear OU
                go_wp2_with fail
                go_ret
                exact unhide HN2
              | true =>
              have HIN := hide (show r ∈ e.t.rows from by rw [of_decide_eq_true (unhide HZS).1]; exact List.mem_of_getElem? (unhide HZS).2)
              obtain ⟨yc, hyc⟩ := getE (l := r) (i := c) (by rw [unhide HRN, unhide HRL]; omega)
              obtain ⟨g2, k2, hue, f0, f1, f2⟩ := getv_at OU hyc
              rw [unhide HRN] at hue
              simp only [Value.slice.injEq, Option.some.injEq, Addr.mk.injEq] at hue
              obtain ⟨⟨rfl, _⟩, _, rfl⟩ := hue
              have HKC := hide (show kyR c r = yc from by unfold kyR; rw [hyc]; rfl)
              have hcr : (c : Int) < (rn : Int) := by have := unhide HRL; omega
              have a0 := ((unhide HAB).1.keep (unhide HO8) (fun e => e)).cell 0
              have a1x := ((unhide HAB).1.keep (unhide HO8) (fun e => e)).cell 1
              have a2x := ((unhide HAB).1.keep (unhide HO8) (fun e => e)).cell 2
              have a3x := ((unhide HAB).1.keep (unhide HO8) (fun e => e)).cell 3
              have b0 := ((unhide HAB).2.keep (unhide HO8) (fun e => e)).cell 0
              have b1x := ((unhide HAB).2.keep (unhide HO8) (fun e => e)).cell 1
              have b2x := ((unhide HAB).2.keep (unhide HO8) (fun e => e)).cell 2
              have b3x := ((unhide HAB).2.keep (unhide HO8) (fun e => e)).cell 3
              simp at a0 a1x a2x a3x b0 b1x b2x b3x
              have CW := jwithin_any yc lh hh lv hv w4.drew
              rw [(unhide HB).1, (unhide HB).2] at CW
              obtain ⟨z, hz⟩ : ∃ z, inB lo' hi' yc = z := ⟨_, rfl⟩
              rw [hz] at CW
              unfold vlA bdA at CW
              have CW := hide CW
              have HZ := hide hz
              have HU4 := hide OU
              clear hyc hz OU
              go_upto_region 19 with fail
              go_cut [100] (fun zv wx => zv = .bool (!z) ∧ Only (fun _ => False) w4 wx)
              case first =>
                refine wp_region_held_drew (S := (fun w' => w'.cell? ⟨g, j, none⟩ = some (.slice (some ⟨g1, 0, none⟩) rn uc) ∧ w'.cell? ⟨g1, c * 3, none⟩ = some (.bool yc.str) ∧ w'.cell? ⟨g1, c * 3 + 1, none⟩ = some (.int .i64 yc.i) ∧ w'.cell? ⟨g1, c * 3 + 2, none⟩ = some (.string yc.s) ∧ w'.cell? ⟨kb, 0, none⟩ = some (.bool lh) ∧ w'.cell? ⟨kb, 1, none⟩ = some (.bool lv.str) ∧ w'.cell? ⟨kb, 2, none⟩ = some (.int .i64 lv.i) ∧ w'.cell? ⟨kb, 3, none⟩ = some (.string lv.s) ∧ w'.cell? ⟨kb + 1, 0, none⟩ = some (.bool hh) ∧ w'.cell? ⟨kb + 1, 1, none⟩ = some (.bool hv.str) ∧ w'.cell? ⟨kb + 1, 2, none⟩ = some (.int .i64 hv.i) ∧ w'.cell? ⟨kb + 1, 3, none⟩ = some (.string hv.s))) (by kernel_rfl) ⟨cu, f0, f1, f2, a0, a1x, a2x, a3x, b0, b1x, b2x, b3x⟩ (fun hH0 => ?_)
                refine takeH 0 90 (v := ?vm1) rfl rfl (by kernel_rfl) (by kernel_rfl) (by kernel_rfl) (fun _ _ _ h => h) (Or.inl ⟨by rfl, ?hm1⟩) hH0 ?rm1
                case hm1 => (intro w hSw; clear hSw; go_simp; (try with_reducible rfl))
                case rm1 =>
                try simp only [Act.put, List.setIfInBounds_toArray, List.set_cons_zero, List.set_cons_succ]
                refine takeH 1 91 (v := ?vm2) rfl rfl (by kernel_rfl) (by kernel_rfl) (by kernel_rfl) (fun _ _ _ h => h) (Or.inl ⟨by rfl, ?hm2⟩) hH0 ?rm2
                case hm2 => (intro w hSw; clear hSw; go_simp; (try with_reducible rfl))
                case rm2 =>
                try simp only [Act.put, List.setIfInBounds_toArray, List.set_cons_zero, List.set_cons_succ]
                refine takeH 2 92 (v := ?vm3) rfl rfl (by kernel_rfl) (by kernel_rfl) (by kernel_rfl) (fun _ _ _ h => h) (Or.inl ⟨by rfl, ?hm3⟩) hH0 ?rm3
                case hm3 => (intro w hSw; clear hSw; go_simp; (try with_reducible rfl))
                case rm3 =>
                try simp only [Act.put, List.setIfInBounds_toArray, List.set_cons_zero, List.set_cons_succ]
                refine takeH 3 93 (v := ?vm4) rfl rfl (by kernel_rfl) (by kernel_rfl) (by kernel_rfl) (fun _ _ _ h => h) (Or.inl ⟨by rfl, ?hm4⟩) hH0 ?rm4
                case hm4 => (intro w hSw; obtain ⟨s0, s1, s2, s3, s4, s5, s6, s7, s8, s9, s10, s11⟩ := hSw; go_simp; (try with_reducible rfl))
                case rm4 =>
                try simp only [Act.put, List.setIfInBounds_toArray, List.set_cons_zero, List.set_cons_succ]
                refine takeH 4 94 (v := ?vm5) rfl rfl (by kernel_rfl) (by kernel_rfl) (by kernel_rfl) (fun _ _ _ h => h) (Or.inl ⟨by rfl, ?hm5⟩) hH0 ?rm5
                case hm5 => (intro w hSw; clear hSw; go_simp; (try with_reducible rfl))
                case rm5 =>
                try simp only [Act.put, List.setIfInBounds_toArray, List.set_cons_zero, List.set_cons_succ]
                refine takeH 5 95 (v := ?vm6) rfl rfl (by kernel_rfl) (by kernel_rfl) (by kernel_rfl) (fun _ _ _ h => h) (Or.inl ⟨by rfl, ?hm6⟩) hH0 ?rm6
                case hm6 => (intro w hSw; clear hSw; go_simp; (try with_reducible rfl))
                case rm6 =>
                try simp only [Act.put, List.setIfInBounds_toArray, List.set_cons_zero, List.set_cons_succ]
                refine takeH 6 96 (v := ?vm7) rfl rfl (by kernel_rfl) (by kernel_rfl) (by kernel_rfl) (fun _ _ _ h => h) (Or.inl ⟨by rfl, ?hm7⟩) hH0 ?rm7
                case hm7 => (intro w hSw; obtain ⟨s0, s1, s2, s3, s4, s5, s6, s7, s8, s9, s10, s11⟩ := hSw; go_simp; (try with_reducible rfl))
                case rm7 =>
                try simp only [Act.put, List.setIfInBounds_toArray, List.set_cons_zero, List.set_cons_succ]
                refine takeH 7 97 (v := ?vm8) rfl rfl (by kernel_rfl) (by kernel_rfl) (by kernel_rfl) (fun _ _ _ h => h) (Or.inl ⟨by rfl, ?hm8⟩) hH0 ?rm8
                case hm8 => (intro w hSw; obtain ⟨s0, s1, s2, s3, s4, s5, s6, s7, s8, s9, s10, s11⟩ := hSw; go_simp; (try with_reducible rfl))
                case rm8 =>
                try simp only [Act.put, List.setIfInBounds_toArray, List.set_cons_zero, List.set_cons_succ]
                refine takeH 8 98 (v := ?vm9) rfl rfl (by kernel_rfl) (by kernel_rfl) (by kernel_rfl) (fun _ _ _ h => h) (Or.inl ⟨by rfl, ?hm9⟩) hH0 ?rm9
                case hm9 => (intro w hSw; obtain ⟨s0, s1, s2, s3, s4, s5, s6, s7, s8, s9, s10, s11⟩ := hSw; go_simp; (try with_reducible rfl))
                case rm9 =>
                try simp only [Act.put, List.setIfInBounds_toArray, List.set_cons_zero, List.set_cons_succ]
                refine callH 9 (by kernel_rfl) rfl 99 rfl rfl 164 Tryz.func164 (by kernel_rfl) (by kernel_rfl) #[.tmp 96, .tmp 97, .tmp 98] #[72, 74, 74] rfl #[.agg #[.bool yc.str, .int .i64 yc.i, .string yc.s], .agg #[.bool lh, .bool lv.str, .int .i64 lv.i, .string lv.s], .agg #[.bool hh, .bool hv.str, .int .i64 hv.i, .string hv.s]] (by simp [Act.eval]) (R := fun v w' => v = .bool z ∧ Only (fun _ => False) w4.drew w') ((unhide CW).mono (by rintro en w' ⟨rfl, o⟩; exact ⟨_, rfl, rfl, o⟩)) ?km
                case km =>
                rintro _ w6 ⟨rfl, o6⟩
                have S6 : w6.cell? ⟨g, j, none⟩ = some (.slice (some ⟨g1, 0, none⟩) rn uc) ∧ w6.cell? ⟨g1, c * 3, none⟩ = some (.bool yc.str) ∧ w6.cell? ⟨g1, c * 3 + 1, none⟩ = some (.int .i64 yc.i) ∧ w6.cell? ⟨g1, c * 3 + 2, none⟩ = some (.string yc.s) ∧ w6.cell? ⟨kb, 0, none⟩ = some (.bool lh) ∧ w6.cell? ⟨kb, 1, none⟩ = some (.bool lv.str) ∧ w6.cell? ⟨kb, 2, none⟩ = some (.int .i64 lv.i) ∧ w6.cell? ⟨kb, 3, none⟩ = some (.string lv.s) ∧ w6.cell? ⟨kb + 1, 0, none⟩ = some (.bool hh) ∧ w6.cell? ⟨kb + 1, 1, none⟩ = some (.bool hv.str) ∧ w6.cell? ⟨kb + 1, 2, none⟩ = some (.int .i64 hv.i) ∧ w6.cell? ⟨kb + 1, 3, none⟩ = some (.string hv.s) := ⟨o6.cellF hH0.1, o6.cellF hH0.2.1, o6.cellF hH0.2.2.1, o6.cellF hH0.2.2.2.1, o6.cellF hH0.2.2.2.2.1, o6.cellF hH0.2.2.2.2.2.1, o6.cellF hH0.2.2.2.2.2.2.1, o6.cellF hH0.2.2.2.2.2.2.2.1, o6.cellF hH0.2.2.2.2.2.2.2.2.1, o6.cellF hH0.2.2.2.2.2.2.2.2.2.1, o6.cellF hH0.2.2.2.2.2.2.2.2.2.2.1, o6.cellF hH0.2.2.2.2.2.2.2.2.2.2.2⟩
                refine ⟨S6, ?_⟩
                try simp only [Act.put, List.setIfInBounds_toArray, List.set_cons_zero, List.set_cons_succ]
                refine takeH 10 100 (v := ?vm10) rfl rfl (by kernel_rfl) (by kernel_rfl) (by kernel_rfl) (fun _ _ _ h => h) (Or.inl ⟨by rfl, ?hm10⟩) S6 ?rm10
                case hm10 => (intro w hSw; clear hSw; go_simp; (try with_reducible rfl))
                case rm10 =>
                try simp only [Act.put, List.setIfInBounds_toArray, List.set_cons_zero, List.set_cons_succ]
                refine wpAnyH_done (by kernel_rfl) ?_ _
                have oD : Only (fun _ => False) w4 w6 := (Only.refl _ w4).drew.trans o6 (fun _ _ e => e)
                have HF := hide oD
                clear hH0 S6 o6 oD
                go_wp2_with fail
                go_meet
                exact ⟨rfl, unhide HF⟩
              case rest =>
              obtain ⟨rfl, o5⟩ := hcut
              generalize wc = w5 at *
              have HO9 := hide ((unhide HO8).trans o5 (fun _ _ e => e))
              have cu := o5.cellF cu
              have f0 := o5.cellF f0
              have f1 := o5.cellF f1
              have f2 := o5.cellF f2
              have HU5 := hide ((unhide HU4).keep o5 (fun _ _ e => e))
              clear o5 CW a0 a1x a2x a3x b0 b1x b2x b3x HU4
              cases z with
              | false =>
                have HN2 := hide (SfP.no (unhide HRJ) (fun h => by
                have h2 := h.2.1
                rw [unhide HKC, unhide HZ] at h2
                cases h2) ((unhide HO).trans (unhide HO9) (fun _ _ e => e)) : SfP e.t c lo' hi' R w (.returned (.bool false)) w5)
                go_wp2_with fail
                go_ret
                exact unhide HN2
              | true =>
              have HNX := hide (fun (hord : ∀ q, 0 < j → R[j - 1]? = some q → OrdR c e.t.pk q r) => show ∀ (q : Nat) (r' : List Vl), q < j + 1 → R[q]? = some r' → OkR e.t c lo' hi' R q r' from fun q r' hq hr' => by
                by_cases cq : q = j
                · subst cq
                  rw [unhide HRJ] at hr'
                  cases hr'
                  exact ⟨unhide HIN, by rw [unhide HKC]; exact unhide HZ, hord⟩
                · exact unhide HAL q r' (by omega) hr')
              by_cases hj0 : j = 0
              · have dj : decide ((j : Int) > 0) = false := decide_eq_false (by omega)
                have dj' : decide ((0 : Int) < (j : Int)) = false := decide_eq_false (by omega)
                have HNY := hide (unhide HNX (fun q h0 _ => by omega))
                clear f0 f1 f2 cu HNX
                go_wp2_with fail
                go_roundw
                case rel => exact ⟨j + 1, by go_num, by omega, unhide HNY, unhide HO9⟩
                case measure => simp [intOf]; omega
              have dj : decide ((j : Int) > 0) = true := decide_eq_true (by omega)
              have dj' : decide ((0 : Int) < (j : Int)) = true := decide_eq_true (by omega)
              obtain ⟨kp, hkp⟩ : ∃ kp, j = kp + 1 := ⟨j - 1, by omega⟩
              have hkm : (kp : Int) < (m : Int) := by omega
              have hwj : IntKind.i64.wrap ((j : Int) - 1) = (kp : Int) := by rw [IntWalk.i64_in] <;> omega
              have HKP2 := hide hkp
              obtain ⟨r0, hr0⟩ := getE (l := R) (i := kp) (by rw [unhide HM]; omega)
              have hr0m := (unhide HAL kp r0 (by omega) hr0).1
              have r0l : r0.length = cn := unhide HLEN r0 hr0m
              obtain ⟨g0, u0, cap0, he, cv, OV⟩ := ((unhide HRR).keep (unhide HO9) (fun _ _ e => e)).get hr0
              rw [unhide HM] at he
              simp only [Value.slice.injEq, Option.some.injEq, Addr.mk.injEq] at he
              obtain ⟨⟨rfl, _⟩, _, rfl⟩ := he
              obtain ⟨v0, hv0⟩ := getE (l := r0) (i := c) (by rw [r0l]; exact hc)
              obtain ⟨h1, l1, rfl, i0, i1, i2⟩ := getv_at OV hv0
              rw [r0l] at cv
              obtain ⟨t0, ht0⟩ := getE (l := r0) (i := pk) (by rw [r0l]; omega)
              obtain ⟨h2, l2, hue, j0, j1, j2⟩ := getv_at OV ht0
              rw [r0l] at hue
              simp only [Value.slice.injEq, Option.some.injEq, Addr.mk.injEq, r0l] at hue
              obtain ⟨⟨rfl, _⟩, _, _⟩ := hue
              have HK0 := hide (show kyR c r0 = v0 ∧ kyR e.t.pk r0 = t0 from ⟨by unfold kyR; rw [hv0]; rfl, by unfold kyR; rw [unhide HPK, ht0]; rfl⟩)
              have HR0 := hide (show R[j - 1]? = some r0 from by rw [hkp, Nat.add_sub_cancel]; exact hr0)
              clear hkp
              have CC := ecmp_any v0 yc w5.drew
              obtain ⟨z1, hz1⟩ : ∃ z1, vcmp v0 yc = z1 := ⟨_, rfl⟩
              rw [hz1] at CC
              unfold vlA at CC
              have CC := hide CC
              have HZ1 := hide hz1
              clear hr0 hr0m r0l OV hv0 ht0 hz1
              go_upto_region 22 with fail
              go_cut [15] (fun zv wx => zv = .int .i64 z1 ∧ Only (fun _ => False) w5 wx)
              case first =>
                refine wp_region_held_drew (S := (fun w' => w'.cell? ⟨g, j, none⟩ = some (.slice (some ⟨g1, 0, none⟩) rn uc) ∧ w'.cell? ⟨g, kp, none⟩ = some (.slice (some ⟨h1, 0, none⟩) cn l1) ∧ w'.cell? ⟨g1, c * 3, none⟩ = some (.bool yc.str) ∧ w'.cell? ⟨g1, c * 3 + 1, none⟩ = some (.int .i64 yc.i) ∧ w'.cell? ⟨g1, c * 3 + 2, none⟩ = some (.string yc.s) ∧ w'.cell? ⟨h1, c * 3, none⟩ = some (.bool v0.str) ∧ w'.cell? ⟨h1, c * 3 + 1, none⟩ = some (.int .i64 v0.i) ∧ w'.cell? ⟨h1, c * 3 + 2, none⟩ = some (.string v0.s))) (by kernel_rfl) ⟨cu, cv, f0, f1, f2, i0, i1, i2⟩ (fun hH0 => ?_)
                refine takeH 0 103 (v := ?vn1) rfl rfl (by kernel_rfl) (by kernel_rfl) (by kernel_rfl) (fun _ _ _ h => h) (Or.inl ⟨by rfl, ?hn1⟩) hH0 ?rn1
                case hn1 => (intro w hSw; clear hSw; go_simp; (try with_reducible rfl))
                case rn1 =>
                try simp only [Act.put, List.setIfInBounds_toArray, List.set_cons_zero, List.set_cons_succ]
                refine takeH 1 104 (v := ?vn2) rfl rfl (by kernel_rfl) (by kernel_rfl) (by kernel_rfl) (fun _ _ _ h => h) (Or.inl ⟨by rfl, ?hn2⟩) hH0 ?rn2
                case hn2 => (intro w hSw; clear hSw; go_simp; (try with_reducible rfl))
                case rn2 =>
                try simp only [Act.put, List.setIfInBounds_toArray, List.set_cons_zero, List.set_cons_succ]
                refine takeH 2 105 (v := ?vn3) rfl rfl (by kernel_rfl) (by kernel_rfl) (by kernel_rfl) (fun _ _ _ h => h) (Or.inl ⟨by rfl, ?hn3⟩) hH0 ?rn3
                case hn3 => (intro w hSw; clear hSw; go_simp; (try with_reducible rfl))
                case rn3 =>
                try simp only [Act.put, List.setIfInBounds_toArray, List.set_cons_zero, List.set_cons_succ]
                refine takeH 3 106 (v := ?vn4) rfl rfl (by kernel_rfl) (by kernel_rfl) (by kernel_rfl) (fun _ _ _ h => h) (Or.inl ⟨by rfl, ?hn4⟩) hH0 ?rn4
                case hn4 => (intro w hSw; clear hSw; go_simp; (try with_reducible rfl))
                case rn4 =>
                try simp only [Act.put, List.setIfInBounds_toArray, List.set_cons_zero, List.set_cons_succ]
                refine takeH 4 107 (v := ?vn5) rfl rfl (by kernel_rfl) (by kernel_rfl) (by kernel_rfl) (fun _ _ _ h => h) (Or.inl ⟨by rfl, ?hn5⟩) hH0 ?rn5
                case hn5 => (intro w hSw; obtain ⟨s0, s1, s2, s3, s4, s5, s6, s7⟩ := hSw; go_simp; (try with_reducible rfl))
                case rn5 =>
                try simp only [Act.put, List.setIfInBounds_toArray, List.set_cons_zero, List.set_cons_succ]
                refine takeH 5 108 (v := ?vn6) rfl rfl (by kernel_rfl) (by kernel_rfl) (by kernel_rfl) (fun _ _ _ h => h) (Or.inl ⟨by rfl, ?hn6⟩) hH0 ?rn6
                case hn6 => (intro w hSw; clear hSw; go_simp; (try with_reducible rfl))
                case rn6 =>
                try simp only [Act.put, List.setIfInBounds_toArray, List.set_cons_zero, List.set_cons_succ]
                refine takeH 6 109 (v := ?vn7) rfl rfl (by kernel_rfl) (by kernel_rfl) (by kernel_rfl) (fun _ _ _ h => h) (Or.inl ⟨by rfl, ?hn7⟩) hH0 ?rn7
                case hn7 => (intro w hSw; clear hSw; go_simp; (try with_reducible rfl))
                case rn7 =>
                try simp only [Act.put, List.setIfInBounds_toArray, List.set_cons_zero, List.set_cons_succ]
                refine takeH 7 110 (v := ?vn8) rfl rfl (by kernel_rfl) (by kernel_rfl) (by kernel_rfl) (fun _ _ _ h => h) (Or.inl ⟨by rfl, ?hn8⟩) hH0 ?rn8
                case hn8 => (intro w hSw; obtain ⟨s0, s1, s2, s3, s4, s5, s6, s7⟩ := hSw; go_simp; (try with_reducible rfl))
                case rn8 =>
                try simp only [Act.put, List.setIfInBounds_toArray, List.set_cons_zero, List.set_cons_succ]
                refine takeH 8 111 (v := ?vn9) rfl rfl (by kernel_rfl) (by kernel_rfl) (by kernel_rfl) (fun _ _ _ h => h) (Or.inl ⟨by rfl, ?hn9⟩) hH0 ?rn9
                case hn9 => (intro w hSw; clear hSw; go_simp; (try with_reducible rfl))
                case rn9 =>
                try simp only [Act.put, List.setIfInBounds_toArray, List.set_cons_zero, List.set_cons_succ]
                refine takeH 9 112 (v := ?vn10) rfl rfl (by kernel_rfl) (by kernel_rfl) (by kernel_rfl) (fun _ _ _ h => h) (Or.inl ⟨by rfl, ?hn10⟩) hH0 ?rn10
                case hn10 => (intro w hSw; clear hSw; go_simp; (try with_reducible rfl))
                case rn10 =>
                try simp only [Act.put, List.setIfInBounds_toArray, List.set_cons_zero, List.set_cons_succ]
                refine takeH 10 113 (v := ?vn11) rfl rfl (by kernel_rfl) (by kernel_rfl) (by kernel_rfl) (fun _ _ _ h => h) (Or.inl ⟨by rfl, ?hn11⟩) hH0 ?rn11
                case hn11 => (intro w hSw; clear hSw; go_simp; (try with_reducible rfl))
                case rn11 =>
                try simp only [Act.put, List.setIfInBounds_toArray, List.set_cons_zero, List.set_cons_succ]
                refine takeH 11 114 (v := ?vn12) rfl rfl (by kernel_rfl) (by kernel_rfl) (by kernel_rfl) (fun _ _ _ h => h) (Or.inl ⟨by rfl, ?hn12⟩) hH0 ?rn12
                case hn12 => (intro w hSw; obtain ⟨s0, s1, s2, s3, s4, s5, s6, s7⟩ := hSw; go_simp; (try with_reducible rfl))
                case rn12 =>
                try simp only [Act.put, List.setIfInBounds_toArray, List.set_cons_zero, List.set_cons_succ]
                refine takeH 12 115 (v := ?vn13) rfl rfl (by kernel_rfl) (by kernel_rfl) (by kernel_rfl) (fun _ _ _ h => h) (Or.inl ⟨by rfl, ?hn13⟩) hH0 ?rn13
                case hn13 => (intro w hSw; clear hSw; go_simp; (try with_reducible rfl))
                case rn13 =>
                try simp only [Act.put, List.setIfInBounds_toArray, List.set_cons_zero, List.set_cons_succ]
                refine takeH 13 116 (v := ?vn14) rfl rfl (by kernel_rfl) (by kernel_rfl) (by kernel_rfl) (fun _ _ _ h => h) (Or.inl ⟨by rfl, ?hn14⟩) hH0 ?rn14
                case hn14 => (intro w hSw; clear hSw; go_simp; (try with_reducible rfl))
                case rn14 =>
                try simp only [Act.put, List.setIfInBounds_toArray, List.set_cons_zero, List.set_cons_succ]
                refine takeH 14 117 (v := ?vn15) rfl rfl (by kernel_rfl) (by kernel_rfl) (by kernel_rfl) (fun _ _ _ h => h) (Or.inl ⟨by rfl, ?hn15⟩) hH0 ?rn15
                case hn15 => (intro w hSw; obtain ⟨s0, s1, s2, s3, s4, s5, s6, s7⟩ := hSw; go_simp; (try with_reducible rfl))
                case rn15 =>
                try simp only [Act.put, List.setIfInBounds_toArray, List.set_cons_zero, List.set_cons_succ]
                refine callH 15 (by kernel_rfl) rfl 118 rfl rfl 165 Tryz.func165 (by kernel_rfl) (by kernel_rfl) #[.tmp 110, .tmp 117] #[72, 72] rfl #[.agg #[.bool v0.str, .int .i64 v0.i, .string v0.s], .agg #[.bool yc.str, .int .i64 yc.i, .string yc.s]] (by simp [Act.eval]) (R := fun v w' => v = .int .i64 z1 ∧ Only (fun _ => False) w5.drew w') ((unhide CC).mono (by rintro en w' ⟨rfl, o⟩; exact ⟨_, rfl, rfl, o⟩)) ?kn
                case kn =>
                rintro _ w6 ⟨rfl, o6⟩
                have S6 : w6.cell? ⟨g, j, none⟩ = some (.slice (some ⟨g1, 0, none⟩) rn uc) ∧ w6.cell? ⟨g, kp, none⟩ = some (.slice (some ⟨h1, 0, none⟩) cn l1) ∧ w6.cell? ⟨g1, c * 3, none⟩ = some (.bool yc.str) ∧ w6.cell? ⟨g1, c * 3 + 1, none⟩ = some (.int .i64 yc.i) ∧ w6.cell? ⟨g1, c * 3 + 2, none⟩ = some (.string yc.s) ∧ w6.cell? ⟨h1, c * 3, none⟩ = some (.bool v0.str) ∧ w6.cell? ⟨h1, c * 3 + 1, none⟩ = some (.int .i64 v0.i) ∧ w6.cell? ⟨h1, c * 3 + 2, none⟩ = some (.string v0.s) := ⟨o6.cellF hH0.1, o6.cellF hH0.2.1, o6.cellF hH0.2.2.1, o6.cellF hH0.2.2.2.1, o6.cellF hH0.2.2.2.2.1, o6.cellF hH0.2.2.2.2.2.1, o6.cellF hH0.2.2.2.2.2.2.1, o6.cellF hH0.2.2.2.2.2.2.2⟩
                refine ⟨S6, ?_⟩
                try simp only [Act.put, List.setIfInBounds_toArray, List.set_cons_zero, List.set_cons_succ]
                refine takeH 16 15 (v := ?vn16) rfl rfl (by kernel_rfl) (by kernel_rfl) (by kernel_rfl) (fun _ _ _ h => h) (Or.inl ⟨by rfl, ?hn16⟩) S6 ?rn16
                case hn16 => (intro w hSw; clear hSw; go_simp; (try with_reducible rfl))
                case rn16 =>
                try simp only [Act.put, List.setIfInBounds_toArray, List.set_cons_zero, List.set_cons_succ]
                refine wpAnyH_done (by kernel_rfl) ?_ _
                have oD : Only (fun _ => False) w5 w6 := (Only.refl _ w5).drew.trans o6 (fun _ _ e => e)
                have HF := hide oD
                clear hH0 S6 o6 oD
                go_wp2_with fail
                go_meet
                exact ⟨rfl, unhide HF⟩
              case rest =>
              obtain ⟨rfl, o7⟩ := hcut
              generalize wc = w7 at *
              have HO10 := hide ((unhide HO9).trans o7 (fun _ _ e => e))
              clear CC f0 f1 f2 i0 i1 i2 dj dj'
              have HNG := hide (fun (hn : ¬ OrdR c e.t.pk r0 r) (w9 : World) (o9 : Only (fun _ => False) w7 w9) => (SfP.no (unhide HRJ) (fun h => hn (h.2.2 r0 (by omega) (unhide HR0))) (((unhide HO).trans (unhide HO10) (fun _ _ e => e)).trans o9 (fun _ _ e => e)) : SfP e.t c lo' hi' R w (.returned (.bool false)) w9))
              have HNZ := hide (fun (ho : OrdR c e.t.pk r0 r) => unhide HNX (fun q _ hq => by rw [unhide HR0] at hq; cases hq; exact ho))
              by_cases hz1 : z1 = 0
              · have dz : (z1 == 0) = true := by simpa using hz1
                have HZ0 := hide hz1
                clear hz1
                have cu := o7.cellF cu
                have cv := o7.cellF cv
                have j0 := o7.cellF j0
                have j1 := o7.cellF j1
                have j2 := o7.cellF j2
                have OU := (unhide HU5).keep o7 (fun _ _ e => e)
                clear o7
                have p2 := ((unhide HP).keep (unhide HO10) (fun e => e)).c2
                rw [unhide HPK] at p2
                obtain ⟨yk, hyk⟩ := getE (l := r) (i := pk) (by rw [unhide HRN, unhide HRL]; omega)
                obtain ⟨g3, k3, hue, f0, f1, f2⟩ := getv_at OU hyk
                rw [unhide HRN] at hue
                simp only [Value.slice.injEq, Option.some.injEq, Addr.mk.injEq] at hue
                obtain ⟨⟨rfl, _⟩, _, rfl⟩ := hue
                have HKP := hide (show kyR e.t.pk r = yk from by unfold kyR; rw [unhide HPK, hyk]; rfl)
                have CC := ecmp_any t0 yk w7.drew
                obtain ⟨z2, hz2⟩ : ∃ z2, vcmp t0 yk = z2 := ⟨_, rfl⟩
                rw [hz2] at CC
                unfold vlA at CC
                have CC := hide CC
                have HZ2 := hide hz2
                clear hyk OU hz2
                go_upto_region 24 with fail
                go_cut [15] (fun zv wx => zv = .int .i64 z2 ∧ Only (fun _ => False) w7 wx)
                case first =>
                  refine wp_region_held_drew (S := (fun w' => w'.cell? ⟨g, j, none⟩ = some (.slice (some ⟨g1, 0, none⟩) rn uc) ∧ w'.cell? ⟨g, kp, none⟩ = some (.slice (some ⟨h1, 0, none⟩) cn l1) ∧ w'.cell? ⟨b, o + 2, none⟩ = some (.int .i64 (pk : Int)) ∧ w'.cell? ⟨g1, pk * 3, none⟩ = some (.bool yk.str) ∧ w'.cell? ⟨g1, pk * 3 + 1, none⟩ = some (.int .i64 yk.i) ∧ w'.cell? ⟨g1, pk * 3 + 2, none⟩ = some (.string yk.s) ∧ w'.cell? ⟨h1, pk * 3, none⟩ = some (.bool t0.str) ∧ w'.cell? ⟨h1, pk * 3 + 1, none⟩ = some (.int .i64 t0.i) ∧ w'.cell? ⟨h1, pk * 3 + 2, none⟩ = some (.string t0.s))) (by kernel_rfl) ⟨cu, cv, p2, f0, f1, f2, j0, j1, j2⟩ (fun hH0 => ?_)
                  refine takeH 0 121 (v := ?vp1) rfl rfl (by kernel_rfl) (by kernel_rfl) (by kernel_rfl) (fun _ _ _ h => h) (Or.inl ⟨by rfl, ?hp1⟩) hH0 ?rp1
                  case hp1 => (intro w hSw; clear hSw; go_simp; (try with_reducible rfl))
                  case rp1 =>
                  try simp only [Act.put, List.setIfInBounds_toArray, List.set_cons_zero, List.set_cons_succ]
                  refine takeH 1 122 (v := ?vp2) rfl rfl (by kernel_rfl) (by kernel_rfl) (by kernel_rfl) (fun _ _ _ h => h) (Or.inl ⟨by rfl, ?hp2⟩) hH0 ?rp2
                  case hp2 => (intro w hSw; clear hSw; go_simp; (try with_reducible rfl))
                  case rp2 =>
                  try simp only [Act.put, List.setIfInBounds_toArray, List.set_cons_zero, List.set_cons_succ]
                  refine takeH 2 123 (v := ?vp3) rfl rfl (by kernel_rfl) (by kernel_rfl) (by kernel_rfl) (fun _ _ _ h => h) (Or.inl ⟨by rfl, ?hp3⟩) hH0 ?rp3
                  case hp3 => (intro w hSw; clear hSw; go_simp; (try with_reducible rfl))
                  case rp3 =>
                  try simp only [Act.put, List.setIfInBounds_toArray, List.set_cons_zero, List.set_cons_succ]
                  refine takeH 3 124 (v := ?vp4) rfl rfl (by kernel_rfl) (by kernel_rfl) (by kernel_rfl) (fun _ _ _ h => h) (Or.inl ⟨by rfl, ?hp4⟩) hH0 ?rp4
                  case hp4 => (intro w hSw; clear hSw; go_simp; (try with_reducible rfl))
                  case rp4 =>
                  try simp only [Act.put, List.setIfInBounds_toArray, List.set_cons_zero, List.set_cons_succ]
                  refine takeH 4 125 (v := ?vp5) rfl rfl (by kernel_rfl) (by kernel_rfl) (by kernel_rfl) (fun _ _ _ h => h) (Or.inl ⟨by rfl, ?hp5⟩) hH0 ?rp5
                  case hp5 => (intro w hSw; obtain ⟨s0, s1, s2, s3, s4, s5, s6, s7, s8⟩ := hSw; go_simp; (try with_reducible rfl))
                  case rp5 =>
                  try simp only [Act.put, List.setIfInBounds_toArray, List.set_cons_zero, List.set_cons_succ]
                  refine takeH 5 126 (v := ?vp6) rfl rfl (by kernel_rfl) (by kernel_rfl) (by kernel_rfl) (fun _ _ _ h => h) (Or.inl ⟨by rfl, ?hp6⟩) hH0 ?rp6
                  case hp6 => (intro w hSw; clear hSw; go_simp; (try with_reducible rfl))
                  case rp6 =>
                  try simp only [Act.put, List.setIfInBounds_toArray, List.set_cons_zero, List.set_cons_succ]
                  refine takeH 6 127 (v := ?vp7) rfl rfl (by kernel_rfl) (by kernel_rfl) (by kernel_rfl) (fun _ _ _ h => h) (Or.inl ⟨by rfl, ?hp7⟩) hH0 ?rp7
                  case hp7 => (intro w hSw; clear hSw; go_simp; (try with_reducible rfl))
                  case rp7 =>
                  try simp only [Act.put, List.setIfInBounds_toArray, List.set_cons_zero, List.set_cons_succ]
                  refine takeH 7 128 (v := ?vp8) rfl rfl (by kernel_rfl) (by kernel_rfl) (by kernel_rfl) (fun _ _ _ h => h) (Or.inl ⟨by rfl, ?hp8⟩) hH0 ?rp8
                  case hp8 => (intro w hSw; clear hSw; go_simp; (try with_reducible rfl))
                  case rp8 =>
                  try simp only [Act.put, List.setIfInBounds_toArray, List.set_cons_zero, List.set_cons_succ]
                  refine takeH 8 129 (v := ?vp9) rfl rfl (by kernel_rfl) (by kernel_rfl) (by kernel_rfl) (fun _ _ _ h => h) (Or.inl ⟨by rfl, ?hp9⟩) hH0 ?rp9
                  case hp9 => (intro w hSw; clear hSw; go_simp; (try with_reducible rfl))
                  case rp9 =>
                  try simp only [Act.put, List.setIfInBounds_toArray, List.set_cons_zero, List.set_cons_succ]
                  refine takeH 9 130 (v := ?vp10) rfl rfl (by kernel_rfl) (by kernel_rfl) (by kernel_rfl) (fun _ _ _ h => h) (Or.inl ⟨by rfl, ?hp10⟩) hH0 ?rp10
                  case hp10 => (intro w hSw; obtain ⟨s0, s1, s2, s3, s4, s5, s6, s7, s8⟩ := hSw; go_simp; (try with_reducible rfl))
                  case rp10 =>
                  try simp only [Act.put, List.setIfInBounds_toArray, List.set_cons_zero, List.set_cons_succ]
                  refine takeH 10 131 (v := ?vp11) rfl rfl (by kernel_rfl) (by kernel_rfl) (by kernel_rfl) (fun _ _ _ h => h) (Or.inl ⟨by rfl, ?hp11⟩) hH0 ?rp11
                  case hp11 => (intro w hSw; clear hSw; go_simp; (try with_reducible rfl))
                  case rp11 =>
                  try simp only [Act.put, List.setIfInBounds_toArray, List.set_cons_zero, List.set_cons_succ]
                  refine takeH 11 132 (v := ?vp12) rfl rfl (by kernel_rfl) (by kernel_rfl) (by kernel_rfl) (fun _ _ _ h => h) (Or.inl ⟨by rfl, ?hp12⟩) hH0 ?rp12
                  case hp12 => (intro w hSw; obtain ⟨s0, s1, s2, s3, s4, s5, s6, s7, s8⟩ := hSw; go_simp; (try with_reducible rfl))
                  case rp12 =>
                  try simp only [Act.put, List.setIfInBounds_toArray, List.set_cons_zero, List.set_cons_succ]
                  refine takeH 12 133 (v := ?vp13) rfl rfl (by kernel_rfl) (by kernel_rfl) (by kernel_rfl) (fun _ _ _ h => h) (Or.inl ⟨by rfl, ?hp13⟩) hH0 ?rp13
                  case hp13 => (intro w hSw; clear hSw; go_simp; (try with_reducible rfl))
                  case rp13 =>
                  try simp only [Act.put, List.setIfInBounds_toArray, List.set_cons_zero, List.set_cons_succ]
                  refine takeH 13 134 (v := ?vp14) rfl rfl (by kernel_rfl) (by kernel_rfl) (by kernel_rfl) (fun _ _ _ h => h) (Or.inl ⟨by rfl, ?hp14⟩) hH0 ?rp14
                  case hp14 => (intro w hSw; clear hSw; go_simp; (try with_reducible rfl))
                  case rp14 =>
                  try simp only [Act.put, List.setIfInBounds_toArray, List.set_cons_zero, List.set_cons_succ]
                  refine takeH 14 135 (v := ?vp15) rfl rfl (by kernel_rfl) (by kernel_rfl) (by kernel_rfl) (fun _ _ _ h => h) (Or.inl ⟨by rfl, ?hp15⟩) hH0 ?rp15
                  case hp15 => (intro w hSw; clear hSw; go_simp; (try with_reducible rfl))
                  case rp15 =>
                  try simp only [Act.put, List.setIfInBounds_toArray, List.set_cons_zero, List.set_cons_succ]
                  refine takeH 15 136 (v := ?vp16) rfl rfl (by kernel_rfl) (by kernel_rfl) (by kernel_rfl) (fun _ _ _ h => h) (Or.inl ⟨by rfl, ?hp16⟩) hH0 ?rp16
                  case hp16 => (intro w hSw; obtain ⟨s0, s1, s2, s3, s4, s5, s6, s7, s8⟩ := hSw; go_simp; (try with_reducible rfl))
                  case rp16 =>
                  try simp only [Act.put, List.setIfInBounds_toArray, List.set_cons_zero, List.set_cons_succ]
                  refine takeH 16 137 (v := ?vp17) rfl rfl (by kernel_rfl) (by kernel_rfl) (by kernel_rfl) (fun _ _ _ h => h) (Or.inl ⟨by rfl, ?hp17⟩) hH0 ?rp17
                  case hp17 => (intro w hSw; clear hSw; go_simp; (try with_reducible rfl))
                  case rp17 =>
                  try simp only [Act.put, List.setIfInBounds_toArray, List.set_cons_zero, List.set_cons_succ]
                  refine takeH 17 138 (v := ?vp18) rfl rfl (by kernel_rfl) (by kernel_rfl) (by kernel_rfl) (fun _ _ _ h => h) (Or.inl ⟨by rfl, ?hp18⟩) hH0 ?rp18
                  case hp18 => (intro w hSw; clear hSw; go_simp; (try with_reducible rfl))
                  case rp18 =>
                  try simp only [Act.put, List.setIfInBounds_toArray, List.set_cons_zero, List.set_cons_succ]
                  refine takeH 18 139 (v := ?vp19) rfl rfl (by kernel_rfl) (by kernel_rfl) (by kernel_rfl) (fun _ _ _ h => h) (Or.inl ⟨by rfl, ?hp19⟩) hH0 ?rp19
                  case hp19 => (intro w hSw; clear hSw; go_simp; (try with_reducible rfl))
                  case rp19 =>
                  try simp only [Act.put, List.setIfInBounds_toArray, List.set_cons_zero, List.set_cons_succ]
                  refine takeH 19 140 (v := ?vp20) rfl rfl (by kernel_rfl) (by kernel_rfl) (by kernel_rfl) (fun _ _ _ h => h) (Or.inl ⟨by rfl, ?hp20⟩) hH0 ?rp20
                  case hp20 => (intro w hSw; clear hSw; go_simp; (try with_reducible rfl))
                  case rp20 =>
                  try simp only [Act.put, List.setIfInBounds_toArray, List.set_cons_zero, List.set_cons_succ]
                  refine takeH 20 141 (v := ?vp21) rfl rfl (by kernel_rfl) (by kernel_rfl) (by kernel_rfl) (fun _ _ _ h => h) (Or.inl ⟨by rfl, ?hp21⟩) hH0 ?rp21
                  case hp21 => (intro w hSw; obtain ⟨s0, s1, s2, s3, s4, s5, s6, s7, s8⟩ := hSw; go_simp; (try with_reducible rfl))
                  case rp21 =>
                  try simp only [Act.put, List.setIfInBounds_toArray, List.set_cons_zero, List.set_cons_succ]
                  refine takeH 21 142 (v := ?vp22) rfl rfl (by kernel_rfl) (by kernel_rfl) (by kernel_rfl) (fun _ _ _ h => h) (Or.inl ⟨by rfl, ?hp22⟩) hH0 ?rp22
                  case hp22 => (intro w hSw; clear hSw; go_simp; (try with_reducible rfl))
                  case rp22 =>
                  try simp only [Act.put, List.setIfInBounds_toArray, List.set_cons_zero, List.set_cons_succ]
                  refine takeH 22 143 (v := ?vp23) rfl rfl (by kernel_rfl) (by kernel_rfl) (by kernel_rfl) (fun _ _ _ h => h) (Or.inl ⟨by rfl, ?hp23⟩) hH0 ?rp23
                  case hp23 => (intro w hSw; obtain ⟨s0, s1, s2, s3, s4, s5, s6, s7, s8⟩ := hSw; go_simp; (try with_reducible rfl))
                  case rp23 =>
                  try simp only [Act.put, List.setIfInBounds_toArray, List.set_cons_zero, List.set_cons_succ]
                  refine callH 23 (by kernel_rfl) rfl 144 rfl rfl 165 Tryz.func165 (by kernel_rfl) (by kernel_rfl) #[.tmp 132, .tmp 143] #[72, 72] rfl #[.agg #[.bool t0.str, .int .i64 t0.i, .string t0.s], .agg #[.bool yk.str, .int .i64 yk.i, .string yk.s]] (by simp [Act.eval]) (R := fun v w' => v = .int .i64 z2 ∧ Only (fun _ => False) w7.drew w') ((unhide CC).mono (by rintro en w' ⟨rfl, o⟩; exact ⟨_, rfl, rfl, o⟩)) ?kp
                  case kp =>
                  rintro _ w6 ⟨rfl, o6⟩
                  have S6 : w6.cell? ⟨g, j, none⟩ = some (.slice (some ⟨g1, 0, none⟩) rn uc) ∧ w6.cell? ⟨g, kp, none⟩ = some (.slice (some ⟨h1, 0, none⟩) cn l1) ∧ w6.cell? ⟨b, o + 2, none⟩ = some (.int .i64 (pk : Int)) ∧ w6.cell? ⟨g1, pk * 3, none⟩ = some (.bool yk.str) ∧ w6.cell? ⟨g1, pk * 3 + 1, none⟩ = some (.int .i64 yk.i) ∧ w6.cell? ⟨g1, pk * 3 + 2, none⟩ = some (.string yk.s) ∧ w6.cell? ⟨h1, pk * 3, none⟩ = some (.bool t0.str) ∧ w6.cell? ⟨h1, pk * 3 + 1, none⟩ = some (.int .i64 t0.i) ∧ w6.cell? ⟨h1, pk * 3 + 2, none⟩ = some (.string t0.s) := ⟨o6.cellF hH0.1, o6.cellF hH0.2.1, o6.cellF hH0.2.2.1, o6.cellF hH0.2.2.2.1, o6.cellF hH0.2.2.2.2.1, o6.cellF hH0.2.2.2.2.2.1, o6.cellF hH0.2.2.2.2.2.2.1, o6.cellF hH0.2.2.2.2.2.2.2.1, o6.cellF hH0.2.2.2.2.2.2.2.2⟩
                  refine ⟨S6, ?_⟩
                  try simp only [Act.put, List.setIfInBounds_toArray, List.set_cons_zero, List.set_cons_succ]
                  refine takeH 24 15 (v := ?vp24) rfl rfl (by kernel_rfl) (by kernel_rfl) (by kernel_rfl) (fun _ _ _ h => h) (Or.inl ⟨by rfl, ?hp24⟩) S6 ?rp24
                  case hp24 => (intro w hSw; clear hSw; go_simp; (try with_reducible rfl))
                  case rp24 =>
                  try simp only [Act.put, List.setIfInBounds_toArray, List.set_cons_zero, List.set_cons_succ]
                  refine wpAnyH_done (by kernel_rfl) ?_ _
                  have oD : Only (fun _ => False) w7 w6 := (Only.refl _ w7).drew.trans o6 (fun _ _ e => e)
                  have HF := hide oD
                  clear hH0 S6 o6 oD
                  go_wp2_with fail
                  go_meet
                  exact ⟨rfl, unhide HF⟩
                case rest =>
                obtain ⟨rfl, o8⟩ := hcut
                generalize wc = w8 at *
                clear CC f0 f1 f2 j0 j1 j2 p2 cu cv
                by_cases hz2 : z2 < 0
                · have dz2 : decide (z2 ≥ 0) = false := decide_eq_false (by omega)
                  have dz2' : decide (0 ≤ z2) = false := decide_eq_false (by omega)
                  have HNY := hide (unhide HNZ (.inr ⟨by rw [(unhide HK0).1, unhide HKC, unhide HZ1, unhide HZ0], by rw [(unhide HK0).2, unhide HKP, unhide HZ2]; exact hz2⟩))
                  have HOE := hide ((unhide HO10).trans o8 (fun _ _ e => e))
                  clear hz2 o8 HNX HNG HNZ
                  go_wp2_with fail
                  go_roundw
                  case rel => exact ⟨j + 1, by go_num, by omega, unhide HNY, unhide HOE⟩
                  case measure => simp [intOf]; omega
                · have dz2 : decide (z2 ≥ 0) = true := decide_eq_true (by omega)
                  have dz2' : decide (0 ≤ z2) = true := decide_eq_true (by omega)
                  have HNY := hide (unhide HNG (fun h => by
                  rcases h with h | ⟨_, h⟩
                  · rw [(unhide HK0).1, unhide HKC, unhide HZ1, unhide HZ0] at h
                    omega
                  · rw [(unhide HK0).2, unhide HKP, unhide HZ2] at h
                    omega) w8 o8)
                  clear hz2 o8 HNX HNG HNZ
                  go_wp2_with fail
                  go_ret
                  exact unhide HNY
              · have dz : (z1 == 0) = false := by simpa using hz1
                by_cases hz3 : z1 < 0
                · have dz2 : decide (z1 ≥ 0) = false := decide_eq_false (by omega)
                  have dz2' : decide (0 ≤ z1) = false := decide_eq_false (by omega)
                  have HNY := hide (unhide HNZ (.inl (by rw [(unhide HK0).1, unhide HKC, unhide HZ1]; exact hz3)))
                  clear hz3 o7 hz1 HNX HNG HNZ cu cv j0 j1 j2
                  go_wp2_with fail
                  go_roundw
                  case rel => exact ⟨j + 1, by go_num, by omega, unhide HNY, unhide HO10⟩
                  case measure => simp [intOf]; omega
                · have dz2 : decide (z1 ≥ 0) = true := decide_eq_true (by omega)
                  have dz2' : decide (0 ≤ z1) = true := decide_eq_true (by omega)
                  have HNY := hide (unhide HNG (fun h => by
                  rcases h with h | ⟨h, _⟩
                  · rw [(unhide HK0).1, unhide HKC, unhide HZ1] at h
                    omega
                  · rw [(unhide HK0).1, unhide HKC, unhide HZ1] at h
                    omega) w7 (Only.refl _ _))
                  clear hz3 o7 hz1 HNX HNG HNZ cu cv j0 j1 j2
                  go_wp2_with fail
                  go_ret
                  exact unhide HNY
            · have d1 : ((rn : Int) != (cn : Int)) = true := by simp; omega
              have d1n : (rn != cn) = true := by simpa using hrl
              have HN2 := hide (fun w9 (o9 : Only (fun _ => False) wr w9) => (SfP.no (unhide HRJ) (fun h => hrl (by rw [← unhide HRN]; exact unhide HLEN r h.1)) (((unhide HO).trans (unhide HO5) (fun _ _ e => e)).trans o9 (fun _ _ e => e)) : SfP e.t c lo' hi' R w (.returned (.bool false)) w9))
              clear hrl HU
              go_wp2_with fail
              go_quiet (fail)
              go_wp2_with fail
              go_ret
              exact unhide HN2 _ (onlyQ _ _)
          · obtain rfl : j = m := by omega
            have a1 : decide ((j : Int) < (j : Int)) = false := by simp
            have HE2 := hide (show SfP e.t c lo' hi' R w (.returned (.bool true)) wr from ⟨true, rfl, ⟨fun _ => ⟨by rw [unhide HM, unhide HALL]; exact unhide HCM, fun q r hr => unhide HAL q r (by have := (List.getElem?_eq_some_iff.mp hr).1; rw [unhide HM] at this; exact this) hr⟩, fun _ => rfl⟩, (unhide HO).trans oW (fun _ _ e => e)⟩)
            clear oW
            go_wp2_with fail
            go_ret
            exact unhide HE2
      · have d2 : ((m : Int) != (cnt : Int)) = true := by simp; omega
        have d2n : (m != cnt) = true := by simpa using hcm
        have HE2 := hide (show SfP e.t c lo' hi' R w (.returned (.bool false)) wr from ⟨false, rfl, ⟨fun h => (by cases h), fun f => absurd (by rw [← unhide HM, f.1, unhide HALL]) hcm⟩, (unhide HO).trans (unhide HOW) (fun _ _ e => e)⟩)
        clear hcm
        go_wp2_with fail
        go_ret
        exact unhide HE2
end
end Go.Proofs.Qxb6500413aGreat
