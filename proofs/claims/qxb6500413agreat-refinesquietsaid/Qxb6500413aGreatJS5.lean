/-
  OWN WORK. THE TABLE LAW: Shown (written by tools/gen_js5.py).
-/
import Derived.Test.Qxb6500413aGreatJS4
import Derived.Test.Qxb6500413aGreatEBr
namespace Go.Proofs.Qxb6500413aGreat
open Go.RowKit Go.PlainAid
set_option linter.unusedSimpArgs false
set_option linter.unusedVariables false

theorem zwf : (⟨false, 0, ⟨#[]⟩⟩ : Vl).wf := .inl ⟨rfl, rfl, (show In64 0 from by unfold In64; omega)⟩
theorem findD_uniq {D : Db} (d : DOk D) {t0 t1 : Tb} {nm : ByteArray} (h0 : t0 ∈ D) (hn : t0.nm = nm) (hf : findD D nm = some t1) : t1 = t0 := by
  unfold findD at hf
  have h1 := List.mem_of_find?_eq_some hf
  have h2 := List.find?_some hf
  simp at h2
  exact by_key (fun t : Tb => t.nm) d.srt h1 h0 (h2.trans hn.symm)
/-- What Shown answers. -/
def ShX (l : List GE) (D : Db) (op open_ : Bool) (bb : Bool) : Prop := bb = true ↔ op = open_ ∧ GP (l.map (·.t)) D
theorem ShX.no {l : List GE} {D : Db} {op open_ : Bool} (h : ¬ GP (l.map (·.t)) D) : ShX l D op open_ false := ⟨fun e => (by cases e), fun e => absurd e.2 h⟩
section
variable {q : Gnd} {w w' : World} {x : Nat} {op : Bool} {S : Vu} {T : List (Tb × Hd)} {v : Value} {l : List GE}
set_option maxRecDepth 100000 in
set_option maxHeartbeats 16000000 in
theorem jshown_any (H : ST q w x op S) (L : Lay S T) (G : GL w v l) (hq : ∀ k, GLm v l k ∨ GLi l k → ¬ q.S k) (open_ : Bool) : Calls Tryz.prog 13 #[.pointer (some ⟨x, 0, none⟩), v, .bool open_] w (KsP q w x op S (ShX l (dbOf T) op open_)) := by
  obtain ⟨va, vc, hvs⟩ := G.shape
  subst hvs
  have CI := hide (sintxn_any H)
  have CN := hide (jkeptNames_any H L G hq)
  have HL := hide L
  have HG := hide (And.intro G hq)
  have HH := hide H
  have hl3 := G.len
  clear H L G hq
  obtain ⟨ln, hln⟩ : ∃ ln, l.length = ln := ⟨_, rfl⟩
  rw [hln] at hl3 HG CN ⊢
  have HLN := hide hln
  clear hln
  go_enter Tryz.func13, Tryz.ntmps13
  go_wp2_with fail
  refine (unhide CI).mono ?_
  rintro y w1 ⟨rfl, rfl⟩
  clear CI
  by_cases hop : op = open_
  · subst hop
    have d0 : (op != op) = false := by simp
    have d0' : (!(op == op)) = false := by simp
    go_wp2_with fail
    refine (unhide CN).mono ?_
    rintro y w1 ⟨b1, rfl, h1, st1, o1⟩
    clear CN d0 d0'
    cases b1 with
    | false =>
      have HP := hide (show KsP q w x op S (ShX l (dbOf T) op op) (.returned (.bool false)) w1 from ⟨false, rfl, ShX.no (fun P => by have := h1.mpr P.1; cases this), st1, o1⟩)
      clear h1 st1 o1
      go_wp2_with fail
      go_ret
      exact unhide HP
    | true =>
    have HNM := hide (h1.mp rfl)
    have HS1 := hide (And.intro st1 o1)
    clear h1 st1 o1
    have HE := hide (fun (hn : ¬ GP (l.map (·.t)) (dbOf T)) (w9 : World) (st9 : ST q w9 x op S) (o9 : Only q.S w w9) => show KsP q w x op S (ShX l (dbOf T) op op) (.returned (.bool false)) w9 from ⟨false, rfl, ShX.no hn, st9, o9⟩)
    go_upto_region 6 with fail
    go_loopw [7, 8, 9] (fun iv sv jv wr => ∃ i : Nat, iv = .int .i64 i ∧ i ≤ ln ∧ (∀ (j : Nat) (e : GE), j < i → l[j]? = some e → ∃ t0, findD (dbOf T) e.t.nm = some t0 ∧ GT e.t t0) ∧ ST q wr x op S ∧ Only q.S w wr) (fun iv _ _ _ => ln - (intOf iv).toNat)
    case atStart => exact ⟨0, rfl, Nat.zero_le _, fun j _ hj => by omega, (unhide HS1).1, (unhide HS1).2⟩
    case round =>
      obtain ⟨i, rfl, hi, hT, stW, oW⟩ := hrel
      have HT := hide hT
      clear hT
      by_cases hi2 : i < ln
      · have a1 : decide ((i : Int) < (ln : Int)) = true := decide_eq_true (by omega)
        have a1p : (i : Int) < (ln : Int) := by omega
        obtain ⟨e, he⟩ := getE (l := l) (i := i) (by rw [unhide HLN]; exact hi2)
        have GW := (unhide HG).1.keep oW (fun k hk => (unhide HG).2 k (.inl hk)) (fun k hk => (unhide HG).2 k (.inr hk))
        have HEM := hide he
        have hok := (GW.el e (List.mem_of_getElem? he)).ok
        obtain ⟨b, cap, hvx, PW, EW⟩ := GW.pt he
        rw [unhide HLN] at hvx
        simp only [Value.slice.injEq] at hvx
        obtain ⟨rfl, _, rfl⟩ := hvx
        have p0 := PW.c0
        have p1 := PW.c1
        have p2 := PW.c2
        have p3 := PW.c3
        obtain ⟨ca, cc, hcc⟩ := EW.col.shape
        rw [hcc] at p1
        have HCC := hide hcc
        obtain ⟨en, hen⟩ : ∃ en, e.t.nm = en := ⟨_, rfl⟩
        rw [hen] at p0
        have HEN := hide hen
        obtain ⟨cn, hcn⟩ : ∃ cn, e.t.cols.length = cn := ⟨_, rfl⟩
        rw [hcn] at p1
        have HCN := hide hcn
        obtain ⟨pk, hpk⟩ : ∃ pk, e.t.pk = pk := ⟨_, rfl⟩
        rw [hpk] at p2
        have HPK := hide hpk
        obtain ⟨ix, hix⟩ : ∃ ix, ixI e.t.ix = ix := ⟨_, rfl⟩
        rw [hix] at p3
        have HIX := hide hix
        have o2 : Only (fun _ => False) wr (wr.alloc (.cells #[.string en, .slice ca cn cc, .int .i64 (pk : Int), .int .i64 ix] 65)) := (Only.refl _ wr).alloc _
        have A2 : Has (wr.alloc (.cells #[.string en, .slice ca cn cc, .int .i64 (pk : Int), .int .i64 ix] 65)) wr.heap.size #[.string en, .slice ca cn cc, .int .i64 (pk : Int), .int .i64 ix] 65 := Has.new wr _ _
        have nS : ¬ q.S wr.heap.size := stW.new (Nat.le_refl _)
        have HW2 := hide (And.intro (stW.quiet o2) (And.intro (oW.trans (o2.mono (fun _ _ e => e.elim)) (fun _ _ e => e) : Only q.S w _) (And.intro A2 nS)))
        have HOK := hide hok
        clear GW he PW EW hcc hen hcn hpk hix stW oW o2 A2 nS hok
        go_upto_region 9 with fail
        generalize wr.alloc (.cells #[.string en, .slice ca cn cc, .int .i64 (pk : Int), .int .i64 ix] 65) = w2 at *
        generalize wr.heap.size = sb at *
        have HSB := hide (unhide HW2).2.2.2
        clear p0 p1 p2 p3
        have GK := (unhide HG).1.keep (unhide HW2).2.1 (fun k hk => (unhide HG).2 k (.inl hk)) (fun k hk => (unhide HG).2 k (.inr hk))
        have s0 := (unhide HW2).2.2.1.cell 0
        have s2 := (unhide HW2).2.2.1.cell 2
        have s3 := (unhide HW2).2.2.1.cell 3
        simp at s0 s2 s3
        have CC := jkeptSchema_any (unhide HW2).1 (unhide HL) GK (unhide HG).2 en
        have CC := hide CC
        clear GK s2 s3
        go_wp2_with fail
        refine (unhide CC).mono ?_
        rintro y w3 ⟨b2, rfl, h2, st3, o3⟩
        have HW3 := hide (And.intro st3 (And.intro ((unhide HW2).2.1.trans o3 (fun _ _ e => e)) (And.intro ((unhide HW2).2.2.1.keep o3 (unhide HW2).2.2.2) (unhide HW2).2.2.2)))
        have HX2 := hide h2
        clear st3 o3 h2 s0 CC HW2
        cases b2 with
        | false =>
          have HP := hide (unhide HE (fun P => by have := (unhide HX2).1 P; cases this) w3 (unhide HW3).1 (unhide HW3).2.1)
          go_wp2_with fail
          go_ret
          exact unhide HP
        | true =>
        have GK := (unhide HG).1.keep (unhide HW3).2.1 (fun k hk => (unhide HG).2 k (.inl hk)) (fun k hk => (unhide HG).2 k (.inr hk))
        have s0 := (unhide HW3).2.2.1.cell 0
        have s2 := (unhide HW3).2.2.1.cell 2
        have s3 := (unhide HW3).2.2.1.cell 3
        simp at s0 s2 s3
        have CS := jkeptScan_any (unhide HW3).1 (unhide HL) GK (unhide HG).2 en (pk : Int) false false (⟨false, 0, ⟨#[]⟩⟩ : Vl) (⟨false, 0, ⟨#[]⟩⟩ : Vl) zwf zwf
        unfold bdA at CS
        simp only at CS
        have CS := hide CS
        clear GK s3
        go_wp2_with fail
        refine (unhide CS).mono ?_
        rintro y w4 ⟨b3, rfl, h2, st3, o3⟩
        have HW4 := hide (And.intro st3 (And.intro ((unhide HW3).2.1.trans o3 (fun _ _ e => e)) (And.intro ((unhide HW3).2.2.1.keep o3 (unhide HW3).2.2.2) (unhide HW3).2.2.2)))
        have HX3 := hide h2
        clear st3 o3 h2 s0 CS
        cases b3 with
        | false =>
          have HP := hide (unhide HE (fun P => by have := (unhide HX3).1 P; cases this) w4 (unhide HW4).1 (unhide HW4).2.1)
          go_wp2_with fail
          go_ret
          exact unhide HP
        | true =>
        clear s2 HW3
        have HGT := hide (show ∃ t0, findD (dbOf T) e.t.nm = some t0 ∧ GT e.t t0 from by
          obtain ⟨t0, f1, f2, f3, f4⟩ := (unhide HX2).2 rfl e (List.mem_of_getElem? (unhide HEM)) (unhide HEN)
          refine ⟨t0, by rw [unhide HEN]; exact f1, ?_⟩
          have hn0 : t0.nm = en := by
            unfold findD at f1
            simpa using List.find?_some f1
          exact ⟨(unhide HEN).trans hn0.symm, f2, f3, f4, (unhide HX3).2 rfl e (List.mem_of_getElem? (unhide HEM)) (unhide HEN) (by rw [unhide HPK]) rfl rfl t0 f1 f3.symm⟩)
        clear HX2 HX3
        have HT2 := hide (show ∀ (j : Nat) (e' : GE), j < i + 1 → l[j]? = some e' → ∃ t0, findD (dbOf T) e'.t.nm = some t0 ∧ GT e'.t t0 from fun j e' hj he' => by
          by_cases c : j = i
          · subst c
            rw [unhide HEM] at he'
            cases he'
            exact unhide HGT
          · exact unhide HT j e' (by omega) he')
        clear HT HGT
        have GK := (unhide HG).1.keep (unhide HW4).2.1 (fun k hk => (unhide HG).2 k (.inl hk)) (fun k hk => (unhide HG).2 k (.inr hk))
        have s0 := (unhide HW4).2.2.1.cell 0
        have s2 := (unhide HW4).2.2.1.cell 2
        have s3 := (unhide HW4).2.2.1.cell 3
        simp at s0 s2 s3
        have hn8 := (unhide HOK).len
        obtain ⟨n, hn⟩ : ∃ n, e.t.rows.length = n := ⟨_, rfl⟩
        rw [hn] at hn8
        have HN := hide hn
        clear hn
        by_cases hx0 : 0 ≤ ix
        · have dx : decide (ix ≥ 0) = true := decide_eq_true hx0
          have dx' : decide (0 ≤ ix) = true := decide_eq_true hx0
          clear hx0
          have CS := jkeptScan_any (unhide HW4).1 (unhide HL) GK (unhide HG).2 en ix false false (⟨false, 0, ⟨#[]⟩⟩ : Vl) (⟨false, 0, ⟨#[]⟩⟩ : Vl) zwf zwf
          unfold bdA at CS
          simp only at CS
          have CS := hide CS
          clear GK s2
          go_wp2_with fail
          refine (unhide CS).mono ?_
          rintro y w5 ⟨b4, rfl, h2, st3, o3⟩
          have HW5 := hide (And.intro st3 (And.intro ((unhide HW4).2.1.trans o3 (fun _ _ e => e)) (And.intro ((unhide HW4).2.2.1.keep o3 (unhide HW4).2.2.2) (unhide HW4).2.2.2)))
          have HX4 := hide h2
          clear st3 o3 h2 s0 CS
          cases b4 with
          | false =>
            have HP := hide (unhide HE (fun P => by have := (unhide HX4).1 P; cases this) w5 (unhide HW5).1 (unhide HW5).2.1)
            go_wp2_with fail
            go_ret
            exact unhide HP
          | true =>
          clear s3 dx dx' HW4 HX4
          go_upto_region 17 with fail
          go_loopw [9] (fun jv wr => ∃ j : Nat, jv = .int .i64 j ∧ j ≤ n ∧ ST q wr x op S ∧ Only q.S w wr ∧ Has wr sb #[.string en, .slice ca cn cc, .int .i64 (pk : Int), .int .i64 ix] 65) (fun jv _ => n - (intOf jv).toNat)
          case atStart => exact ⟨0, rfl, Nat.zero_le _, (unhide HW5).1, (unhide HW5).2.1, (unhide HW5).2.2.1⟩
          case round =>
            obtain ⟨j, rfl, hj, stJ, oJ, AJ⟩ := hrel
            have GJ := (unhide HG).1.keep oJ (fun k hk => (unhide HG).2 k (.inl hk)) (fun k hk => (unhide HG).2 k (.inr hk))
            obtain ⟨b', cap', hvx, PJ, EJ⟩ := GJ.pt (unhide HEM)
            rw [unhide HLN] at hvx
            simp only [Value.slice.injEq, Option.some.injEq, Addr.mk.injEq] at hvx
            obtain ⟨⟨rfl, _⟩, _, rfl⟩ := hvx
            have p4 := PJ.c4
            obtain ⟨ra, rc, hrv⟩ := EJ.rshape
            rw [hrv, unhide HN] at p4
            by_cases hj2 : j < n
            · have b1 : decide ((j : Int) < (n : Int)) = true := decide_eq_true (by omega)
              have b1p : (j : Int) < (n : Int) := by omega
              obtain ⟨r, hr⟩ := getE (l := e.t.rows) (i := j) (by rw [unhide HN]; exact hj2)
              obtain ⟨g, u, cp, hru, hus, cu, OU⟩ := EJ.at_ hr
              rw [hrv, unhide HN] at hru
              simp only [Value.slice.injEq] at hru
              obtain ⟨rfl, _, rfl⟩ := hru
              have hrok := (unhide HOK).row r (List.mem_of_getElem? hr)
              obtain ⟨y, hy⟩ := getE (l := r) (i := e.t.pk) (by rw [hrok.len]; exact (unhide HOK).pkn)
              have hyw : y.wf := (hrok.2 y (List.mem_of_getElem? hy)).1
              obtain ⟨g1, k1, rfl, e0, e1, e2⟩ := getv_at OU hy
              rw [unhide HPK] at e0 e1 e2
              have hpr : (pk : Int) < (r.length : Int) := by have := (List.getElem?_eq_some_iff.mp hy).1; rw [unhide HPK] at this; omega
              obtain ⟨rn, hrn⟩ : ∃ rn, r.length = rn := ⟨_, rfl⟩
              rw [hrn] at cu hpr
              have s0 := AJ.cell 0
              have s2 := AJ.cell 2
              simp at s0 s2
              have CK := jkeptLookup_any (stJ.quiet ((Only.refl (fun _ => False) wr).drew)) (unhide HL) (GJ.quiet ((Only.refl (fun _ => False) wr).drew)) (unhide HG).2 en y hyw
              unfold vlA at CK
              have CK := hide CK
              have HSJ := hide (And.intro stJ (And.intro oJ (And.intro AJ trivial)))
              have HNQ := hide (show ¬ q.S sb ∧ ¬ q.S b ∧ ¬ q.S g ∧ ¬ q.S g1 from ⟨unhide HSB, (unhide HG).2 b (.inl (.inl rfl)), (unhide HG).2 g (.inl (.inr ⟨e, List.mem_of_getElem? (unhide HEM), by unfold GEm; rw [hrv]; rfl⟩)), (unhide HG).2 g1 (.inr ⟨e, List.mem_of_getElem? (unhide HEM), .inr ⟨_, List.mem_of_getElem? hus, rfl⟩⟩)⟩)
              clear GJ PJ EJ hrv OU hrok hy hus hyw hr hrn stJ oJ AJ
              go_upto_region 19 with fail
              go_cut [85] (fun zv wx => ∃ bk : Bool, zv = .bool (!bk) ∧ (GP (l.map (·.t)) (dbOf T) → bk = true) ∧ ST q wx x op S ∧ Only q.S wr wx)
              case first =>
                refine wp_region_held_drew (S := (fun w' => w'.cell? ⟨sb, 0, none⟩ = some (.string en) ∧ w'.cell? ⟨sb, 2, none⟩ = some (.int .i64 (pk : Int)) ∧ w'.cell? ⟨b, i * 5 + 4, none⟩ = some (.slice (some ⟨g, 0, none⟩) n rc) ∧ w'.cell? ⟨g, j, none⟩ = some (.slice (some ⟨g1, 0, none⟩) rn k1) ∧ w'.cell? ⟨g1, pk * 3, none⟩ = some (.bool y.str) ∧ w'.cell? ⟨g1, pk * 3 + 1, none⟩ = some (.int .i64 y.i) ∧ w'.cell? ⟨g1, pk * 3 + 2, none⟩ = some (.string y.s))) (by kernel_rfl) ⟨s0, s2, p4, cu, e0, e1, e2⟩ (fun hH0 => ?_)
                refine takeH 0 68 (v := ?vk1) rfl rfl (by kernel_rfl) (by kernel_rfl) (by kernel_rfl) (fun _ _ _ h => h) (Or.inl ⟨by rfl, ?hk1⟩) hH0 ?rk1
                case hk1 => (intro w hSw; clear hSw; go_simp; (try with_reducible rfl))
                case rk1 =>
                try simp only [Act.put, List.setIfInBounds_toArray, List.set_cons_zero, List.set_cons_succ]
                refine takeH 1 69 (v := ?vk2) rfl rfl (by kernel_rfl) (by kernel_rfl) (by kernel_rfl) (fun _ _ _ h => h) (Or.inl ⟨by rfl, ?hk2⟩) hH0 ?rk2
                case hk2 => (intro w hSw; clear hSw; go_simp; (try with_reducible rfl))
                case rk2 =>
                try simp only [Act.put, List.setIfInBounds_toArray, List.set_cons_zero, List.set_cons_succ]
                refine takeH 2 70 (v := ?vk3) rfl rfl (by kernel_rfl) (by kernel_rfl) (by kernel_rfl) (fun _ _ _ h => h) (Or.inl ⟨by rfl, ?hk3⟩) hH0 ?rk3
                case hk3 => (intro w hSw; clear hSw; go_simp; (try with_reducible rfl))
                case rk3 =>
                try simp only [Act.put, List.setIfInBounds_toArray, List.set_cons_zero, List.set_cons_succ]
                refine takeH 3 71 (v := ?vk4) rfl rfl (by kernel_rfl) (by kernel_rfl) (by kernel_rfl) (fun _ _ _ h => h) (Or.inl ⟨by rfl, ?hk4⟩) hH0 ?rk4
                case hk4 => (intro w hSw; obtain ⟨s0, s1, s2, s3, s4, s5, s6⟩ := hSw; go_simp; (try with_reducible rfl))
                case rk4 =>
                try simp only [Act.put, List.setIfInBounds_toArray, List.set_cons_zero, List.set_cons_succ]
                refine takeH 4 72 (v := ?vk5) rfl rfl (by kernel_rfl) (by kernel_rfl) (by kernel_rfl) (fun _ _ _ h => h) (Or.inl ⟨by rfl, ?hk5⟩) hH0 ?rk5
                case hk5 => (intro w hSw; clear hSw; go_simp; (try with_reducible rfl))
                case rk5 =>
                try simp only [Act.put, List.setIfInBounds_toArray, List.set_cons_zero, List.set_cons_succ]
                refine takeH 5 73 (v := ?vk6) rfl rfl (by kernel_rfl) (by kernel_rfl) (by kernel_rfl) (fun _ _ _ h => h) (Or.inl ⟨by rfl, ?hk6⟩) hH0 ?rk6
                case hk6 => (intro w hSw; clear hSw; go_simp; (try with_reducible rfl))
                case rk6 =>
                try simp only [Act.put, List.setIfInBounds_toArray, List.set_cons_zero, List.set_cons_succ]
                refine takeH 6 74 (v := ?vk7) rfl rfl (by kernel_rfl) (by kernel_rfl) (by kernel_rfl) (fun _ _ _ h => h) (Or.inl ⟨by rfl, ?hk7⟩) hH0 ?rk7
                case hk7 => (intro w hSw; clear hSw; go_simp; (try with_reducible rfl))
                case rk7 =>
                try simp only [Act.put, List.setIfInBounds_toArray, List.set_cons_zero, List.set_cons_succ]
                refine takeH 7 75 (v := ?vk8) rfl rfl (by kernel_rfl) (by kernel_rfl) (by kernel_rfl) (fun _ _ _ h => h) (Or.inl ⟨by rfl, ?hk8⟩) hH0 ?rk8
                case hk8 => (intro w hSw; clear hSw; go_simp; (try with_reducible rfl))
                case rk8 =>
                try simp only [Act.put, List.setIfInBounds_toArray, List.set_cons_zero, List.set_cons_succ]
                refine takeH 8 76 (v := ?vk9) rfl rfl (by kernel_rfl) (by kernel_rfl) (by kernel_rfl) (fun _ _ _ h => h) (Or.inl ⟨by rfl, ?hk9⟩) hH0 ?rk9
                case hk9 => (intro w hSw; obtain ⟨s0, s1, s2, s3, s4, s5, s6⟩ := hSw; go_simp; (try with_reducible rfl))
                case rk9 =>
                try simp only [Act.put, List.setIfInBounds_toArray, List.set_cons_zero, List.set_cons_succ]
                refine takeH 9 77 (v := ?vk10) rfl rfl (by kernel_rfl) (by kernel_rfl) (by kernel_rfl) (fun _ _ _ h => h) (Or.inl ⟨by rfl, ?hk10⟩) hH0 ?rk10
                case hk10 => (intro w hSw; clear hSw; go_simp; (try with_reducible rfl))
                case rk10 =>
                try simp only [Act.put, List.setIfInBounds_toArray, List.set_cons_zero, List.set_cons_succ]
                refine takeH 10 78 (v := ?vk11) rfl rfl (by kernel_rfl) (by kernel_rfl) (by kernel_rfl) (fun _ _ _ h => h) (Or.inl ⟨by rfl, ?hk11⟩) hH0 ?rk11
                case hk11 => (intro w hSw; clear hSw; go_simp; (try with_reducible rfl))
                case rk11 =>
                try simp only [Act.put, List.setIfInBounds_toArray, List.set_cons_zero, List.set_cons_succ]
                refine takeH 11 79 (v := ?vk12) rfl rfl (by kernel_rfl) (by kernel_rfl) (by kernel_rfl) (fun _ _ _ h => h) (Or.inl ⟨by rfl, ?hk12⟩) hH0 ?rk12
                case hk12 => (intro w hSw; obtain ⟨s0, s1, s2, s3, s4, s5, s6⟩ := hSw; go_simp; (try with_reducible rfl))
                case rk12 =>
                try simp only [Act.put, List.setIfInBounds_toArray, List.set_cons_zero, List.set_cons_succ]
                refine takeH 12 80 (v := ?vk13) rfl rfl (by kernel_rfl) (by kernel_rfl) (by kernel_rfl) (fun _ _ _ h => h) (Or.inl ⟨by rfl, ?hk13⟩) hH0 ?rk13
                case hk13 => (intro w hSw; clear hSw; go_simp; (try with_reducible rfl))
                case rk13 =>
                try simp only [Act.put, List.setIfInBounds_toArray, List.set_cons_zero, List.set_cons_succ]
                refine takeH 13 81 (v := ?vk14) rfl rfl (by kernel_rfl) (by kernel_rfl) (by kernel_rfl) (fun _ _ _ h => h) (Or.inl ⟨by rfl, ?hk14⟩) hH0 ?rk14
                case hk14 => (intro w hSw; obtain ⟨s0, s1, s2, s3, s4, s5, s6⟩ := hSw; go_simp; (try with_reducible rfl))
                case rk14 =>
                try simp only [Act.put, List.setIfInBounds_toArray, List.set_cons_zero, List.set_cons_succ]
                refine takeH 14 82 (v := ?vk15) rfl rfl (by kernel_rfl) (by kernel_rfl) (by kernel_rfl) (fun _ _ _ h => h) (Or.inl ⟨by rfl, ?hk15⟩) hH0 ?rk15
                case hk15 => (intro w hSw; clear hSw; go_simp; (try with_reducible rfl))
                case rk15 =>
                try simp only [Act.put, List.setIfInBounds_toArray, List.set_cons_zero, List.set_cons_succ]
                refine takeH 15 83 (v := ?vk16) rfl rfl (by kernel_rfl) (by kernel_rfl) (by kernel_rfl) (fun _ _ _ h => h) (Or.inl ⟨by rfl, ?hk16⟩) hH0 ?rk16
                case hk16 => (intro w hSw; obtain ⟨s0, s1, s2, s3, s4, s5, s6⟩ := hSw; go_simp; (try with_reducible rfl))
                case rk16 =>
                try simp only [Act.put, List.setIfInBounds_toArray, List.set_cons_zero, List.set_cons_succ]
                refine callH 16 (by kernel_rfl) rfl 84 rfl rfl 38 Tryz.func38 (by kernel_rfl) (by kernel_rfl) #[.tmp 68, .tmp 69, .tmp 71, .tmp 83] #[32, 36, 9, 72] rfl #[.pointer (some ⟨x, 0, none⟩), .slice (some ⟨b, 0, none⟩) ln vc, .string en, .agg #[.bool y.str, .int .i64 y.i, .string y.s]] (by simp [Act.eval]) (R := fun v w' => ∃ bk : Bool, v = .bool bk ∧ (GP (l.map (·.t)) (dbOf T) → bk = true) ∧ ST q w' x op S ∧ Only q.S wr.drew w') ((unhide CK).mono (by rintro en w' ⟨bk, rfl, hb, hs, o⟩; exact ⟨_, rfl, bk, rfl, hb, hs, o⟩)) ?kk
                case kk =>
                rintro _ w6 ⟨bk, rfl, hb, hs, oq⟩
                have S6 : w6.cell? ⟨sb, 0, none⟩ = some (.string en) ∧ w6.cell? ⟨sb, 2, none⟩ = some (.int .i64 (pk : Int)) ∧ w6.cell? ⟨b, i * 5 + 4, none⟩ = some (.slice (some ⟨g, 0, none⟩) n rc) ∧ w6.cell? ⟨g, j, none⟩ = some (.slice (some ⟨g1, 0, none⟩) rn k1) ∧ w6.cell? ⟨g1, pk * 3, none⟩ = some (.bool y.str) ∧ w6.cell? ⟨g1, pk * 3 + 1, none⟩ = some (.int .i64 y.i) ∧ w6.cell? ⟨g1, pk * 3 + 2, none⟩ = some (.string y.s) := ⟨cell_keep (hH0.1) oq (unhide HNQ).1, cell_keep (hH0.2.1) oq (unhide HNQ).1, cell_keep (hH0.2.2.1) oq (unhide HNQ).2.1, cell_keep (hH0.2.2.2.1) oq (unhide HNQ).2.2.1, cell_keep (hH0.2.2.2.2.1) oq (unhide HNQ).2.2.2, cell_keep (hH0.2.2.2.2.2.1) oq (unhide HNQ).2.2.2, cell_keep (hH0.2.2.2.2.2.2) oq (unhide HNQ).2.2.2⟩
                refine ⟨S6, ?_⟩
                try simp only [Act.put, List.setIfInBounds_toArray, List.set_cons_zero, List.set_cons_succ]
                refine takeH 17 85 (v := ?vk17) rfl rfl (by kernel_rfl) (by kernel_rfl) (by kernel_rfl) (fun _ _ _ h => h) (Or.inl ⟨by rfl, ?hk17⟩) S6 ?rk17
                case hk17 => (intro w hSw; clear hSw; go_simp; (try with_reducible rfl))
                case rk17 =>
                try simp only [Act.put, List.setIfInBounds_toArray, List.set_cons_zero, List.set_cons_succ]
                refine wpAnyH_done (by kernel_rfl) ?_ _
                have HF := hide (And.intro hs ((((Only.refl (fun _ => False) wr).drew).mono (fun _ _ e => e.elim)).trans oq (fun _ _ e => e) : Only q.S wr w6))
                clear hH0 S6 oq hs
                have HBK := hide hb
                clear hb
                go_wp2_with fail
                go_meet
                exact ⟨bk, rfl, unhide HBK, (unhide HF).1, (unhide HF).2⟩
              case rest =>
              obtain ⟨bk, rfl, hb, st5, o5⟩ := hcut
              generalize wc = w5 at *
              have HS5 := hide (And.intro st5 (And.intro ((unhide HSJ).2.1.trans o5 (fun _ _ e => e)) ((unhide HSJ).2.2.1.keep o5 (unhide HNQ).1)))
              clear st5 o5 CK s0 s2 p4 cu e0 e1 e2
              cases bk with
              | false =>
                have HP := hide (unhide HE (fun P => by have := hb P; cases this) w5 (unhide HS5).1 (unhide HS5).2.1)
                clear hb
                go_wp2_with fail
                go_ret
                exact unhide HP
              | true =>
                clear hb
                go_wp2_with fail
                go_roundw
                case rel => exact ⟨j + 1, by go_num, by omega, (unhide HS5).1, (unhide HS5).2.1, (unhide HS5).2.2⟩
                case measure => simp [intOf]; omega
            · obtain rfl : j = n := by omega
              have b1 : decide ((j : Int) < (j : Int)) = false := by simp
              have HSJ := hide (And.intro stJ oJ)
              clear stJ oJ GJ PJ EJ hrv AJ
              go_wp2_with fail
              go_roundw
              case rel => exact ⟨i + 1, by go_num, by omega, unhide HT2, (unhide HSJ).1, (unhide HSJ).2⟩
              case measure => simp [intOf]; omega
        · have dx : decide (ix ≥ 0) = false := decide_eq_false hx0
          have dx' : decide (0 ≤ ix) = false := decide_eq_false hx0
          clear hx0 GK s0 s2
          go_upto_region 17 with fail
          go_loopw [9] (fun jv wr => ∃ j : Nat, jv = .int .i64 j ∧ j ≤ n ∧ ST q wr x op S ∧ Only q.S w wr ∧ Has wr sb #[.string en, .slice ca cn cc, .int .i64 (pk : Int), .int .i64 ix] 65) (fun jv _ => n - (intOf jv).toNat)
          case atStart => exact ⟨0, rfl, Nat.zero_le _, (unhide HW4).1, (unhide HW4).2.1, (unhide HW4).2.2.1⟩
          case round =>
            obtain ⟨j, rfl, hj, stJ, oJ, AJ⟩ := hrel
            have GJ := (unhide HG).1.keep oJ (fun k hk => (unhide HG).2 k (.inl hk)) (fun k hk => (unhide HG).2 k (.inr hk))
            obtain ⟨b', cap', hvx, PJ, EJ⟩ := GJ.pt (unhide HEM)
            rw [unhide HLN] at hvx
            simp only [Value.slice.injEq, Option.some.injEq, Addr.mk.injEq] at hvx
            obtain ⟨⟨rfl, _⟩, _, rfl⟩ := hvx
            have p4 := PJ.c4
            obtain ⟨ra, rc, hrv⟩ := EJ.rshape
            rw [hrv, unhide HN] at p4
            by_cases hj2 : j < n
            · have b1 : decide ((j : Int) < (n : Int)) = true := decide_eq_true (by omega)
              have b1p : (j : Int) < (n : Int) := by omega
              obtain ⟨r, hr⟩ := getE (l := e.t.rows) (i := j) (by rw [unhide HN]; exact hj2)
              obtain ⟨g, u, cp, hru, hus, cu, OU⟩ := EJ.at_ hr
              rw [hrv, unhide HN] at hru
              simp only [Value.slice.injEq] at hru
              obtain ⟨rfl, _, rfl⟩ := hru
              have hrok := (unhide HOK).row r (List.mem_of_getElem? hr)
              obtain ⟨y, hy⟩ := getE (l := r) (i := e.t.pk) (by rw [hrok.len]; exact (unhide HOK).pkn)
              have hyw : y.wf := (hrok.2 y (List.mem_of_getElem? hy)).1
              obtain ⟨g1, k1, rfl, e0, e1, e2⟩ := getv_at OU hy
              rw [unhide HPK] at e0 e1 e2
              have hpr : (pk : Int) < (r.length : Int) := by have := (List.getElem?_eq_some_iff.mp hy).1; rw [unhide HPK] at this; omega
              obtain ⟨rn, hrn⟩ : ∃ rn, r.length = rn := ⟨_, rfl⟩
              rw [hrn] at cu hpr
              have s0 := AJ.cell 0
              have s2 := AJ.cell 2
              simp at s0 s2
              have CK := jkeptLookup_any (stJ.quiet ((Only.refl (fun _ => False) wr).drew)) (unhide HL) (GJ.quiet ((Only.refl (fun _ => False) wr).drew)) (unhide HG).2 en y hyw
              unfold vlA at CK
              have CK := hide CK
              have HSJ := hide (And.intro stJ (And.intro oJ (And.intro AJ trivial)))
              have HNQ := hide (show ¬ q.S sb ∧ ¬ q.S b ∧ ¬ q.S g ∧ ¬ q.S g1 from ⟨unhide HSB, (unhide HG).2 b (.inl (.inl rfl)), (unhide HG).2 g (.inl (.inr ⟨e, List.mem_of_getElem? (unhide HEM), by unfold GEm; rw [hrv]; rfl⟩)), (unhide HG).2 g1 (.inr ⟨e, List.mem_of_getElem? (unhide HEM), .inr ⟨_, List.mem_of_getElem? hus, rfl⟩⟩)⟩)
              clear GJ PJ EJ hrv OU hrok hy hus hyw hr hrn stJ oJ AJ
              go_upto_region 19 with fail
              go_cut [85] (fun zv wx => ∃ bk : Bool, zv = .bool (!bk) ∧ (GP (l.map (·.t)) (dbOf T) → bk = true) ∧ ST q wx x op S ∧ Only q.S wr wx)
              case first =>
                refine wp_region_held_drew (S := (fun w' => w'.cell? ⟨sb, 0, none⟩ = some (.string en) ∧ w'.cell? ⟨sb, 2, none⟩ = some (.int .i64 (pk : Int)) ∧ w'.cell? ⟨b, i * 5 + 4, none⟩ = some (.slice (some ⟨g, 0, none⟩) n rc) ∧ w'.cell? ⟨g, j, none⟩ = some (.slice (some ⟨g1, 0, none⟩) rn k1) ∧ w'.cell? ⟨g1, pk * 3, none⟩ = some (.bool y.str) ∧ w'.cell? ⟨g1, pk * 3 + 1, none⟩ = some (.int .i64 y.i) ∧ w'.cell? ⟨g1, pk * 3 + 2, none⟩ = some (.string y.s))) (by kernel_rfl) ⟨s0, s2, p4, cu, e0, e1, e2⟩ (fun hH0 => ?_)
                refine takeH 0 68 (v := ?vl1) rfl rfl (by kernel_rfl) (by kernel_rfl) (by kernel_rfl) (fun _ _ _ h => h) (Or.inl ⟨by rfl, ?hl1⟩) hH0 ?rl1
                case hl1 => (intro w hSw; clear hSw; go_simp; (try with_reducible rfl))
                case rl1 =>
                try simp only [Act.put, List.setIfInBounds_toArray, List.set_cons_zero, List.set_cons_succ]
                refine takeH 1 69 (v := ?vl2) rfl rfl (by kernel_rfl) (by kernel_rfl) (by kernel_rfl) (fun _ _ _ h => h) (Or.inl ⟨by rfl, ?hl2⟩) hH0 ?rl2
                case hl2 => (intro w hSw; clear hSw; go_simp; (try with_reducible rfl))
                case rl2 =>
                try simp only [Act.put, List.setIfInBounds_toArray, List.set_cons_zero, List.set_cons_succ]
                refine takeH 2 70 (v := ?vl3) rfl rfl (by kernel_rfl) (by kernel_rfl) (by kernel_rfl) (fun _ _ _ h => h) (Or.inl ⟨by rfl, ?hl3⟩) hH0 ?rl3
                case hl3 => (intro w hSw; clear hSw; go_simp; (try with_reducible rfl))
                case rl3 =>
                try simp only [Act.put, List.setIfInBounds_toArray, List.set_cons_zero, List.set_cons_succ]
                refine takeH 3 71 (v := ?vl4) rfl rfl (by kernel_rfl) (by kernel_rfl) (by kernel_rfl) (fun _ _ _ h => h) (Or.inl ⟨by rfl, ?hl4⟩) hH0 ?rl4
                case hl4 => (intro w hSw; obtain ⟨s0, s1, s2, s3, s4, s5, s6⟩ := hSw; go_simp; (try with_reducible rfl))
                case rl4 =>
                try simp only [Act.put, List.setIfInBounds_toArray, List.set_cons_zero, List.set_cons_succ]
                refine takeH 4 72 (v := ?vl5) rfl rfl (by kernel_rfl) (by kernel_rfl) (by kernel_rfl) (fun _ _ _ h => h) (Or.inl ⟨by rfl, ?hl5⟩) hH0 ?rl5
                case hl5 => (intro w hSw; clear hSw; go_simp; (try with_reducible rfl))
                case rl5 =>
                try simp only [Act.put, List.setIfInBounds_toArray, List.set_cons_zero, List.set_cons_succ]
                refine takeH 5 73 (v := ?vl6) rfl rfl (by kernel_rfl) (by kernel_rfl) (by kernel_rfl) (fun _ _ _ h => h) (Or.inl ⟨by rfl, ?hl6⟩) hH0 ?rl6
                case hl6 => (intro w hSw; clear hSw; go_simp; (try with_reducible rfl))
                case rl6 =>
                try simp only [Act.put, List.setIfInBounds_toArray, List.set_cons_zero, List.set_cons_succ]
                refine takeH 6 74 (v := ?vl7) rfl rfl (by kernel_rfl) (by kernel_rfl) (by kernel_rfl) (fun _ _ _ h => h) (Or.inl ⟨by rfl, ?hl7⟩) hH0 ?rl7
                case hl7 => (intro w hSw; clear hSw; go_simp; (try with_reducible rfl))
                case rl7 =>
                try simp only [Act.put, List.setIfInBounds_toArray, List.set_cons_zero, List.set_cons_succ]
                refine takeH 7 75 (v := ?vl8) rfl rfl (by kernel_rfl) (by kernel_rfl) (by kernel_rfl) (fun _ _ _ h => h) (Or.inl ⟨by rfl, ?hl8⟩) hH0 ?rl8
                case hl8 => (intro w hSw; clear hSw; go_simp; (try with_reducible rfl))
                case rl8 =>
                try simp only [Act.put, List.setIfInBounds_toArray, List.set_cons_zero, List.set_cons_succ]
                refine takeH 8 76 (v := ?vl9) rfl rfl (by kernel_rfl) (by kernel_rfl) (by kernel_rfl) (fun _ _ _ h => h) (Or.inl ⟨by rfl, ?hl9⟩) hH0 ?rl9
                case hl9 => (intro w hSw; obtain ⟨s0, s1, s2, s3, s4, s5, s6⟩ := hSw; go_simp; (try with_reducible rfl))
                case rl9 =>
                try simp only [Act.put, List.setIfInBounds_toArray, List.set_cons_zero, List.set_cons_succ]
                refine takeH 9 77 (v := ?vl10) rfl rfl (by kernel_rfl) (by kernel_rfl) (by kernel_rfl) (fun _ _ _ h => h) (Or.inl ⟨by rfl, ?hl10⟩) hH0 ?rl10
                case hl10 => (intro w hSw; clear hSw; go_simp; (try with_reducible rfl))
                case rl10 =>
                try simp only [Act.put, List.setIfInBounds_toArray, List.set_cons_zero, List.set_cons_succ]
                refine takeH 10 78 (v := ?vl11) rfl rfl (by kernel_rfl) (by kernel_rfl) (by kernel_rfl) (fun _ _ _ h => h) (Or.inl ⟨by rfl, ?hl11⟩) hH0 ?rl11
                case hl11 => (intro w hSw; clear hSw; go_simp; (try with_reducible rfl))
                case rl11 =>
                try simp only [Act.put, List.setIfInBounds_toArray, List.set_cons_zero, List.set_cons_succ]
                refine takeH 11 79 (v := ?vl12) rfl rfl (by kernel_rfl) (by kernel_rfl) (by kernel_rfl) (fun _ _ _ h => h) (Or.inl ⟨by rfl, ?hl12⟩) hH0 ?rl12
                case hl12 => (intro w hSw; obtain ⟨s0, s1, s2, s3, s4, s5, s6⟩ := hSw; go_simp; (try with_reducible rfl))
                case rl12 =>
                try simp only [Act.put, List.setIfInBounds_toArray, List.set_cons_zero, List.set_cons_succ]
                refine takeH 12 80 (v := ?vl13) rfl rfl (by kernel_rfl) (by kernel_rfl) (by kernel_rfl) (fun _ _ _ h => h) (Or.inl ⟨by rfl, ?hl13⟩) hH0 ?rl13
                case hl13 => (intro w hSw; clear hSw; go_simp; (try with_reducible rfl))
                case rl13 =>
                try simp only [Act.put, List.setIfInBounds_toArray, List.set_cons_zero, List.set_cons_succ]
                refine takeH 13 81 (v := ?vl14) rfl rfl (by kernel_rfl) (by kernel_rfl) (by kernel_rfl) (fun _ _ _ h => h) (Or.inl ⟨by rfl, ?hl14⟩) hH0 ?rl14
                case hl14 => (intro w hSw; obtain ⟨s0, s1, s2, s3, s4, s5, s6⟩ := hSw; go_simp; (try with_reducible rfl))
                case rl14 =>
                try simp only [Act.put, List.setIfInBounds_toArray, List.set_cons_zero, List.set_cons_succ]
                refine takeH 14 82 (v := ?vl15) rfl rfl (by kernel_rfl) (by kernel_rfl) (by kernel_rfl) (fun _ _ _ h => h) (Or.inl ⟨by rfl, ?hl15⟩) hH0 ?rl15
                case hl15 => (intro w hSw; clear hSw; go_simp; (try with_reducible rfl))
                case rl15 =>
                try simp only [Act.put, List.setIfInBounds_toArray, List.set_cons_zero, List.set_cons_succ]
                refine takeH 15 83 (v := ?vl16) rfl rfl (by kernel_rfl) (by kernel_rfl) (by kernel_rfl) (fun _ _ _ h => h) (Or.inl ⟨by rfl, ?hl16⟩) hH0 ?rl16
                case hl16 => (intro w hSw; obtain ⟨s0, s1, s2, s3, s4, s5, s6⟩ := hSw; go_simp; (try with_reducible rfl))
                case rl16 =>
                try simp only [Act.put, List.setIfInBounds_toArray, List.set_cons_zero, List.set_cons_succ]
                refine callH 16 (by kernel_rfl) rfl 84 rfl rfl 38 Tryz.func38 (by kernel_rfl) (by kernel_rfl) #[.tmp 68, .tmp 69, .tmp 71, .tmp 83] #[32, 36, 9, 72] rfl #[.pointer (some ⟨x, 0, none⟩), .slice (some ⟨b, 0, none⟩) ln vc, .string en, .agg #[.bool y.str, .int .i64 y.i, .string y.s]] (by simp [Act.eval]) (R := fun v w' => ∃ bk : Bool, v = .bool bk ∧ (GP (l.map (·.t)) (dbOf T) → bk = true) ∧ ST q w' x op S ∧ Only q.S wr.drew w') ((unhide CK).mono (by rintro en w' ⟨bk, rfl, hb, hs, o⟩; exact ⟨_, rfl, bk, rfl, hb, hs, o⟩)) ?kl
                case kl =>
                rintro _ w6 ⟨bk, rfl, hb, hs, oq⟩
                have S6 : w6.cell? ⟨sb, 0, none⟩ = some (.string en) ∧ w6.cell? ⟨sb, 2, none⟩ = some (.int .i64 (pk : Int)) ∧ w6.cell? ⟨b, i * 5 + 4, none⟩ = some (.slice (some ⟨g, 0, none⟩) n rc) ∧ w6.cell? ⟨g, j, none⟩ = some (.slice (some ⟨g1, 0, none⟩) rn k1) ∧ w6.cell? ⟨g1, pk * 3, none⟩ = some (.bool y.str) ∧ w6.cell? ⟨g1, pk * 3 + 1, none⟩ = some (.int .i64 y.i) ∧ w6.cell? ⟨g1, pk * 3 + 2, none⟩ = some (.string y.s) := ⟨cell_keep (hH0.1) oq (unhide HNQ).1, cell_keep (hH0.2.1) oq (unhide HNQ).1, cell_keep (hH0.2.2.1) oq (unhide HNQ).2.1, cell_keep (hH0.2.2.2.1) oq (unhide HNQ).2.2.1, cell_keep (hH0.2.2.2.2.1) oq (unhide HNQ).2.2.2, cell_keep (hH0.2.2.2.2.2.1) oq (unhide HNQ).2.2.2, cell_keep (hH0.2.2.2.2.2.2) oq (unhide HNQ).2.2.2⟩
                refine ⟨S6, ?_⟩
                try simp only [Act.put, List.setIfInBounds_toArray, List.set_cons_zero, List.set_cons_succ]
                refine takeH 17 85 (v := ?vl17) rfl rfl (by kernel_rfl) (by kernel_rfl) (by kernel_rfl) (fun _ _ _ h => h) (Or.inl ⟨by rfl, ?hl17⟩) S6 ?rl17
                case hl17 => (intro w hSw; clear hSw; go_simp; (try with_reducible rfl))
                case rl17 =>
                try simp only [Act.put, List.setIfInBounds_toArray, List.set_cons_zero, List.set_cons_succ]
                refine wpAnyH_done (by kernel_rfl) ?_ _
                have HF := hide (And.intro hs ((((Only.refl (fun _ => False) wr).drew).mono (fun _ _ e => e.elim)).trans oq (fun _ _ e => e) : Only q.S wr w6))
                clear hH0 S6 oq hs
                have HBK := hide hb
                clear hb
                go_wp2_with fail
                go_meet
                exact ⟨bk, rfl, unhide HBK, (unhide HF).1, (unhide HF).2⟩
              case rest =>
              obtain ⟨bk, rfl, hb, st5, o5⟩ := hcut
              generalize wc = w5 at *
              have HS5 := hide (And.intro st5 (And.intro ((unhide HSJ).2.1.trans o5 (fun _ _ e => e)) ((unhide HSJ).2.2.1.keep o5 (unhide HNQ).1)))
              clear st5 o5 CK s0 s2 p4 cu e0 e1 e2
              cases bk with
              | false =>
                have HP := hide (unhide HE (fun P => by have := hb P; cases this) w5 (unhide HS5).1 (unhide HS5).2.1)
                clear hb
                go_wp2_with fail
                go_ret
                exact unhide HP
              | true =>
                clear hb
                go_wp2_with fail
                go_roundw
                case rel => exact ⟨j + 1, by go_num, by omega, (unhide HS5).1, (unhide HS5).2.1, (unhide HS5).2.2⟩
                case measure => simp [intOf]; omega
            · obtain rfl : j = n := by omega
              have b1 : decide ((j : Int) < (j : Int)) = false := by simp
              have HSJ := hide (And.intro stJ oJ)
              clear stJ oJ GJ PJ EJ hrv AJ
              go_wp2_with fail
              go_roundw
              case rel => exact ⟨i + 1, by go_num, by omega, unhide HT2, (unhide HSJ).1, (unhide HSJ).2⟩
              case measure => simp [intOf]; omega
      · obtain rfl : i = ln := by omega
        have a1 : decide ((i : Int) < (i : Int)) = false := by simp
        have HP := hide (show KsP q w x op S (ShX l (dbOf T) op op) (.returned (.bool true)) wr from ⟨true, rfl, ⟨fun _ => ⟨rfl, unhide HNM, fun t ht t0 h0 hn => by
          obtain ⟨e, he, rfl⟩ := List.mem_map.mp ht
          obtain ⟨j, hj⟩ := List.getElem?_of_mem he
          obtain ⟨t1, f1, g1⟩ := unhide HT j e (by have := (List.getElem?_eq_some_iff.mp hj).1; rw [unhide HLN] at this; exact this) hj
          obtain rfl := findD_uniq (unhide HL).dok h0 hn.symm f1
          exact g1⟩, fun _ => rfl⟩, stW, oW⟩)
        clear stW oW
        go_wp2_with fail
        go_ret
        exact unhide HP
  · have d0 : (op != open_) = true := by simpa using hop
    have d0' : (!(op == open_)) = true := by simpa using hop
    have HP := hide (show KsP q w x op S (ShX l (dbOf T) op open_) (.returned (.bool false)) w from ⟨false, rfl, ⟨fun h => (by cases h), fun h => absurd h.1 hop⟩, unhide HH, Only.refl _ _⟩)
    cases op <;> cases open_ <;> first | exact absurd rfl hop | skip
    all_goals
      clear hop
      go_wp2_with fail
      go_ret
      exact unhide HP
end
end Go.Proofs.Qxb6500413aGreat
