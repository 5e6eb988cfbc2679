/-
  OWN WORK. QUERY's LAW: rows and names compared (written by tools/gen_ylq.py).
-/
import Derived.Test.Qxb6500412aGreatYL1
import Derived.Deep.DeepCutAuto
import Derived.BigQuiet
import Derived.Test.Qxb6500412aGreatERg
namespace Go.Proofs.Qxb6500412aGreat
open Go.RowKit Go.PlainAid
set_option linter.unusedSimpArgs false
set_option linter.unusedVariables false

/-- Rows that can be read. -/
def RdR (w : World) (v : Value) (rows : List (List Vl)) : Prop := ∃ a cap, v = .slice a rows.length cap ∧ ∀ j r, rows[j]? = some r → ∃ g u, a = some ⟨g, 0, none⟩ ∧ w.cell? ⟨g, j, none⟩ = some u ∧ OwnV w u r
theorem RdR.quiet {w w' : World} {v : Value} {rows : List (List Vl)} (h : RdR w v rows) (o : Only (fun _ => False) w w') : RdR w' v rows := by
  obtain ⟨a, cap, h1, h2⟩ := h
  refine ⟨a, cap, h1, fun j r hr => ?_⟩
  obtain ⟨g, u, e, c, O⟩ := h2 j r hr
  exact ⟨g, u, e, cell_keep c o (fun e => e), O.keep o (fun _ _ e => e)⟩
theorem OwnRR.rd {lo : Nat} {w : World} {v : Value} {rows : List (List Vl)} (h : OwnRR lo w v rows) : RdR w v rows := by
  obtain ⟨a, rfl⟩ := h.shape
  refine ⟨a, _, rfl, fun j r hr => ?_⟩
  obtain ⟨g, u, e, _, c, O, _⟩ := h.at_ hr
  exact ⟨g, u, e, c, O⟩
theorem rd_of {w : World} {v : Value} {Z : List (Value × List Vl)} (R : w.ownsRow 0 95 1 v Z.length (Z.map (·.1))) (h : ∀ z ∈ Z, OwnV w z.1 z.2) : RdR w v (Z.map (·.2)) := by
  obtain ⟨a, cap, rfl⟩ := ownsRow_shape R
  refine ⟨a, cap, by rw [List.length_map], fun j r hr => ?_⟩
  rw [List.getElem?_map] at hr
  obtain ⟨z, hz, rfl⟩ := Option.map_eq_some_iff.mp hr
  have hj := (List.getElem?_eq_some_iff.mp hz).1
  obtain ⟨g, rfl⟩ := own_slice R (by omega)
  have := World.ownsRow.cells R (g := g) rfl j z.1 (by rw [List.getElem?_map, hz]; rfl)
  rw [addr_add] at this
  exact ⟨g, z.1, rfl, this, h z (List.mem_of_getElem? hz)⟩
set_option maxRecDepth 100000 in
set_option maxHeartbeats 8000000 in
theorem sameRows_any {w : World} {va vb : Value} {A B : List (List Vl)} (ha : RdR w va A) (hb : RdR w vb B) (la : A.length ≤ 1000) (lr : ∀ r ∈ A, r.length ≤ 1000) (R : Bool) (hR : decide (A = B) = R) : Calls Tryz.prog 48 #[va, vb] w fun e w' => e = .returned (.bool R) ∧ Only (fun _ => False) w w' := by
  have HA := hide (And.intro ha (And.intro hb lr))
  obtain ⟨aa, ac, hva, _⟩ := ha
  obtain ⟨ba, bc, hvb, _⟩ := hb
  subst hva
  subst hvb
  clear lr
  by_cases hl : A.length = B.length
  · have c1 : ((A.length : Int) != (B.length : Int)) = false := by rw [hl]; simp
    have c1n : (A.length != B.length) = false := by rw [hl]; simp
    obtain ⟨n, hn⟩ : ∃ n, A.length = n := ⟨_, rfl⟩
    obtain ⟨m, hm⟩ : ∃ m, B.length = m := ⟨_, rfl⟩
    have HN := hide (And.intro hn hm)
    rw [hn] at c1 c1n la
    rw [hm] at c1 c1n
    rw [hn, hm]
    have HNM := hide (show n = m by omega)
    have HR := hide hR
    clear hl hn hm hR
    go_enter Tryz.func48, Tryz.ntmps48
    go_upto_region 4 with fail
    clear c1 c1n
    go_loopw [5] (fun iv wr => ∃ i : Nat, iv = .int .i64 i ∧ i ≤ n ∧ A.take i = B.take i ∧ Only (fun _ => False) w wr) (fun iv _ => n - (intOf iv).toNat)
    case atStart => exact ⟨0, rfl, Nat.zero_le _, rfl, Only.refl _ _⟩
    case round =>
      obtain ⟨i, rfl, hi, hT, oW⟩ := hrel
      by_cases hi2 : i < n
      · have a1 : decide ((i : Int) < (n : Int)) = true := decide_eq_true (by omega)
        have a1p : (i : Int) < (n : Int) := by omega
        have a1m : (i : Int) < (m : Int) := by have := unhide HNM; omega
        obtain ⟨x, hx⟩ := getE (l := A) (i := i) (by rw [(unhide HN).1]; exact hi2)
        obtain ⟨y, hy⟩ := getE (l := B) (i := i) (by rw [(unhide HN).2, ← unhide HNM]; exact hi2)
        obtain ⟨_, _, he1, q1⟩ := (unhide HA).1.quiet oW
        obtain ⟨_, _, he2, q2⟩ := (unhide HA).2.1.quiet oW
        simp only [Value.slice.injEq] at he1 he2
        obtain ⟨g1, u1, e1, d1, O1⟩ := q1 i x hx
        obtain ⟨g2, u2, e2, d2, O2⟩ := q2 i y hy
        obtain rfl := he1.1.trans e1
        obtain rfl := he2.1.trans e2
        obtain ⟨s1, t1, hs1⟩ := O1.shape
        obtain ⟨s2, t2, hs2⟩ := O2.shape
        obtain ⟨xn, hxn⟩ : ∃ xn, x.length = xn := ⟨_, rfl⟩
        obtain ⟨yn, hyn⟩ : ∃ yn, y.length = yn := ⟨_, rfl⟩
        rw [hxn] at hs1
        rw [hyn] at hs2
        subst hs1
        subst hs2
        have hx8 := (unhide HA).2.2 x (List.mem_of_getElem? hx)
        rw [hxn] at hx8
        have HX := hide (And.intro hx (And.intro hy (And.intro hT (And.intro hxn hyn))))
        have HO := hide (And.intro oW (And.intro O1 O2))
        clear hx hy hT oW he1 he2 q1 q2 e1 e2 O1 O2 hxn hyn
        by_cases hl2 : xn = yn
        rotate_left
        · have c2 : ((xn : Int) != (yn : Int)) = true := by simp; omega
          have c2n : (xn != yn) = true := by simpa using hl2
          have HD := hide (show false = R from by
            rw [← unhide HR]
            refine (decide_eq_false (fun e => hl2 ?_)).symm
            have h1 := (unhide HX).1
            rw [e, (unhide HX).2.1] at h1
            rw [← (unhide HX).2.2.2.1, ← (unhide HX).2.2.2.2, ← Option.some.inj h1])
          clear hl2
          go_upto_region 6 with fail
          go_cut [28] from 18 to 27 (fun zv wx => zv = .bool true ∧ Only (fun _ => False) wr wx)
          case first =>
            go_quiet (fail)
            go_wp2_with fail
            go_meet
            exact ⟨by first | rfl | trivial | simp, onlyQ _ _⟩
          case rest =>
          obtain ⟨rfl, o2⟩ := hcut
          have HO2 := hide ((unhide HO).1.trans o2 (fun _ _ e => e))
          clear o2 d1 d2
          go_wp2_with fail
          go_ret
          exact ⟨by rw [← unhide HD]; rfl, unhide HO2⟩
        subst hl2
        have c2 : ((xn : Int) != (xn : Int)) = false := by simp
        have c2n : (xn != xn) = false := by simp
        go_upto_region 6 with fail
        go_cut [28] from 18 to 27 (fun zv wx => zv = .bool false ∧ Only (fun _ => False) wr wx)
        case first =>
          go_quiet (fail)
          go_wp2_with fail
          go_meet
          exact ⟨by first | rfl | trivial | simp, onlyQ _ _⟩
        case rest =>
        obtain ⟨rfl, o2⟩ := hcut
        have HO2 := hide ((unhide HO).1.trans o2 (fun _ _ e => e))
        have HOv := hide (And.intro ((unhide HO).2.1.keep o2 (fun _ _ e => e)) ((unhide HO).2.2.keep o2 (fun _ _ e => e)))
        have d1 := cell_keep d1 o2 (fun e => e)
        have d2 := cell_keep d2 o2 (fun e => e)
        have Hd := hide (And.intro d1 d2)
        clear o2 d1 d2 c2 c2n HO
        go_upto_region 9 with fail
        go_loopw [6] (fun jv wq => ∃ j : Nat, jv = .int .i64 j ∧ j ≤ xn ∧ x.take j = y.take j ∧ Only (fun _ => False) wc wq) (fun jv _ => xn - (intOf jv).toNat)
        case atStart => exact ⟨0, rfl, Nat.zero_le _, rfl, Only.refl _ _⟩
        case round =>
          obtain ⟨j, rfl, hj, hTj, oJ⟩ := hrel
          have d1 := cell_keep (unhide Hd).1 oJ (fun e => e)
          have d2 := cell_keep (unhide Hd).2 oJ (fun e => e)
          by_cases hj2 : j < xn
          · have a2 : decide ((j : Int) < (xn : Int)) = true := decide_eq_true (by omega)
            have a2p : (j : Int) < (xn : Int) := by omega
            obtain ⟨xa, hxa⟩ := getE (l := x) (i := j) (by rw [(unhide HX).2.2.2.1]; exact hj2)
            obtain ⟨yb, hyb⟩ := getE (l := y) (i := j) (by rw [(unhide HX).2.2.2.2]; exact hj2)
            obtain ⟨h1, k1, ge1, e0, e1, e2⟩ := getv_at ((unhide HOv).1.keep oJ (fun _ _ e => e)) hxa
            obtain ⟨h2, k2, ge2, f0, f1, f2⟩ := getv_at ((unhide HOv).2.keep oJ (fun _ _ e => e)) hyb
            simp only [Value.slice.injEq] at ge1 ge2
            obtain ⟨rfl, _, rfl⟩ := ge1
            obtain ⟨rfl, _, rfl⟩ := ge2
            have CS := jsameValue_any xa yb wr.drew
            obtain ⟨bb, hbb⟩ : ∃ b, decide (xa = yb) = b := ⟨_, rfl⟩
            rw [hbb] at CS
            unfold vlA at CS
            have CS := hide CS
            have HXj := hide (And.intro hxa (And.intro hyb (And.intro hTj hbb)))
            have HOJ := hide oJ
            clear hxa hyb hTj hbb oJ
            go_upto_region 11 with fail
            refine wp_region_held_drew (S := (fun w' => w'.cell? ⟨g1, i, none⟩ = some (.slice (some ⟨h1, 0, none⟩) xn t1) ∧ w'.cell? ⟨g2, i, none⟩ = some (.slice (some ⟨h2, 0, none⟩) xn t2) ∧ w'.cell? ⟨h1, j * 3, none⟩ = some (.bool xa.str) ∧ w'.cell? ⟨h1, j * 3 + 1, none⟩ = some (.int .i64 xa.i) ∧ w'.cell? ⟨h1, j * 3 + 2, none⟩ = some (.string xa.s) ∧ w'.cell? ⟨h2, j * 3, none⟩ = some (.bool yb.str) ∧ w'.cell? ⟨h2, j * 3 + 1, none⟩ = some (.int .i64 yb.i) ∧ w'.cell? ⟨h2, j * 3 + 2, none⟩ = some (.string yb.s))) (by kernel_rfl) ⟨d1, d2, e0, e1, e2, f0, f1, f2⟩ (fun hH0 => ?_)
            refine takeH 0 38 (v := ?vsr1) rfl rfl (by kernel_rfl) (by kernel_rfl) (by kernel_rfl) (fun _ _ _ h => h) (Or.inl ⟨by rfl, ?hsr1⟩) hH0 ?rsr1
            case hsr1 => (intro w hSw; clear hSw; go_simp; (try with_reducible rfl))
            case rsr1 =>
            try simp only [Act.put, List.setIfInBounds_toArray, List.set_cons_zero, List.set_cons_succ]
            refine takeH 1 39 (v := ?vsr2) rfl rfl (by kernel_rfl) (by kernel_rfl) (by kernel_rfl) (fun _ _ _ h => h) (Or.inl ⟨by rfl, ?hsr2⟩) hH0 ?rsr2
            case hsr2 => (intro w hSw; clear hSw; go_simp; (try with_reducible rfl))
            case rsr2 =>
            try simp only [Act.put, List.setIfInBounds_toArray, List.set_cons_zero, List.set_cons_succ]
            refine takeH 2 40 (v := ?vsr3) rfl rfl (by kernel_rfl) (by kernel_rfl) (by kernel_rfl) (fun _ _ _ h => h) (Or.inl ⟨by rfl, ?hsr3⟩) hH0 ?rsr3
            case hsr3 => (intro w hSw; clear hSw; go_simp; (try with_reducible rfl))
            case rsr3 =>
            try simp only [Act.put, List.setIfInBounds_toArray, List.set_cons_zero, List.set_cons_succ]
            refine takeH 3 41 (v := ?vsr4) rfl rfl (by kernel_rfl) (by kernel_rfl) (by kernel_rfl) (fun _ _ _ h => h) (Or.inl ⟨by rfl, ?hsr4⟩) hH0 ?rsr4
            case hsr4 => (intro w hSw; obtain ⟨s0, s1, s2, s3, s4, s5, s6, s7⟩ := hSw; go_simp; (try with_reducible rfl))
            case rsr4 =>
            try simp only [Act.put, List.setIfInBounds_toArray, List.set_cons_zero, List.set_cons_succ]
            refine takeH 4 42 (v := ?vsr5) rfl rfl (by kernel_rfl) (by kernel_rfl) (by kernel_rfl) (fun _ _ _ h => h) (Or.inl ⟨by rfl, ?hsr5⟩) hH0 ?rsr5
            case hsr5 => (intro w hSw; clear hSw; go_simp; (try with_reducible rfl))
            case rsr5 =>
            try simp only [Act.put, List.setIfInBounds_toArray, List.set_cons_zero, List.set_cons_succ]
            refine takeH 5 43 (v := ?vsr6) rfl rfl (by kernel_rfl) (by kernel_rfl) (by kernel_rfl) (fun _ _ _ h => h) (Or.inl ⟨by rfl, ?hsr6⟩) hH0 ?rsr6
            case hsr6 => (intro w hSw; clear hSw; go_simp; (try with_reducible rfl))
            case rsr6 =>
            try simp only [Act.put, List.setIfInBounds_toArray, List.set_cons_zero, List.set_cons_succ]
            refine takeH 6 44 (v := ?vsr7) rfl rfl (by kernel_rfl) (by kernel_rfl) (by kernel_rfl) (fun _ _ _ h => h) (Or.inl ⟨by rfl, ?hsr7⟩) hH0 ?rsr7
            case hsr7 => (intro w hSw; obtain ⟨s0, s1, s2, s3, s4, s5, s6, s7⟩ := hSw; go_simp; (try with_reducible rfl))
            case rsr7 =>
            try simp only [Act.put, List.setIfInBounds_toArray, List.set_cons_zero, List.set_cons_succ]
            refine takeH 7 45 (v := ?vsr8) rfl rfl (by kernel_rfl) (by kernel_rfl) (by kernel_rfl) (fun _ _ _ h => h) (Or.inl ⟨by rfl, ?hsr8⟩) hH0 ?rsr8
            case hsr8 => (intro w hSw; clear hSw; go_simp; (try with_reducible rfl))
            case rsr8 =>
            try simp only [Act.put, List.setIfInBounds_toArray, List.set_cons_zero, List.set_cons_succ]
            refine takeH 8 46 (v := ?vsr9) rfl rfl (by kernel_rfl) (by kernel_rfl) (by kernel_rfl) (fun _ _ _ h => h) (Or.inl ⟨by rfl, ?hsr9⟩) hH0 ?rsr9
            case hsr9 => (intro w hSw; clear hSw; go_simp; (try with_reducible rfl))
            case rsr9 =>
            try simp only [Act.put, List.setIfInBounds_toArray, List.set_cons_zero, List.set_cons_succ]
            refine takeH 9 47 (v := ?vsr10) rfl rfl (by kernel_rfl) (by kernel_rfl) (by kernel_rfl) (fun _ _ _ h => h) (Or.inl ⟨by rfl, ?hsr10⟩) hH0 ?rsr10
            case hsr10 => (intro w hSw; clear hSw; go_simp; (try with_reducible rfl))
            case rsr10 =>
            try simp only [Act.put, List.setIfInBounds_toArray, List.set_cons_zero, List.set_cons_succ]
            refine takeH 10 48 (v := ?vsr11) rfl rfl (by kernel_rfl) (by kernel_rfl) (by kernel_rfl) (fun _ _ _ h => h) (Or.inl ⟨by rfl, ?hsr11⟩) hH0 ?rsr11
            case hsr11 => (intro w hSw; obtain ⟨s0, s1, s2, s3, s4, s5, s6, s7⟩ := hSw; go_simp; (try with_reducible rfl))
            case rsr11 =>
            try simp only [Act.put, List.setIfInBounds_toArray, List.set_cons_zero, List.set_cons_succ]
            refine takeH 11 49 (v := ?vsr12) rfl rfl (by kernel_rfl) (by kernel_rfl) (by kernel_rfl) (fun _ _ _ h => h) (Or.inl ⟨by rfl, ?hsr12⟩) hH0 ?rsr12
            case hsr12 => (intro w hSw; clear hSw; go_simp; (try with_reducible rfl))
            case rsr12 =>
            try simp only [Act.put, List.setIfInBounds_toArray, List.set_cons_zero, List.set_cons_succ]
            refine takeH 12 50 (v := ?vsr13) rfl rfl (by kernel_rfl) (by kernel_rfl) (by kernel_rfl) (fun _ _ _ h => h) (Or.inl ⟨by rfl, ?hsr13⟩) hH0 ?rsr13
            case hsr13 => (intro w hSw; clear hSw; go_simp; (try with_reducible rfl))
            case rsr13 =>
            try simp only [Act.put, List.setIfInBounds_toArray, List.set_cons_zero, List.set_cons_succ]
            refine takeH 13 51 (v := ?vsr14) rfl rfl (by kernel_rfl) (by kernel_rfl) (by kernel_rfl) (fun _ _ _ h => h) (Or.inl ⟨by rfl, ?hsr14⟩) hH0 ?rsr14
            case hsr14 => (intro w hSw; obtain ⟨s0, s1, s2, s3, s4, s5, s6, s7⟩ := hSw; go_simp; (try with_reducible rfl))
            case rsr14 =>
            try simp only [Act.put, List.setIfInBounds_toArray, List.set_cons_zero, List.set_cons_succ]
            refine callH 14 (by kernel_rfl) rfl 52 rfl rfl 95 Tryz.func95 (by kernel_rfl) (by kernel_rfl) #[.tmp 44, .tmp 51] #[152, 152] rfl #[.agg #[.bool xa.str, .int .i64 xa.i, .string xa.s], .agg #[.bool yb.str, .int .i64 yb.i, .string yb.s]] (by simp [Act.eval]) (R := fun v w' => v = .bool bb ∧ Only (fun _ => False) wr.drew w') ((unhide CS).mono (by rintro en w' ⟨rfl, o⟩; exact ⟨_, rfl, rfl, o⟩)) ?ksr
            case ksr =>
            rintro _ w6 ⟨rfl, o6⟩
            have S6 : w6.cell? ⟨g1, i, none⟩ = some (.slice (some ⟨h1, 0, none⟩) xn t1) ∧ w6.cell? ⟨g2, i, none⟩ = some (.slice (some ⟨h2, 0, none⟩) xn t2) ∧ w6.cell? ⟨h1, j * 3, none⟩ = some (.bool xa.str) ∧ w6.cell? ⟨h1, j * 3 + 1, none⟩ = some (.int .i64 xa.i) ∧ w6.cell? ⟨h1, j * 3 + 2, none⟩ = some (.string xa.s) ∧ w6.cell? ⟨h2, j * 3, none⟩ = some (.bool yb.str) ∧ w6.cell? ⟨h2, j * 3 + 1, none⟩ = some (.int .i64 yb.i) ∧ w6.cell? ⟨h2, j * 3 + 2, none⟩ = some (.string yb.s) := ⟨cell_keep hH0.1 o6 (fun e => e), cell_keep hH0.2.1 o6 (fun e => e), cell_keep hH0.2.2.1 o6 (fun e => e), cell_keep hH0.2.2.2.1 o6 (fun e => e), cell_keep hH0.2.2.2.2.1 o6 (fun e => e), cell_keep hH0.2.2.2.2.2.1 o6 (fun e => e), cell_keep hH0.2.2.2.2.2.2.1 o6 (fun e => e), cell_keep hH0.2.2.2.2.2.2.2 o6 (fun e => e)⟩
            refine ⟨S6, ?_⟩
            try simp only [Act.put, List.setIfInBounds_toArray, List.set_cons_zero, List.set_cons_succ]
            refine takeH 15 53 (v := ?vsr15) rfl rfl (by kernel_rfl) (by kernel_rfl) (by kernel_rfl) (fun _ _ _ h => h) (Or.inl ⟨by rfl, ?hsr15⟩) S6 ?rsr15
            case hsr15 => (intro w hSw; clear hSw; go_simp; (try with_reducible rfl))
            case rsr15 =>
            try simp only [Act.put, List.setIfInBounds_toArray, List.set_cons_zero, List.set_cons_succ]
            refine wpAnyH_done (by kernel_rfl) ?_ _
            have oD : Only (fun _ => False) wr w6 := (Only.refl _ wr).drew.trans o6 (fun _ _ e => e)
            have HF := hide oD
            clear hH0 S6 o6 oD
            have HO6 := hide ((unhide HOJ).trans (unhide HF) (fun _ _ e => e))
            clear HF CS d1 d2 e0 e1 e2 f0 f1 f2
            cases bb with
            | true =>
              have hxy : xa = yb := of_decide_eq_true (unhide HXj).2.2.2
              have HT := hide ((take_eq_succ (unhide HXj).1 (unhide HXj).2.1).mpr ⟨(unhide HXj).2.2.1, hxy⟩)
              clear hxy
              go_wp2_with fail
              go_roundw
              case rel => exact ⟨j + 1, by go_num, by omega, unhide HT, unhide HO6⟩
              case measure => simp [intOf]; omega
            | false =>
              have hxy : xa ≠ yb := of_decide_eq_false (unhide HXj).2.2.2
              have HD := hide (show false = R from by
                rw [← unhide HR]
                refine (decide_eq_false (fun e => hxy ?_)).symm
                have h1 := (unhide HX).1
                rw [e, (unhide HX).2.1] at h1
                have h2 := (unhide HXj).1
                rw [← Option.some.inj h1, (unhide HXj).2.1] at h2
                exact (Option.some.inj h2).symm)
              clear hxy
              go_wp2_with fail
              go_ret
              exact ⟨by rw [← unhide HD]; rfl, (unhide HO2).trans (unhide HO6) (fun _ _ e => e)⟩
          · obtain rfl : j = xn := by omega
            have a2 : decide ((j : Int) < (j : Int)) = false := by simp
            have hxy : x = y := by
              rw [List.take_of_length_le (by rw [(unhide HX).2.2.2.1]; omega), List.take_of_length_le (by rw [(unhide HX).2.2.2.2]; omega)] at hTj
              exact hTj
            have HT := hide ((take_eq_succ (unhide HX).1 (unhide HX).2.1).mpr ⟨(unhide HX).2.2.1, hxy⟩)
            have HO7 := hide ((unhide HO2).trans oJ (fun _ _ e => e))
            clear hxy hTj oJ
            go_wp2_with fail
            go_roundw
            case rel => exact ⟨i + 1, by go_num, by omega, unhide HT, unhide HO7⟩
            case measure => simp [intOf]; omega
      · obtain rfl : i = n := by omega
        have a1 : decide ((i : Int) < (i : Int)) = false := by simp
        have HD := hide (show true = R from by
          rw [← unhide HR]
          refine (decide_eq_true ?_).symm
          rw [List.take_of_length_le (by rw [(unhide HN).1]; omega), List.take_of_length_le (by rw [(unhide HN).2, ← unhide HNM]; omega)] at hT
          exact hT)
        have HO := hide oW
        clear oW hT
        go_wp2_with fail
        go_ret
        exact ⟨by rw [← unhide HD]; rfl, unhide HO⟩
  · have c1 : ((A.length : Int) != (B.length : Int)) = true := by simp; omega
    have c1n : (A.length != B.length) = true := by simpa using hl
    rw [decide_eq_false (fun e : A = B => hl (by rw [e]))] at hR
    subst hR
    clear hl
    generalize A.length = n at *
    generalize B.length = m at *
    go_enter Tryz.func48, Tryz.ntmps48
    go_wp2_with fail
    go_ret
    exact ⟨rfl, Only.refl _ _⟩
set_option maxRecDepth 100000 in
set_option maxHeartbeats 4000000 in
theorem sameNames_any {w : World} {va vb : Value} {A B : List ByteArray} (ha : OwnN w va A) (hb : OwnN w vb B) (la : A.length ≤ 1000) (R : Bool) (hR : decide (A = B) = R) : Calls Tryz.prog 46 #[va, vb] w fun e w' => e = .returned (.bool R) ∧ Only (fun _ => False) w w' := by
  obtain ⟨aa, ac, hva⟩ := ownsRow_shape ha
  obtain ⟨ba, bc, hvb⟩ := ownsRow_shape hb
  subst hva
  subst hvb
  have HA := hide (And.intro ha hb)
  clear ha hb
  by_cases hl : A.length = B.length
  · have c1 : ((A.length : Int) != (B.length : Int)) = false := by rw [hl]; simp
    have c1n : (A.length != B.length) = false := by rw [hl]; simp
    obtain ⟨n, hn⟩ : ∃ n, A.length = n := ⟨_, rfl⟩
    obtain ⟨m, hm⟩ : ∃ m, B.length = m := ⟨_, rfl⟩
    have HN := hide (And.intro hn hm)
    unfold OwnN at HA
    rw [hn] at c1 c1n la HA
    rw [hm] at c1 c1n HA
    rw [hn, hm]
    have HNM := hide (show n = m by omega)
    have HR := hide hR
    clear hl hn hm hR
    go_enter Tryz.func46, Tryz.ntmps46
    go_upto_region 4 with fail
    clear c1 c1n
    go_loopw [5] (fun iv wr => ∃ i : Nat, iv = .int .i64 i ∧ i ≤ n ∧ A.take i = B.take i ∧ Only (fun _ => False) w wr) (fun iv _ => n - (intOf iv).toNat)
    case atStart => exact ⟨0, rfl, Nat.zero_le _, rfl, Only.refl _ _⟩
    case round =>
      obtain ⟨i, rfl, hi, hT, oW⟩ := hrel
      by_cases hi2 : i < n
      · have a1 : decide ((i : Int) < (n : Int)) = true := decide_eq_true (by omega)
        have a1p : (i : Int) < (n : Int) := by omega
        have a1m : (i : Int) < (m : Int) := by have := unhide HNM; omega
        obtain ⟨x, hx⟩ := getE (l := A) (i := i) (by rw [(unhide HN).1]; exact hi2)
        obtain ⟨y, hy⟩ := getE (l := B) (i := i) (by rw [(unhide HN).2, ← unhide HNM]; exact hi2)
        have R1 := ownsRow_keep (unhide HA).1 oW (fun _ _ e => e)
        have R2 := ownsRow_keep (unhide HA).2 oW (fun _ _ e => e)
        obtain ⟨g1, he1⟩ := own_slice R1 (by omega)
        obtain ⟨g2, he2⟩ := own_slice R2 (by have := unhide HNM; omega)
        subst he1
        subst he2
        have d1 := World.ownsRow.cells R1 (g := g1) rfl i (.string x) (by rw [List.getElem?_map, hx]; rfl)
        have d2 := World.ownsRow.cells R2 (g := g2) rfl i (.string y) (by rw [List.getElem?_map, hy]; rfl)
        rw [addr_add] at d1 d2
        have HX := hide (And.intro hx (And.intro hy hT))
        have HO := hide oW
        clear hx hy hT oW R1 R2
        by_cases hxy : x = y
        · have b1 := sne_f hxy
          have b1' := seq_t hxy
          have HT := hide ((take_eq_succ (unhide HX).1 (unhide HX).2.1).mpr ⟨(unhide HX).2.2, hxy⟩)
          clear hxy
          go_upto_region 6 with fail
          go_cut [25] (fun zv wx => zv = .bool false ∧ Only (fun _ => False) wr wx)
          case first =>
            go_quiet (fail)
            go_wp2_with fail
            go_meet
            exact ⟨rfl, onlyQ _ _⟩
          case rest =>
          obtain ⟨rfl, o2⟩ := hcut
          have HO2 := hide ((unhide HO).trans o2 (fun _ _ e => e))
          clear o2 d1 d2 b1 b1'
          go_wp2_with fail
          go_roundw
          case rel => exact ⟨i + 1, by go_num, by omega, unhide HT, unhide HO2⟩
          case measure => simp [intOf]; omega
        · have b1 := sne_t hxy
          have b1' := seq_f hxy
          have HD := hide (show false = R from by
            rw [← unhide HR]
            refine (decide_eq_false (fun e => hxy ?_)).symm
            have h1 := (unhide HX).1
            rw [e, (unhide HX).2.1] at h1
            exact (Option.some.inj h1).symm)
          clear hxy
          go_upto_region 6 with fail
          go_quiet (fail)
          go_wp2_with fail
          go_ret
          exact ⟨by rw [← unhide HD]; rfl, (unhide HO).trans (onlyQ _ _) (fun _ _ e => e)⟩
      · obtain rfl : i = n := by omega
        have a1 : decide ((i : Int) < (i : Int)) = false := by simp
        have HD := hide (show true = R from by
          rw [← unhide HR]
          refine (decide_eq_true ?_).symm
          rw [List.take_of_length_le (by rw [(unhide HN).1]; omega), List.take_of_length_le (by rw [(unhide HN).2, ← unhide HNM]; omega)] at hT
          exact hT)
        have HO := hide oW
        clear oW hT
        go_wp2_with fail
        go_ret
        exact ⟨by rw [← unhide HD]; rfl, unhide HO⟩
  · have c1 : ((A.length : Int) != (B.length : Int)) = true := by simp; omega
    have c1n : (A.length != B.length) = true := by simpa using hl
    rw [decide_eq_false (fun e : A = B => hl (by rw [e]))] at hR
    subst hR
    clear hl HA
    generalize A.length = n at *
    generalize B.length = m at *
    go_enter Tryz.func46, Tryz.ntmps46
    go_wp2_with fail
    go_ret
    exact ⟨rfl, Only.refl _ _⟩
end Go.Proofs.Qxb6500412aGreat
