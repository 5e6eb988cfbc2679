/-
  OWN WORK. THE TABLE LAW: ScanDue (written by tools/gen_js0.py).
-/
import Derived.Test.Qxb6500413aGreatJG1
import Derived.Test.Qxb6500413aGreatERr
namespace Go.Proofs.Qxb6500413aGreat
open Go.RowKit Go.PlainAid
set_option linter.unusedSimpArgs false
set_option linter.unusedVariables false

/-- Which Errno a Scan owes. -/
def SDu (l : List GE) (nm : ByteArray) (col : Int) (lo hi : Bnd) (z : Int) : Prop := (z = 10 ∧ ∀ e ∈ l, e.t.nm ≠ nm) ∨ ∃ (i : Nat) (e : GE), l[i]? = some e ∧ e.t.nm = nm ∧ z = scnE e.t col lo hi
def scA (lh : Bool) (lv : Vl) : Array Value := #[.bool lh, .bool lv.str, .int .i64 lv.i, .string lv.s]
section
variable {w : World} {v : Value} {l : List GE}
set_option maxRecDepth 100000 in
set_option maxHeartbeats 8000000 in
theorem jscanDue_any (G : GL w v l) (nm : ByteArray) (col : Int) (lh hh : Bool) (lv hv : Vl) : Calls Tryz.prog 98 #[v, .string nm, .int .i64 col, bdA lh lv, bdA hh hv] w fun x w' => ∃ z, x = .returned (.int .i64 z) ∧ SDu l nm col (bndOf lh lv) (bndOf hh hv) z ∧ Only (fun _ => False) w w' := by
  have o1 : Only (fun _ => False) w ((w.alloc (.cells (scA lh lv) 74)).alloc (.cells (scA hh hv) 74)) := ((Only.refl _ w).alloc _).alloc _
  have A1 : Has ((w.alloc (.cells (scA lh lv) 74)).alloc (.cells (scA hh hv) 74)) w.heap.size (scA lh lv) 74 := (Has.new w _ _).alloc _
  have B1 : Has ((w.alloc (.cells (scA lh lv) 74)).alloc (.cells (scA hh hv) 74)) (w.heap.size + 1) (scA hh hv) 74 := Has.new' _ _ _ _ (by simp)
  obtain ⟨va, vc, hv0⟩ := G.shape
  have G1 := G.quiet o1
  have CF := jgfind_any G1 nm
  rw [hv0] at CF
  have CF := hide CF
  have HG := hide (And.intro G1 (And.intro o1 (And.intro A1 (And.intro B1 hv0))))
  clear G G1 o1 A1 B1
  subst hv0
  unfold scA at *
  unfold bdA
  go_enter Tryz.func98, Tryz.ntmps98
  go_wp2_with fail
  refine (unhide CF).mono ?_
  rintro x w2 ⟨r, rfl, hr, rfl⟩
  generalize ((w.alloc (.cells #[.bool lh, .bool lv.str, .int .i64 lv.i, .string lv.s] 74)).alloc (.cells #[.bool hh, .bool hv.str, .int .i64 hv.i, .string hv.s] 74)) = w1 at *
  generalize w.heap.size = kb at *
  clear CF
  rcases hr with ⟨rfl, hno⟩ | ⟨i, e, hi, rfl, hn⟩
  · have HR := hide (show SDu l nm col (bndOf lh lv) (bndOf hh hv) 10 from .inl ⟨rfl, hno⟩)
    clear hno
    go_wp2_with fail
    go_ret
    exact ⟨_, rfl, unhide HR, (unhide HG).2.1⟩
  · obtain ⟨b, cap, hvx, P1, E1⟩ := (unhide HG).1.pt hi
    simp only [Value.slice.injEq] at hvx
    obtain ⟨rfl, _, rfl⟩ := hvx
    have il : (i : Int) < (l.length : Int) := by have := (List.getElem?_eq_some_iff.mp hi).1; omega
    have h3 := (unhide HG).1.len
    have HR := hide (fun z (hz : z = scnE e.t col (bndOf lh lv) (bndOf hh hv)) => show SDu l nm col (bndOf lh lv) (bndOf hh hv) z from .inr ⟨i, e, hi, hn, hz⟩)
    have dr : decide ((i : Int) < 0) = false := decide_eq_false (by omega)
    have p0 := P1.c0
    have p1 := P1.c1
    have p2 := P1.c2
    have p3 := P1.c3
    obtain ⟨ca, cc, hcc⟩ := E1.col.shape
    rw [hcc] at p1
    obtain ⟨ln, hln⟩ : ∃ ln, l.length = ln := ⟨_, rfl⟩
    rw [hln] at il h3 ⊢
    obtain ⟨cn, hcn⟩ : ∃ cn, e.t.cols.length = cn := ⟨_, rfl⟩
    rw [hcn] at p1
    have HCN := hide hcn
    obtain ⟨pk, hpk⟩ : ∃ pk, e.t.pk = pk := ⟨_, rfl⟩
    rw [hpk] at p2
    have HPK := hide hpk
    obtain ⟨ix, hix⟩ : ∃ ix, ixI e.t.ix = ix := ⟨_, rfl⟩
    rw [hix] at p3
    have HIX := hide hix
    obtain ⟨en, hen⟩ : ∃ en, e.t.nm = en := ⟨_, rfl⟩
    rw [hen] at p0
    have HE := hide (And.intro E1.col (And.intro hcc E1.ok.n3))
    clear P1 E1 hi hn hcc hcn hpk hix hen hln
    have o3 : Only (fun _ => False) w1 (w1.alloc (.cells #[.string en, .slice ca cn cc, .int .i64 pk, .int .i64 ix] 65)) := (Only.refl _ w1).alloc _
    have S3 : Has (w1.alloc (.cells #[.string en, .slice ca cn cc, .int .i64 pk, .int .i64 ix] 65)) w1.heap.size #[.string en, .slice ca cn cc, .int .i64 pk, .int .i64 ix] 65 := Has.new w1 _ _
    go_upto_region 5 with fail
    generalize w1.alloc (.cells #[.string en, .slice ca cn cc, .int .i64 pk, .int .i64 ix] 65) = w3 at *
    generalize w1.heap.size = sb at *
    have HO := hide ((unhide HG).2.1.trans o3 (fun _ _ e => e))
    have KA := hide ((unhide HG).2.2.1.keep o3 (fun e => e))
    have KB := hide ((unhide HG).2.2.2.1.keep o3 (fun e => e))
    have HC := hide ((unhide HE).1.keep o3 (fun _ _ e => e))
    have s1 := S3.cell 1
    have s2 := S3.cell 2
    have s3 := S3.cell 3
    simp at s1 s2 s3
    clear p0 p1 p2 p3 o3 dr
    have HS3 := hide S3
    clear S3
    by_cases an : col < 0
    · have d1 : decide (col < 0) = true := decide_eq_true an
      have HZ := hide (unhide HR 14 (by unfold scnE; rw [if_pos (.inl an)]))
      clear an
      go_wp2_with fail
      go_ret
      exact ⟨_, rfl, unhide HZ, unhide HO⟩
    have d1 : decide (col < 0) = false := decide_eq_false an
    by_cases ac : (cn : Int) ≤ col
    · have d2 : decide (col ≥ (cn : Int)) = true := decide_eq_true ac
      have d2' : decide ((cn : Int) ≤ col) = true := decide_eq_true ac
      have HZ := hide (unhide HR 14 (by unfold scnE; rw [if_pos (.inr (by rw [unhide HCN]; exact ac))]))
      clear an ac
      go_wp2_with fail
      go_ret
      exact ⟨_, rfl, unhide HZ, unhide HO⟩
    have d2 : decide (col ≥ (cn : Int)) = false := decide_eq_false ac
    have d2' : decide ((cn : Int) ≤ col) = false := decide_eq_false ac
    have H1 := hide (show ¬ (col < 0 ∨ (e.t.cols.length : Int) ≤ col) from by rw [unhide HCN]; omega)
    by_cases ap : col ≠ (pk : Int) ∧ col ≠ ix
    · have d3 : (col != (pk : Int)) = true := by simpa using ap.1
      have d4 : (col != ix) = true := by simpa using ap.2
      have HZ := hide (unhide HR 19 (by unfold scnE; rw [if_neg (unhide H1), if_pos (by rw [unhide HPK, unhide HIX]; exact ap)]))
      clear an ac ap
      go_wp2_with fail
      go_ret
      exact ⟨_, rfl, unhide HZ, unhide HO⟩
    have H2 := hide (show ¬ (col ≠ (e.t.pk : Int) ∧ col ≠ ixI e.t.ix) from by rw [unhide HPK, unhide HIX]; exact ap)
    obtain ⟨c, rfl⟩ : ∃ c : Nat, col = c := ⟨col.toNat, by omega⟩
    obtain ⟨cl, hcl⟩ := getE (l := e.t.cols) (i := c) (by have := unhide HCN; omega)
    have hcI : (c : Int) < (cn : Int) := by omega
    obtain ⟨gc, cc2, hce, q0, q1⟩ := getc_at (unhide HC) hcl
    rw [(unhide HE).2.1, unhide HCN] at hce
    simp only [Value.slice.injEq] at hce
    obtain ⟨rfl, _, rfl⟩ := hce
    have cn3 : cn ≤ 3 := by have := (unhide HE).2.2; rw [unhide HCN] at this; exact this
    have HCL := hide (show (e.t.cols[(c : Int).toNat]?).getD (eB, false) = cl from by rw [Int.toNat_natCast, hcl]; rfl)
    clear an ac hcl
    have a0 := (unhide KA).cell 0
    have a1 := (unhide KA).cell 1
    have a3 := (unhide KA).cell 3
    have b0 := (unhide KB).cell 0
    have b1 := (unhide KB).cell 1
    have b3 := (unhide KB).cell 3
    simp at a0 a1 a3 b0 b1 b3
    go_upto_region 7 with fail
    go_cut [41] (fun zv wx => zv = .bool false ∧ w3 = wx)
    case first =>
      by_cases c1 : (c : Int) = (pk : Int)
      · have d3 : ((c : Int) != (pk : Int)) = false := by simpa using c1
        have d3n : (c != pk) = false := by (have h : c = pk := (by omega)); rw [h]; simp
        clear c1 ap
        go_wp2_with fail
        go_meet
        exact ⟨rfl, rfl⟩
      · have d3 : ((c : Int) != (pk : Int)) = true := by simpa using c1
        have d3n : (c != pk) = true := by (have h : c ≠ pk := (by omega)); simpa using h
        have d4 : ((c : Int) != ix) = false := by (have h : (c : Int) = ix := Classical.byContradiction (fun h => ap ⟨c1, h⟩)); rw [h]; simp
        clear c1 ap
        go_wp2_with fail
        go_meet
        exact ⟨rfl, rfl⟩
    case rest =>
    obtain ⟨rfl, rfl⟩ := hcut
    clear ap d1 d2 d2'
    go_upto_region 9 with fail
    go_cut [71] (fun zv wx => zv = .bool (!(bndT cl (bndOf lh lv) && bndT cl (bndOf hh hv))) ∧ Only (fun _ => False) w3 wx)
    case first =>
      cases lh with
      | false =>
        cases hh with
        | false =>
          have HB := hide (show (!(bndT cl (bndOf false lv) && bndT cl (bndOf false hv))) = false from by simp [bndOf, bndT])
          go_quiet (fail)
          go_wp2_with fail
          go_meet
          exact ⟨by rw [unhide HB], onlyQ _ _⟩
        | true =>
          by_cases thv : hv.str = cl.2
          · skip
            have ehv : (hv.str != cl.2) = false := by rw [thv]; simp
            have ehv' : (!(hv.str == cl.2)) = false := by rw [thv]; simp
            have HB := hide (show (!(bndT cl (bndOf false lv) && bndT cl (bndOf true hv))) = false from by simp [bndOf, bndT, thv])
            clear thv
            go_quiet (fail)
            go_wp2_with fail
            go_meet
            exact ⟨by rw [unhide HB], onlyQ _ _⟩
          · skip
            have ehv : (hv.str != cl.2) = true := by simpa using thv
            have ehv' : (!(hv.str == cl.2)) = true := by simpa using thv
            have HB := hide (show (!(bndT cl (bndOf false lv) && bndT cl (bndOf true hv))) = true from by simp [bndOf, bndT, thv])
            clear thv
            go_quiet (fail)
            go_wp2_with fail
            go_meet
            exact ⟨by rw [unhide HB], onlyQ _ _⟩
      | true =>
        by_cases tlv : lv.str = cl.2
        · skip
          have elv : (lv.str != cl.2) = false := by rw [tlv]; simp
          have elv' : (!(lv.str == cl.2)) = false := by rw [tlv]; simp
          cases hh with
          | false =>
            have HB := hide (show (!(bndT cl (bndOf true lv) && bndT cl (bndOf false hv))) = false from by simp [bndOf, bndT, tlv])
            clear tlv
            go_quiet (fail)
            go_wp2_with fail
            go_meet
            exact ⟨by rw [unhide HB], onlyQ _ _⟩
          | true =>
            by_cases thv : hv.str = cl.2
            · skip
              have ehv : (hv.str != cl.2) = false := by rw [thv]; simp
              have ehv' : (!(hv.str == cl.2)) = false := by rw [thv]; simp
              have HB := hide (show (!(bndT cl (bndOf true lv) && bndT cl (bndOf true hv))) = false from by simp [bndOf, bndT, tlv, thv])
              clear tlv thv
              go_quiet (fail)
              go_wp2_with fail
              go_meet
              exact ⟨by rw [unhide HB], onlyQ _ _⟩
            · skip
              have ehv : (hv.str != cl.2) = true := by simpa using thv
              have ehv' : (!(hv.str == cl.2)) = true := by simpa using thv
              have HB := hide (show (!(bndT cl (bndOf true lv) && bndT cl (bndOf true hv))) = true from by simp [bndOf, bndT, tlv, thv])
              clear tlv thv
              go_quiet (fail)
              go_wp2_with fail
              go_meet
              exact ⟨by rw [unhide HB], onlyQ _ _⟩
        · skip
          have elv : (lv.str != cl.2) = true := by simpa using tlv
          have elv' : (!(lv.str == cl.2)) = true := by simpa using tlv
          have HB := hide (show (!(bndT cl (bndOf true lv) && bndT cl (bndOf hh hv))) = true from by simp [bndOf, bndT, tlv])
          clear tlv
          go_quiet (fail)
          go_wp2_with fail
          go_meet
          exact ⟨by rw [unhide HB], onlyQ _ _⟩
    case rest =>
    obtain ⟨rfl, o4⟩ := hcut
    generalize wc = w4 at *
    have HO4 := hide ((unhide HO).trans o4 (fun _ _ e => e))
    have KA4 := (unhide KA).keep o4 (fun e => e)
    have KB4 := (unhide KB).keep o4 (fun e => e)
    clear a0 a1 a3 b0 b1 b3 q0 q1 s1 s2 s3 o4
    have a0 := KA4.cell 0
    have a3 := KA4.cell 3
    have b0 := KB4.cell 0
    have b3 := KB4.cell 3
    simp at a0 a3 b0 b3
    clear KA4 KB4
    obtain ⟨zt, hzt⟩ : ∃ zt, (bndT cl (bndOf lh lv) && bndT cl (bndOf hh hv)) = zt := ⟨_, rfl⟩
    rw [hzt]
    have HZT := hide hzt
    clear hzt
    cases zt with
    | false =>
      have HZ := hide (unhide HR 15 (by unfold scnE; rw [if_neg (unhide H1), if_neg (unhide H2), unhide HCL, unhide HZT]; rfl))
      go_wp2_with fail
      go_ret
      exact ⟨_, rfl, unhide HZ, unhide HO4⟩
    | true =>
    go_upto_region 11 with fail
    go_cut [91] (fun zv wx => zv = .bool (!(bndS (bndOf lh lv) && bndS (bndOf hh hv))) ∧ w4 = wx)
    case first =>
      cases lh with
      | false =>
        cases hh with
        | false =>
          have HB := hide (show (!(bndS (bndOf false lv) && bndS (bndOf false hv))) = false from by simp [bndOf, bndS])
          go_wp2_with fail
          go_meet
          exact ⟨by rw [unhide HB], rfl⟩
        | true =>
          by_cases thv : hv.s.size ≤ 7
          · skip
            have ehv : decide ((hv.s.size : Int) > 7) = false := decide_eq_false (by omega)
            have ehv' : decide ((7 : Int) < (hv.s.size : Int)) = false := decide_eq_false (by omega)
            have ehvn : decide (7 < hv.s.size) = false := decide_eq_false (by omega)
            have HB := hide (show (!(bndS (bndOf false lv) && bndS (bndOf true hv))) = false from by simp [bndOf, bndS, thv])
            clear thv
            go_wp2_with fail
            go_meet
            exact ⟨by rw [unhide HB], rfl⟩
          · skip
            have ehv : decide ((hv.s.size : Int) > 7) = true := decide_eq_true (by omega)
            have ehv' : decide ((7 : Int) < (hv.s.size : Int)) = true := decide_eq_true (by omega)
            have ehvn : decide (7 < hv.s.size) = true := decide_eq_true (by omega)
            have HB := hide (show (!(bndS (bndOf false lv) && bndS (bndOf true hv))) = true from by simp [bndOf, bndS, thv])
            clear thv
            go_wp2_with fail
            go_meet
            exact ⟨by rw [unhide HB], rfl⟩
      | true =>
        by_cases tlv : lv.s.size ≤ 7
        · skip
          have elv : decide ((lv.s.size : Int) > 7) = false := decide_eq_false (by omega)
          have elv' : decide ((7 : Int) < (lv.s.size : Int)) = false := decide_eq_false (by omega)
          have elvn : decide (7 < lv.s.size) = false := decide_eq_false (by omega)
          cases hh with
          | false =>
            have HB := hide (show (!(bndS (bndOf true lv) && bndS (bndOf false hv))) = false from by simp [bndOf, bndS, tlv])
            clear tlv
            go_wp2_with fail
            go_meet
            exact ⟨by rw [unhide HB], rfl⟩
          | true =>
            by_cases thv : hv.s.size ≤ 7
            · skip
              have ehv : decide ((hv.s.size : Int) > 7) = false := decide_eq_false (by omega)
              have ehv' : decide ((7 : Int) < (hv.s.size : Int)) = false := decide_eq_false (by omega)
              have ehvn : decide (7 < hv.s.size) = false := decide_eq_false (by omega)
              have HB := hide (show (!(bndS (bndOf true lv) && bndS (bndOf true hv))) = false from by simp [bndOf, bndS, tlv, thv])
              clear tlv thv
              go_wp2_with fail
              go_meet
              exact ⟨by rw [unhide HB], rfl⟩
            · skip
              have ehv : decide ((hv.s.size : Int) > 7) = true := decide_eq_true (by omega)
              have ehv' : decide ((7 : Int) < (hv.s.size : Int)) = true := decide_eq_true (by omega)
              have ehvn : decide (7 < hv.s.size) = true := decide_eq_true (by omega)
              have HB := hide (show (!(bndS (bndOf true lv) && bndS (bndOf true hv))) = true from by simp [bndOf, bndS, tlv, thv])
              clear tlv thv
              go_wp2_with fail
              go_meet
              exact ⟨by rw [unhide HB], rfl⟩
        · skip
          have elv : decide ((lv.s.size : Int) > 7) = true := decide_eq_true (by omega)
          have elv' : decide ((7 : Int) < (lv.s.size : Int)) = true := decide_eq_true (by omega)
          have elvn : decide (7 < lv.s.size) = true := decide_eq_true (by omega)
          have HB := hide (show (!(bndS (bndOf true lv) && bndS (bndOf hh hv))) = true from by simp [bndOf, bndS, tlv])
          clear tlv
          go_wp2_with fail
          go_meet
          exact ⟨by rw [unhide HB], rfl⟩
    case rest =>
    obtain ⟨rfl, rfl⟩ := hcut
    obtain ⟨zs, hzs⟩ : ∃ zs, (bndS (bndOf lh lv) && bndS (bndOf hh hv)) = zs := ⟨_, rfl⟩
    rw [hzs]
    have HZ := hide (unhide HR (if zs then 0 else 16) (by unfold scnE; rw [if_neg (unhide H1), if_neg (unhide H2), unhide HCL, unhide HZT, hzs]; rfl))
    clear hzs
    cases zs with
    | false =>
      go_wp2_with fail
      go_ret
      exact ⟨_, rfl, unhide HZ, unhide HO4⟩
    | true =>
      go_wp2_with fail
      go_ret
      exact ⟨_, rfl, unhide HZ, unhide HO4⟩
end
end Go.Proofs.Qxb6500413aGreat
