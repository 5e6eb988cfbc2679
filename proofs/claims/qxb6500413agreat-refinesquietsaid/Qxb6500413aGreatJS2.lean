/-
  OWN WORK. THE TABLE LAW: KeptScan (written by tools/gen_js2.py).
-/
import Derived.Test.Qxb6500413aGreatJS1
import Derived.Test.Qxb6500413aGreatESj
namespace Go.Proofs.Qxb6500413aGreat
open Go.RowKit Go.PlainAid
set_option linter.unusedSimpArgs false
set_option linter.unusedVariables false

theorem scnE_gt {t t0 : Tb} (hc : t.cols = t0.cols) (hp : t.pk = t0.pk) (hi : t.ix = t0.ix) (col : Int) (lo h : Bnd) : scnE t col lo h = scnE t0 col lo h := by
  unfold scnE
  rw [hc, hp, hi]
theorem scnD_len {S : Vu} {T : List (Tb × Hd)} (L : Lay S T) (nm : ByteArray) (col : Int) (lo hi : Bnd) : (scnD (dbOf T) nm col lo hi).1.length ≤ 8 := by
  unfold scnD
  cases hf : findD (dbOf T) nm with
  | none => simp
  | some t0 =>
    simp only
    split
    · exact scnL_len (L.dok.tb t0 (by unfold findD at hf; exact List.mem_of_find?_eq_some hf)) _ _ _
    · simp
theorem scnD_err {D : Db} {nm : ByteArray} {col : Int} {lo hi : Bnd} (h : (scnD D nm col lo hi).2 ≠ 0) : (scnD D nm col lo hi).1 = [] := by
  unfold scnD at *
  cases hf : findD D nm with
  | none => rfl
  | some t0 =>
    rw [hf] at h
    simp only at h ⊢
    split
    · rename_i c
      rw [if_pos c] at h
      exact absurd rfl h
    · rfl
theorem GL.one {w : World} {v : Value} {l : List GE} (G : GL w v l) {i j : Nat} {a b : GE} (ha : l[i]? = some a) (hb : l[j]? = some b) (e : a.t.nm = b.t.nm) : a = b := by
  obtain ⟨il, ie⟩ := List.getElem?_eq_some_iff.mp ha
  obtain ⟨jl, je⟩ := List.getElem?_eq_some_iff.mp hb
  have : i = j := nodup_inj G.nd (by rw [List.length_map]; exact il) (by rw [List.length_map]; exact jl) (by rw [List.getElem_map, List.getElem_map, ie, je]; exact e)
  subst this
  rw [ha] at hb
  exact Option.some.inj hb
theorem scnE_pk {t : Tb} (h : GOk t) : scnE t (t.pk : Int) none none = 0 := by
  unfold scnE
  rw [if_neg (by have := h.pkn; omega), if_neg (by simp)]
  rfl
/-- What KeptScan answers. -/
def KsX (l : List GE) (D : Db) (nm : ByteArray) (col : Int) (lo hi : Bnd) (bb : Bool) : Prop :=
  (GP (l.map (·.t)) D → bb = true) ∧ (bb = true → ∀ e ∈ l, e.t.nm = nm → col = (e.t.pk : Int) → lo = none → hi = none → ∀ t0, findD D nm = some t0 → t0.pk = e.t.pk → e.t.rows.Perm t0.rows)
section
variable {w : World} {v : Value} {l : List GE} {S : Vu} {T : List (Tb × Hd)} {nm : ByteArray} {col z : Int} {lo hi : Bnd}
theorem KsX.err (G : GL w v l) (L : Lay S T) (hz : SDu l nm col lo hi z) (hne : (scnD (dbOf T) nm col lo hi).2 ≠ z) : KsX l (dbOf T) nm col lo hi false := by
  refine ⟨fun P => absurd ?_ hne, fun h => (by cases h)⟩
  unfold scnD
  rcases hz with ⟨rfl, hno⟩ | ⟨i, e, hi, hn, rfl⟩
  · rw [P.no (fun t ht => by obtain ⟨e, he, rfl⟩ := List.mem_map.mp ht; exact hno e he)]
  · obtain ⟨t0, h1, h2, h3⟩ := P.yes (List.mem_map.mpr ⟨e, List.mem_of_getElem? hi, rfl⟩) hn
    rw [h1, scnE_gt h3.cols h3.pk h3.ix]
    simp only
    split
    · rename_i c; exact c.symm
    · rfl
theorem KsX.none (G : GL w v l) (hz : SDu l nm col lo hi z) (h0 : z ≠ 0) {bb : Bool} (hb : bb = true) : KsX l (dbOf T) nm col lo hi bb := by
  refine ⟨fun _ => hb, fun _ e he hn hc hl hh => ?_⟩
  exfalso
  rcases hz with ⟨rfl, hno⟩ | ⟨i, e', hi, hn', rfl⟩
  · exact hno e he hn
  · obtain ⟨j, hj⟩ := List.getElem?_of_mem he
    obtain rfl := G.one hj hi (hn.trans hn'.symm)
    subst hc hl hh
    exact h0 (scnE_pk (G.el e he).ok)
theorem KsX.fits (G : GL w v l) (L : Lay S T) {i : Nat} {e : GE} (hi' : l[i]? = some e) (hn : e.t.nm = nm) {c : Nat} (hc : c < e.t.cols.length) (hE : scnE e.t (c : Int) lo hi = 0) (h0 : (scnD (dbOf T) nm (c : Int) lo hi).2 = 0) {bb : Bool} (hb : bb = true ↔ ScF e.t c lo hi (scnD (dbOf T) nm (c : Int) lo hi).1) : KsX l (dbOf T) nm (c : Int) lo hi bb := by
  have key : ∀ t0, findD (dbOf T) nm = some t0 → TbOk t0 ∧ (scnD (dbOf T) nm (c : Int) lo hi).1 = scnL t0 c lo hi := fun t0 hf => by
    refine ⟨L.dok.tb t0 (by unfold findD at hf; exact List.mem_of_find?_eq_some hf), ?_⟩
    unfold scnD at h0 ⊢
    rw [hf] at h0 ⊢
    simp only at h0 ⊢
    split
    · rw [Int.toNat_natCast]
    · rename_i hne
      rw [if_neg hne] at h0
      exact absurd h0 hne
  refine ⟨fun P => hb.mpr ?_, fun h e' he hn' hcp hl hh t0 hf hk => ?_⟩
  · obtain ⟨t0, h1, h2, h3⟩ := P.yes (List.mem_map.mpr ⟨e, List.mem_of_getElem? hi', rfl⟩) hn
    obtain ⟨ok, hR⟩ := key t0 h1
    rw [hR]
    exact h3.scf ok (by rw [← h3.cols]; exact hc) _ _
  · obtain ⟨j, hj⟩ := List.getElem?_of_mem he
    obtain rfl := G.one hj hi' (hn'.trans hn.symm)
    obtain ⟨ok, hR⟩ := key t0 hf
    have f := hb.mp h
    rw [hR] at f
    obtain rfl : c = e'.t.pk := by omega
    subst hl hh
    exact ScF.perm (G.el e' he).ok ok hk.symm f
end
section
variable {q : Gnd} {w w' : World} {x : Nat} {op : Bool} {S : Vu} {T : List (Tb × Hd)} {v : Value} {l : List GE}
def KsP (q : Gnd) (w : World) (x : Nat) (op : Bool) (S : Vu) (K : Bool → Prop) (y : Ending) (w' : World) : Prop := ∃ bb : Bool, y = .returned (.bool bb) ∧ K bb ∧ ST q w' x op S ∧ Only q.S w w'
set_option maxRecDepth 100000 in
set_option maxHeartbeats 16000000 in
theorem jkeptScan_any (H : ST q w x op S) (L : Lay S T) (G : GL w v l) (hq : ∀ k, GLm v l k ∨ GLi l k → ¬ q.S k) (nm : ByteArray) (col : Int) (lh hh : Bool) (lv hv : Vl) (hlw : lv.wf) (hhw : hv.wf) : Calls Tryz.prog 37 #[.pointer (some ⟨x, 0, none⟩), v, .string nm, .int .i64 col, bdA lh lv, bdA hh hv] w (KsP q w x op S (KsX l (dbOf T) nm col (bndOf lh lv) (bndOf hh hv))) := by
  have o1 : Only (fun _ => False) w ((w.alloc (.cells (scA lh lv) 74)).alloc (.cells (scA hh hv) 74)) := ((Only.refl _ w).alloc _).alloc _
  have A1 : Has ((w.alloc (.cells (scA lh lv) 74)).alloc (.cells (scA hh hv) 74)) w.heap.size (scA lh lv) 74 := (Has.new w _ _).alloc _
  have B1 : Has ((w.alloc (.cells (scA lh lv) 74)).alloc (.cells (scA hh hv) 74)) (w.heap.size + 1) (scA hh hv) 74 := Has.new' _ _ _ _ (by simp)
  have H1 := H.quiet o1
  have CS := escan_any H1 L nm col lh hh lv hv hlw hhw
  obtain ⟨va, vc, hvs⟩ := G.shape
  subst hvs
  unfold scA at A1 B1 CS o1
  have nA : ¬ q.S w.heap.size := H.new (Nat.le_refl _)
  have nB : ¬ q.S (w.heap.size + 1) := H.new (Nat.le_succ _)
  have HH := hide (And.intro H (And.intro L (And.intro (G.quiet o1) (And.intro hq o1))))
  have HG := hide G
  unfold bdA at CS ⊢
  have a0 := A1.cell 0
  have a1 := A1.cell 1
  have a2 := A1.cell 2
  have a3 := A1.cell 3
  have b0 := B1.cell 0
  have b1 := B1.cell 1
  have b2 := B1.cell 2
  have b3 := B1.cell 3
  simp at a0 a1 a2 a3 b0 b1 b2 b3
  have HAB := hide (And.intro A1 (And.intro B1 (And.intro nA nB)))
  have CS := hide CS
  have HO1 := hide o1
  have HLEN := hide (scnD_len L nm col (bndOf lh lv) (bndOf hh hv))
  clear H L G hq H1 o1 A1 B1 nA nB
  go_enter Tryz.func37, Tryz.ntmps37
  go_wp2_with fail
  refine (unhide CS).mono ?_
  rintro y w2 ⟨rv, rfl, hrv, st2, o2⟩
  obtain ⟨ra, rc, hrs⟩ := hrv.shp
  obtain ⟨R, ze, hRz⟩ : ∃ R ze, scnD (dbOf T) nm col (bndOf lh lv) (bndOf hh hv) = (R, ze) := ⟨_, _, rfl⟩
  have HRZ := hide hRz
  rw [hRz] at hrv hrs ⊢
  have HL8 := hide (show R.length ≤ 8 from by have := unhide HLEN; rw [hRz] at this; exact this)
  clear hRz HLEN CS
  subst hrs
  generalize ((w.alloc (.cells #[.bool lh, .bool lv.str, .int .i64 lv.i, .string lv.s] 74)).alloc (.cells #[.bool hh, .bool hv.str, .int .i64 hv.i, .string hv.s] 74)) = w1 at *
  generalize w.heap.size = kb at *
  have G2 := (unhide HH).2.2.1.keep o2 (fun k hk => (unhide HH).2.2.2.1 k (.inl hk)) (fun k hk => (unhide HH).2.2.2.1 k (.inr hk))
  have A2 := (unhide HAB).1.keep o2 (unhide HAB).2.2.1
  have B2 := (unhide HAB).2.1.keep o2 (unhide HAB).2.2.2
  clear a0 a1 a2 a3 b0 b1 b2 b3
  have a0 := A2.cell 0
  have a1 := A2.cell 1
  have a2 := A2.cell 2
  have a3 := A2.cell 3
  have b0 := B2.cell 0
  have b1 := B2.cell 1
  have b2 := B2.cell 2
  have b3 := B2.cell 3
  simp at a0 a1 a2 a3 b0 b1 b2 b3
  have CD := jscanDue_any G2 nm col lh hh lv hv
  unfold bdA at CD
  have CD := hide CD
  have HX := hide (And.intro st2 (And.intro (((unhide HO1).mono (fun _ _ e => e.elim)).trans o2 (fun _ _ e => e) : Only q.S w w2) (And.intro hrv (And.intro G2 (And.intro A2 B2)))))
  clear st2 o2 hrv G2 A2 B2
  go_wp2_with fail
  refine (unhide CD).mono ?_
  rintro y w3 ⟨z, rfl, hz, o3⟩
  have st3 := (unhide HX).1.quiet o3
  have on3 := (unhide HX).2.1.trans (o3.mono (fun _ _ e => e.elim)) (fun _ _ e => e)
  have rr3 := (unhide HX).2.2.1.keep o3 (fun _ _ e => e)
  have G3 := (unhide HX).2.2.2.1.quiet o3
  have A3 := (unhide HX).2.2.2.2.1.keep o3 (fun e => e)
  have B3 := (unhide HX).2.2.2.2.2.keep o3 (fun e => e)
  clear a0 a1 a2 a3 b0 b1 b2 b3 o3 CD HX
  have HST := hide (And.intro st3 on3)
  by_cases hne : ze = z
  · have d1 : (ze != z) = false := by rw [hne]; simp
    have d1' : (z != z) = false := by simp
    by_cases z0 : z = 0
    · have d2 : (z != 0) = false := by rw [z0]; simp
      obtain ⟨i, e, hi, hn, hE⟩ : ∃ (i : Nat) (e : GE), l[i]? = some e ∧ e.t.nm = nm ∧ z = scnE e.t col (bndOf lh lv) (bndOf hh hv) := by
        rcases hz with ⟨rfl, _⟩ | h
        · cases z0
        · exact h
      obtain ⟨c, rfl⟩ : ∃ c : Nat, col = c := ⟨col.toNat, by
        apply Classical.byContradiction
        intro hx
        have : col < 0 := by omega
        unfold scnE at hE
        rw [if_pos (.inl this)] at hE
        omega⟩
      have hcl : c < e.t.cols.length := by
        apply Classical.byContradiction
        intro hx
        unfold scnE at hE
        rw [if_pos (.inr (by omega))] at hE
        omega
      obtain ⟨b, cap, hvx, P3, E3⟩ := G3.pt hi
      simp only [Value.slice.injEq] at hvx
      obtain ⟨rfl, _, rfl⟩ := hvx
      have il : (i : Int) < (l.length : Int) := by have := (List.getElem?_eq_some_iff.mp hi).1; omega
      have CG := hide (jgfind_any G3 nm)
      have CT := jscanFits_any (P3.keep ((Only.refl (fun _ => False) w3).drew) (fun e => e)) (E3.keep ((Only.refl (fun _ => False) w3).drew) (fun _ _ e => e) (fun _ _ e => e)) hcl lh hh lv hv (rr3.keep ((Only.refl (fun _ => False) w3).drew) (fun _ _ e => e)) (unhide HL8)
      unfold bdA at CT
      have CT := hide CT
      have HK := hide (fun bb (hb : bb = true ↔ ScF e.t c (bndOf lh lv) (bndOf hh hv) R) => KsX.fits (T := T) (unhide HG) (unhide HH).2.1 hi hn hcl (by rw [← hE, z0]) (by rw [unhide HRZ]; exact hne.trans z0) (by rw [unhide HRZ]; exact hb))
      have HONE := hide (fun r (hr : GFR l nm r) => show r = (i : Int) from by
        rcases hr with ⟨_, h⟩ | ⟨j, y, hy, rfl, hny⟩
        · exact absurd hn (h e (List.mem_of_getElem? hi))
        · obtain ⟨il, ie⟩ := List.getElem?_eq_some_iff.mp hi
          obtain ⟨jl, je⟩ := List.getElem?_eq_some_iff.mp hy
          have : j = i := nodup_inj G3.nd (by rw [List.length_map]; exact jl) (by rw [List.length_map]; exact il) (by rw [List.getElem_map, List.getElem_map, ie, je, hny, hn])
          rw [this])
      have h3 := G3.len
      have HAB3 := hide (And.intro A3 B3)
      obtain ⟨ln, hln⟩ : ∃ ln, l.length = ln := ⟨_, rfl⟩
      rw [hln] at il h3 CG ⊢
      obtain ⟨rl, hrl⟩ : ∃ rl, R.length = rl := ⟨_, rfl⟩
      rw [hrl] at CT ⊢
      clear hz hE hi hn hcl P3 E3 G3 A3 B3 rr3 st3 on3 hln hrl
      subst hne
      subst z0
      go_wp2_with fail
      refine (unhide CG).mono ?_
      rintro y w4 ⟨r, rfl, hr, rfl⟩
      obtain rfl := unhide HONE r hr
      clear hr CG HONE
      have a0 := (unhide HAB3).1.cell 0
      have a1 := (unhide HAB3).1.cell 1
      have a2 := (unhide HAB3).1.cell 2
      have a3 := (unhide HAB3).1.cell 3
      have b0 := (unhide HAB3).2.cell 0
      have b1 := (unhide HAB3).2.cell 1
      have b2 := (unhide HAB3).2.cell 2
      have b3 := (unhide HAB3).2.cell 3
      simp at a0 a1 a2 a3 b0 b1 b2 b3
      go_upto_region 8 with fail
      refine wp_region_held_drew (S := (fun w' => w'.cell? ⟨kb, 0, none⟩ = some (.bool lh) ∧ w'.cell? ⟨kb, 1, none⟩ = some (.bool lv.str) ∧ w'.cell? ⟨kb, 2, none⟩ = some (.int .i64 lv.i) ∧ w'.cell? ⟨kb, 3, none⟩ = some (.string lv.s) ∧ w'.cell? ⟨kb + 1, 0, none⟩ = some (.bool hh) ∧ w'.cell? ⟨kb + 1, 1, none⟩ = some (.bool hv.str) ∧ w'.cell? ⟨kb + 1, 2, none⟩ = some (.int .i64 hv.i) ∧ w'.cell? ⟨kb + 1, 3, none⟩ = some (.string hv.s))) (by kernel_rfl) ⟨a0, a1, a2, a3, b0, b1, b2, b3⟩ (fun hH0 => ?_)
      refine takeH 0 43 (v := ?vt1) rfl rfl (by kernel_rfl) (by kernel_rfl) (by kernel_rfl) (fun _ _ _ h => h) (Or.inl ⟨by rfl, ?ht1⟩) hH0 ?rt1
      case ht1 => (intro w hSw; clear hSw; go_simp; (try with_reducible rfl))
      case rt1 =>
      try simp only [Act.put, List.setIfInBounds_toArray, List.set_cons_zero, List.set_cons_succ]
      refine takeH 1 44 (v := ?vt2) rfl rfl (by kernel_rfl) (by kernel_rfl) (by kernel_rfl) (fun _ _ _ h => h) (Or.inl ⟨by rfl, ?ht2⟩) hH0 ?rt2
      case ht2 => (intro w hSw; clear hSw; go_simp; (try with_reducible rfl))
      case rt2 =>
      try simp only [Act.put, List.setIfInBounds_toArray, List.set_cons_zero, List.set_cons_succ]
      refine takeH 2 45 (v := ?vt3) rfl rfl (by kernel_rfl) (by kernel_rfl) (by kernel_rfl) (fun _ _ _ h => h) (Or.inl ⟨by rfl, ?ht3⟩) hH0 ?rt3
      case ht3 => (intro w hSw; clear hSw; go_simp; (try with_reducible rfl))
      case rt3 =>
      try simp only [Act.put, List.setIfInBounds_toArray, List.set_cons_zero, List.set_cons_succ]
      refine takeH 3 46 (v := ?vt4) rfl rfl (by kernel_rfl) (by kernel_rfl) (by kernel_rfl) (fun _ _ _ h => h) (Or.inl ⟨by rfl, ?ht4⟩) hH0 ?rt4
      case ht4 => (intro w hSw; clear hSw; go_simp; (try with_reducible rfl))
      case rt4 =>
      try simp only [Act.put, List.setIfInBounds_toArray, List.set_cons_zero, List.set_cons_succ]
      refine takeH 4 47 (v := ?vt5) rfl rfl (by kernel_rfl) (by kernel_rfl) (by kernel_rfl) (fun _ _ _ h => h) (Or.inl ⟨by rfl, ?ht5⟩) hH0 ?rt5
      case ht5 => (intro w hSw; obtain ⟨s0, s1, s2, s3, s4, s5, s6, s7⟩ := hSw; go_simp; (try with_reducible rfl))
      case rt5 =>
      try simp only [Act.put, List.setIfInBounds_toArray, List.set_cons_zero, List.set_cons_succ]
      refine takeH 5 48 (v := ?vt6) rfl rfl (by kernel_rfl) (by kernel_rfl) (by kernel_rfl) (fun _ _ _ h => h) (Or.inl ⟨by rfl, ?ht6⟩) hH0 ?rt6
      case ht6 => (intro w hSw; obtain ⟨s0, s1, s2, s3, s4, s5, s6, s7⟩ := hSw; go_simp; (try with_reducible rfl))
      case rt6 =>
      try simp only [Act.put, List.setIfInBounds_toArray, List.set_cons_zero, List.set_cons_succ]
      refine takeH 6 49 (v := ?vt7) rfl rfl (by kernel_rfl) (by kernel_rfl) (by kernel_rfl) (fun _ _ _ h => h) (Or.inl ⟨by rfl, ?ht7⟩) hH0 ?rt7
      case ht7 => (intro w hSw; clear hSw; go_simp; (try with_reducible rfl))
      case rt7 =>
      try simp only [Act.put, List.setIfInBounds_toArray, List.set_cons_zero, List.set_cons_succ]
      refine callH 7 (by kernel_rfl) rfl 50 rfl rfl 99 Tryz.func99 (by kernel_rfl) (by kernel_rfl) #[.tmp 45, .tmp 46, .tmp 47, .tmp 48, .tmp 49] #[136, 3, 74, 74, 66] rfl #[.pointer (some ⟨b, i * 5, none⟩), .int .i64 c, .agg #[.bool lh, .bool lv.str, .int .i64 lv.i, .string lv.s], .agg #[.bool hh, .bool hv.str, .int .i64 hv.i, .string hv.s], .slice ra rl rc] (by simp [Act.eval]) (R := fun v w' => ∃ bb : Bool, v = .bool bb ∧ (bb = true ↔ ScF e.t c (bndOf lh lv) (bndOf hh hv) R) ∧ Only (fun _ => False) w3.drew w') ((unhide CT).mono (by rintro en w' ⟨bb, rfl, hb, o⟩; exact ⟨_, rfl, bb, rfl, hb, o⟩)) ?kt
      case kt =>
      rintro _ w6 ⟨bb, rfl, hb, o6⟩
      have S6 : w6.cell? ⟨kb, 0, none⟩ = some (.bool lh) ∧ w6.cell? ⟨kb, 1, none⟩ = some (.bool lv.str) ∧ w6.cell? ⟨kb, 2, none⟩ = some (.int .i64 lv.i) ∧ w6.cell? ⟨kb, 3, none⟩ = some (.string lv.s) ∧ w6.cell? ⟨kb + 1, 0, none⟩ = some (.bool hh) ∧ w6.cell? ⟨kb + 1, 1, none⟩ = some (.bool hv.str) ∧ w6.cell? ⟨kb + 1, 2, none⟩ = some (.int .i64 hv.i) ∧ w6.cell? ⟨kb + 1, 3, none⟩ = some (.string hv.s) := ⟨o6.cellF hH0.1, o6.cellF hH0.2.1, o6.cellF hH0.2.2.1, o6.cellF hH0.2.2.2.1, o6.cellF hH0.2.2.2.2.1, o6.cellF hH0.2.2.2.2.2.1, o6.cellF hH0.2.2.2.2.2.2.1, o6.cellF hH0.2.2.2.2.2.2.2⟩
      refine ⟨S6, ?_⟩
      try simp only [Act.put, List.setIfInBounds_toArray, List.set_cons_zero, List.set_cons_succ]
      refine takeH 8 12 (v := ?vt8) rfl rfl (by kernel_rfl) (by kernel_rfl) (by kernel_rfl) (fun _ _ _ h => h) (Or.inl ⟨by rfl, ?ht8⟩) S6 ?rt8
      case ht8 => (intro w hSw; clear hSw; go_simp; (try with_reducible rfl))
      case rt8 =>
      try simp only [Act.put, List.setIfInBounds_toArray, List.set_cons_zero, List.set_cons_succ]
      refine wpAnyH_done (by kernel_rfl) ?_ _
      have oD : Only (fun _ => False) w3 w6 := (Only.refl _ w3).drew.trans o6 (fun _ _ e => e)
      have HF := hide oD
      clear hH0 S6 o6 oD
      have HP := hide (show KsP q w x op S (KsX l (dbOf T) nm (c : Int) (bndOf lh lv) (bndOf hh hv)) (.returned (.bool bb)) w6 from ⟨bb, rfl, unhide HK bb hb, (unhide HST).1.quiet (unhide HF), (unhide HST).2.trans ((unhide HF).mono (fun _ _ e => e.elim)) (fun _ _ e => e)⟩)
      clear hb
      go_wp2_with fail
      go_ret
      exact unhide HP
    · have d2 : (z != 0) = true := by simpa using z0
      have hRe : R = [] := by have := scnD_err (D := dbOf T) (nm := nm) (col := col) (lo := bndOf lh lv) (hi := bndOf hh hv) (by rw [unhide HRZ]; rw [hne]; exact z0); rw [unhide HRZ] at this; exact this
      have HP := hide (show KsP q w x op S (KsX l (dbOf T) nm col (bndOf lh lv) (bndOf hh hv)) (.returned (.bool true)) w3 from ⟨true, rfl, KsX.none (T := T) (unhide HG) hz z0 rfl, (unhide HST).1, (unhide HST).2⟩)
      subst hRe
      subst hne
      clear hz z0 rr3 G3 A3 B3 st3 on3
      simp only [List.length_nil]
      go_wp2_with fail
      go_ret
      exact unhide HP
  · have d1 : (ze != z) = true := by simpa using hne
    have HP := hide (show KsP q w x op S (KsX l (dbOf T) nm col (bndOf lh lv) (bndOf hh hv)) (.returned (.bool false)) w3 from ⟨false, rfl, KsX.err (T := T) (unhide HG) (unhide HH).2.1 hz (by rw [unhide HRZ]; exact hne), (unhide HST).1, (unhide HST).2⟩)
    clear hz hne rr3 G3 A3 B3 st3 on3
    go_wp2_with fail
    go_ret
    exact unhide HP
end
end Go.Proofs.Qxb6500413aGreat
