/-
  OWN WORK. TXN: checkSet, Check (written by tools/gen_x23.py).
-/
import Derived.Test.Qxb6500414aGreatX22
namespace Go.Proofs.Qxb6500414aGreat
open Go.RowKit Go.PlainAid
set_option linter.unusedSimpArgs false
set_option linter.unusedVariables false

section
variable {q : Gnd} {w w' : World} {g x : Nat} {X : Xs} {op : Bool} {S : Vu} {T : List (Tb × Hd)} {D : Db}
theorem so_nw1 {cv : Value} (h : Newer w.drew cv) : ∀ k, cv.ownBlock = some k → w.heap.size ≤ k := fun k hk => by
  have h1 := h k hk
  have h2 := ((Only.refl (fun _ => False) w).drew).size
  omega
theorem so_nw2 {cv : Value} {o : Obj} (h : Newer (w.alloc o).drew cv) : ∀ k, cv.ownBlock = some k → w.heap.size ≤ k := fun k hk => by
  have h1 := h k hk
  have h2 := (((Only.refl (fun _ => False) w).alloc o).drew).size
  omega
set_option maxRecDepth 100000 in
set_option maxHeartbeats 8000000 in
theorem xchkSet_any (H : XR q w g x X op S) (L : Lay S T) (ok : XOk X (dbOf T)) {s : Nat} (hs4 : s < 4) : Calls Tryz.prog 92 #[.pointer (some ⟨g, 0, none⟩), .int .i64 (s : Int)] w fun e w' => e = .returned (.bool true) ∧ XR q w' g x X op S ∧ Only q.S w w' := by
  have HH := hide H
  have HLa := hide L
  have HOk := hide ok
  have s4 : (s : Int) < 4 := by omega
  have gl := H.xm.has.lt
  have ca := H.xm.has.act hs4
  have cw := H.xm.has.wset hs4
  obtain ⟨n, hn⟩ : ∃ n, (X.ws s).length = n := ⟨_, rfl⟩
  have hn48 : n ≤ 48 := by rw [← hn]; exact (ok.ws s hs4).short ok.db
  obtain ⟨wa, wcap, hwv⟩ := (H.xm.ws s hs4).shape
  rw [hn] at hwv
  rw [hwv] at cw
  have Hn := hide hn
  have Hwv := hide hwv
  obtain ⟨a, ha⟩ : ∃ B : Bool, X.act s = B := ⟨_, rfl⟩
  rw [ha] at ca
  have h0 : a = false → n = 0 := fun e => by rw [← hn, ok.idle s hs4 (by rw [ha, e])]; rfl
  clear H L ok hn hwv ha
  go_enter Tryz.func92, Tryz.ntmps92
  go_upto_region 1 with fail
  go_cut [28] from 12 to 28 (fun bv wx => bv = .bool false ∧ w = wx)
  case first =>
    cases a with
    | true =>
      clear h0
      go_wp2_with fail
      go_meet
      exact ⟨rfl, rfl⟩
    | false =>
      obtain rfl := h0 rfl
      clear h0
      go_wp2_with fail
      go_meet
      exact ⟨rfl, rfl⟩
  case rest =>
  obtain ⟨rfl, rfl⟩ := hcut
  clear ca cw h0
  go_upto_region 4 with fail
  go_loopw [5, 6, 7, 8, 9, 10, 11] (fun pv _ _ _ _ _ _ wr => ∃ p : Nat, pv = .int .i64 p ∧ p ≤ n ∧ XR q wr g x X op S ∧ Only q.S w wr) (fun pv _ _ _ _ _ _ _ => n + 1 - (intOf pv).toNat)
  case atStart => exact ⟨0, rfl, Nat.zero_le _, unhide HH, Only.refl _ w⟩
  case round =>
    obtain ⟨p, rfl, hp, hx, ho⟩ := hrel
    have cw0 := hx.xm.has.wset hs4
    rw [unhide Hwv] at cw0
    have gl := hx.xm.has.lt
    by_cases hpn : p < n
    · have a2 : decide ((p : Int) < (n : Int)) = true := decide_eq_true (by omega)
      have a2p : (p : Int) < (n : Int) := by omega
      obtain ⟨c, hc⟩ := getE (l := X.ws s) (i := p) (by rw [unhide Hn]; exact hpn)
      have W1 := hx.xm.ws s hs4
      rw [unhide Hwv] at W1
      obtain ⟨b, rfl, e0, e1, e2, e3, e4, e5⟩ := W1.at_ hc
      have OX := W1.row c (List.mem_of_getElem? hc)
      have hcI : ∀ k, c.u.ownBlock = some k → ¬ q.S k := fun k hk h => (hx.off k (.inr (.inr ⟨s, hs4, c, List.mem_of_getElem? hc, hk⟩))).1 (Gnd.S_A h)
      obtain ⟨xa, xc, hxu⟩ := OX.shape
      obtain ⟨xn, hxn⟩ : ∃ k, c.d.row.length = k := ⟨_, rfl⟩
      rw [hxn] at hxu
      rw [hxu] at e5 OX hcI
      have bl : b < wr.heap.size := ownsRow_lt W1.own b rfl
      have NC : ¬ q.S wr.heap.size := hx.st.new (Nat.le_refl _)
      obtain ⟨gn, hgn⟩ : ∃ B : Bool, c.d.gone = B := ⟨_, rfl⟩
      rw [hgn] at e4
      obtain ⟨tab, htab⟩ : ∃ tb, c.d.tab = tb := ⟨_, rfl⟩
      rw [htab] at e0
      obtain ⟨t, htD, hnT, kk⟩ := ((unhide HOk).ws s hs4).o.ok c (List.mem_of_getElem? hc)
      rw [htab] at hnT
      obtain ⟨⟨t1, hd⟩, hmT, et⟩ := List.mem_map.mp htD
      have et : t1 = t := et
      rw [et] at hmT
      have o2 : Only (fun _ => False) wr (wr.alloc (.cells #[.string tab, .bool c.d.key.str, .int .i64 c.d.key.i, .string c.d.key.s, .bool gn, .slice xa xn xc] 181)) := (Only.refl _ wr).alloc _
      have N2 := Has.new wr #[.string tab, .bool c.d.key.str, .int .i64 c.d.key.i, .string c.d.key.s, .bool gn, .slice xa xn xc] 181
      have HX2 := hide (hx.quiet o2)
      have HOX := hide (OX.keep o2 (fun _ _ h => h))
      have HcI := hide hcI
      have HNC := hide NC
      have HN2 := hide N2
      have HO2 := hide (ho.trans (o2.mono (T := q.S) (fun _ _ h => h.elim)) (fun _ _ h => h))
      have HC := hide (And.intro hc hgn)
      have HWd := hide kk
      have HtD := hide htD
      have Hxn := hide hxn
      have HnT := hide hnT
      have Htab := hide htab
      clear W1 OX hcI hxu hxn NC N2 hx hc hgn ho et kk htab
      go_upto_region 7 with fail
      generalize wr.alloc (.cells #[.string tab, .bool c.d.key.str, .int .i64 c.d.key.i, .string c.d.key.s, .bool gn, .slice xa xn xc] 181) = w2 at *
      have s2 := o2.size
      generalize hkc : wr.heap.size = kc at *
      clear hkc o2 e0 e1 e2 e3 e4 e5 cw0
      have p0 := (unhide HX2).xm.has.c0
      have gl2 := (unhide HX2).xm.has.lt
      have kl2 := (unhide HN2).lt
      have t0 : w2.cell? ⟨kc, 0, none⟩ = some (.string tab) := (unhide HN2).cell 0
      have CA1 := hide (by have := eschemaOf_yes ((unhide HX2).quiet ((Only.refl (fun _ => False) w2).drew)).st (unhide HLa) hmT; rw [hnT] at this; unfold scC at this; exact this)
      have CA2 := hide (by have := eschemaOf_yes ((unhide HX2).quiet (((Only.refl (fun _ => False) w2).alloc (.cells #[.string ⟨#[]⟩, .slice none 0 0, .int .i64 0, .int .i64 0] 51)).drew)).st (unhide HLa) hmT; rw [hnT] at this; unfold scC at this; exact this)
      go_upto_region 7 with fail
      go_cut [7, 8] from 49 to 58 (fun kv ev wx => ∃ kb ca cc, kv = .pointer (some ⟨kb, 0, none⟩) ∧ ev = .int .i64 0 ∧ SoF q w2 g x X op S kb #[.string tab, .slice ca t.cols.length cc, .int .i64 (t.pk : Int), .int .i64 (ixI t.ix)] wx ∧ OwnC wx (.slice ca t.cols.length cc) t.cols ∧ ∀ k, (Value.slice ca t.cols.length cc).ownBlock = some k → w2.heap.size ≤ k)
      case first =>
        go_region_with (go_at_call 142; first | (refine (unhide CA1).mono ?_; rintro e w5 ⟨cv, rfl, hc5, hn5, h5, o5⟩; obtain ⟨ca, cc, rfl⟩ := hc5.shape; have cl5 := hc5.lt; have HF2 := hide (show SoF q w2 g x X op S w5.heap.size #[.string tab, .slice ca t.cols.length cc, .int .i64 (t.pk : Int), .int .i64 (ixI t.ix)] (w5.alloc (.cells #[.string tab, .slice ca t.cols.length cc, .int .i64 (t.pk : Int), .int .i64 (ixI t.ix)] 51)) from so_first (unhide HX2) h5 o5 #[.string tab, .slice ca t.cols.length cc, .int .i64 (t.pk : Int), .int .i64 (ixI t.ix)]); have HC2 := hide (And.intro (hc5.keep ((Only.refl (fun _ => False) w5).alloc (.cells #[.string tab, .slice ca t.cols.length cc, .int .i64 (t.pk : Int), .int .i64 (ixI t.ix)] 51)) (fun _ _ h => h)) (so_nw1 hn5)); clear h5 o5 hc5 hn5) | (refine (unhide CA2).mono ?_; rintro e w5 ⟨cv, rfl, hc5, hn5, h5, o5⟩; obtain ⟨ca, cc, rfl⟩ := hc5.shape; have cl5 := hc5.lt; obtain ⟨⟨b0, b1, b2, b3, bf0, bf1, bf2, bf3⟩, hfin, hok⟩ := so_last (unhide HX2) h5 o5 (.string tab) (.slice ca t.cols.length cc) (.int .i64 (t.pk : Int)) (.int .i64 (ixI t.ix)); have HF2 := hide hfin; have HC2 := hide (And.intro (hok hc5 hn5) (so_nw2 hn5)); clear h5 o5 hfin hok hc5 hn5))
        all_goals
          go_wp2_with fail
          go_meet
          exact ⟨_, _, _, rfl, rfl, unhide HF2, unhide HC2⟩
      case rest =>
      obtain ⟨kb, ca, cc, rfl, rfl, ⟨hkb, hS5, hx5, o5⟩, hC5, hNca⟩ := hcut
      generalize wc = w5 at *
      have s5 := o5.size
      have N5 := (unhide HN2).keep o5 (unhide HNC)
      have HU5 := hide ((unhide HOX).keep o5 (unhide HcI))
      have HNB := hide (show ¬ q.S kb from (unhide HX2).st.new hkb)
      have HNCa := hide (show ∀ k, (Value.slice ca t.cols.length cc).ownBlock = some k → ¬ q.S k from fun k hk => (unhide HX2).st.new (hNca k hk))
      have HN5 := hide N5
      have HS5 := hide hS5
      have HC5 := hide hC5
      have HO5 := hide ((unhide HO2).trans o5 (fun _ _ h => h))
      have CV := xview_any hx5 (unhide HLa) (unhide HOk).bounds (s : Int) tab
      have CV := hide CV
      have t0 : w5.cell? ⟨kc, 0, none⟩ = some (.string tab) := N5.cell 0
      have kl5 := N5.lt
      clear CA1 CA2 hS5 hC5 o5 hx5 N5 HX2 HOX HN2 HO2
      go_wp2_with fail
      refine (unhide CV).mono ?_
      rintro e w6 hV
      obtain ⟨v, Z, rfl, hR6, hZ, hx6, o6⟩ : ∃ v Z, e = .returned (.tuple #[v, .int .i64 0]) ∧ RL w5.heap.size v Z w6 ∧ Z.length ≤ 8 ∧ XR q w6 g x X op S ∧ Only q.S w5 w6 := by
        rcases hV with ⟨hb, _⟩ | ⟨_, hf, _⟩ | ⟨_, t', hf, v, Z, he, hr, hz, hx, ho⟩
        · exact absurd (show gdS (s : Int) from ⟨by omega, by omega⟩) hb
        · exact absurd (unhide HnT) (findD_none hf (unhide HtD))
        · refine ⟨v, Z, he, hr, ?_, hx, ho⟩
          have e1 : t' = t := by
            obtain ⟨h1, h2⟩ := findD_mem hf
            exact (unhide HOk).db.one h1 (unhide HtD) (by rw [h2, unhide HnT])
          have e2 := vw_see ((unhide HOk).ws s hs4) (unhide HOk).db (unhide HtD)
          unfold vwP at e2
          rw [unhide HnT] at e2
          have e3 : Z.length = (seeT (X.ws s) t).rows.length := by
            have e4 : (Z.map (·.2)).length = Z.length := List.length_map _
            rw [← e4, hz, e1, ← e2]
            rfl
          rw [e3]
          exact ((unhide HOk).ws s hs4).len t (unhide HtD)
      obtain ⟨va, vc, rfl⟩ := ownsRow_shape hR6.own
      generalize Z.length = zn at *
      have z8 : decide ((zn : Int) > 8) = false := decide_eq_false (by omega)
      have z8' : decide ((8 : Int) < (zn : Int)) = false := decide_eq_false (by omega)
      have N6 := (unhide HN5).keep o6 (unhide HNC)
      have HN6 := hide N6
      have HS6 := hide ((unhide HS5).keep o6 (unhide HNB))
      have HC6 := hide ((unhide HC5).keep o6 (unhide HNCa))
      have HU6 := hide ((unhide HU5).keep o6 (unhide HcI))
      have HX6 := hide hx6
      have HO6 := hide ((unhide HO5).trans o6 (fun _ _ h => h))
      have t0 : w6.cell? ⟨kc, 0, none⟩ = some (.string tab) := N6.cell 0
      have kl6 := N6.lt
      have CL := hide (xlockOf_any hx6.xm.has (s : Int) tab)
      clear CV hV hR6 hZ hx6 o6 N6 HN5 HS5 HC5 HU5 HO5
      go_wp2_with fail
      refine (unhide CL).mono ?_
      rintro e w7 ⟨z2, rfl, ⟨r, hr, hzr⟩, rfl⟩
      obtain rfl : z2 = 2 := by
        have h1 := ((unhide HOk).wl s hs4 c (List.mem_of_getElem? (unhide HC).1))
        rw [unhide Htab, hr.lk (s := s)] at h1
        rw [hzr, ← h1]
        by_cases c1 : 0 ≤ r
        · rw [if_pos ⟨⟨by omega, by omega⟩, c1⟩, if_pos c1]
          rfl
        · rw [if_neg (fun x => c1 x.2), if_neg c1]
      clear CL hr hzr
      go_upto_region 11 with fail
      generalize hw7 : w6 = w7 at *
      clear hw7
      have p0 := (unhide HX6).xm.has.c0
      have gl7 := (unhide HX6).xm.has.lt
      have cw0 := (unhide HX6).xm.has.wset hs4
      rw [unhide Hwv] at cw0
      have t0 : w7.cell? ⟨kc, 0, none⟩ = some (.string tab) := (unhide HN6).cell 0
      have t1 : w7.cell? ⟨kc, 1, none⟩ = some (.bool c.d.key.str) := (unhide HN6).cell 1
      have t2 : w7.cell? ⟨kc, 2, none⟩ = some (.int .i64 c.d.key.i) := (unhide HN6).cell 2
      have t3 : w7.cell? ⟨kc, 3, none⟩ = some (.string c.d.key.s) := (unhide HN6).cell 3
      have t4 : w7.cell? ⟨kc, 4, none⟩ = some (.bool gn) := (unhide HN6).cell 4
      have t5 : w7.cell? ⟨kc, 5, none⟩ = some (.slice xa xn xc) := (unhide HN6).cell 5
      go_cut [110] from 82 to 110 (fun bv wx => bv = .bool false ∧ Only (fun _ => False) w7 wx)
      case first =>
        by_cases hp0 : p = 0
        · subst hp0
          have HD := hide ((Only.refl (fun _ => False) w7).drew)
          go_region
          all_goals
            go_wp2_with fail
            go_meet
            exact ⟨rfl, unhide HD⟩
        · have dp : decide ((p : Int) > 0) = true := decide_eq_true (by omega)
          have dp' : decide ((0 : Int) < (p : Int)) = true := decide_eq_true (by omega)
          have dpn : decide (0 < p) = true := decide_eq_true (by omega)
          have dp0 : (0 : Int) < (p : Int) := by omega
          obtain ⟨m, hm⟩ : ∃ m, p = m + 1 := ⟨p - 1, by omega⟩
          have hmn : (m : Int) < (n : Int) := by omega
          have Hwp := hide (show IntKind.i64.wrap ((p : Int) - 1) = (m : Int) by rw [IntWalk.i64_in] <;> omega)
          obtain ⟨y, hy⟩ := getE (l := X.ws s) (i := m) (by rw [unhide Hn]; omega)
          have W7 := (unhide HX6).xm.ws s hs4
          rw [unhide Hwv] at W7
          obtain ⟨b2, eb, y0, y1, y2, y3, _, _⟩ := W7.at_ hy
          obtain rfl : b = b2 := by simpa using eb
          have bl7 : b < w7.heap.size := ownsRow_lt W7.own b rfl
          have hup : sideP y.d.tab y.d.key c.d < 0 := by
            have h1 := ((unhide HOk).ws s hs4).o.up
            have l1 := List.getElem?_eq_some_iff.mp hy
            have l2 := List.getElem?_eq_some_iff.mp (unhide HC).1
            have := List.pairwise_iff_getElem.mp h1 m p l1.1 l2.1 (by omega)
            rw [l1.2, l2.2] at this
            exact this
          have CS := xside_any y.d.tab y.d.key c.d xa xn xc w7.drew
          obtain ⟨z, hz⟩ : ∃ z, sideP y.d.tab y.d.key c.d = z := ⟨_, rfl⟩
          rw [hz] at CS hup
          unfold vlA chA at CS
          rw [unhide Htab, (unhide HC).2] at CS
          have CS := hide CS
          have dz : decide (z ≥ 0) = false := decide_eq_false (by omega)
          have dz' : decide (0 ≤ z) = false := decide_eq_false (by omega)
          clear hz hy W7 hup eb hm
          refine wp_region_held_drew (S := (fun w' => w'.cell? ⟨g, 23 + s, none⟩ = some (.slice (some ⟨b, 0, none⟩) n wcap) ∧ w'.cell? ⟨b, m * 6, none⟩ = some (.string y.d.tab) ∧ w'.cell? ⟨b, m * 6 + 1, none⟩ = some (.bool y.d.key.str) ∧ w'.cell? ⟨b, m * 6 + 2, none⟩ = some (.int .i64 y.d.key.i) ∧ w'.cell? ⟨b, m * 6 + 3, none⟩ = some (.string y.d.key.s) ∧ w'.cell? ⟨kc, 0, none⟩ = some (.string tab) ∧ w'.cell? ⟨kc, 1, none⟩ = some (.bool c.d.key.str) ∧ w'.cell? ⟨kc, 2, none⟩ = some (.int .i64 c.d.key.i) ∧ w'.cell? ⟨kc, 3, none⟩ = some (.string c.d.key.s) ∧ w'.cell? ⟨kc, 4, none⟩ = some (.bool gn) ∧ w'.cell? ⟨kc, 5, none⟩ = some (.slice xa xn xc))) (by kernel_rfl) ⟨cw0, y0, y1, y2, y3, t0, t1, t2, t3, t4, t5⟩ (fun hH0 => ?_)
          refine takeH 0 82 (v := ?vs1) rfl rfl (by kernel_rfl) (by kernel_rfl) (by kernel_rfl) (fun _ _ _ h => h) (Or.inl ⟨by rfl, ?hs1⟩) hH0 ?rs1
          case hs1 => (intro w hSw; clear hSw; go_simp; (try with_reducible rfl))
          case rs1 =>
          try simp only [Act.put, List.setIfInBounds_toArray, List.set_cons_zero, List.set_cons_succ]
          refine takeH 1 83 (v := ?vs2) rfl rfl (by kernel_rfl) (by kernel_rfl) (by kernel_rfl) (fun _ _ _ h => h) (Or.inl ⟨by rfl, ?hs2⟩) hH0 ?rs2
          case hs2 => (intro w hSw; clear hSw; go_simp; (try with_reducible rfl))
          case rs2 =>
          try simp only [Act.put, List.setIfInBounds_toArray, List.set_cons_zero, List.set_cons_succ]
          refine takeH 2 84 (v := ?vs3) rfl rfl (by kernel_rfl) (by kernel_rfl) (by kernel_rfl) (fun _ _ _ h => h) (Or.inl ⟨by rfl, ?hs3⟩) hH0 ?rs3
          case hs3 => (intro w hSw; clear hSw; go_simp; (try with_reducible rfl))
          case rs3 =>
          try simp only [Act.put, List.setIfInBounds_toArray, List.set_cons_zero, List.set_cons_succ]
          refine takeH 3 85 (v := ?vs4) rfl rfl (by kernel_rfl) (by kernel_rfl) (by kernel_rfl) (fun _ _ _ h => h) (Or.inl ⟨by rfl, ?hs4⟩) hH0 ?rs4
          case hs4 => (intro w hSw; clear hSw; go_simp; (try with_reducible rfl))
          case rs4 =>
          try simp only [Act.put, List.setIfInBounds_toArray, List.set_cons_zero, List.set_cons_succ]
          refine takeH 4 86 (v := ?vs5) rfl rfl (by kernel_rfl) (by kernel_rfl) (by kernel_rfl) (fun _ _ _ h => h) (Or.inl ⟨by rfl, ?hs5⟩) hH0 ?rs5
          case hs5 => (intro w hSw; clear hSw; go_simp; (try with_reducible rfl))
          case rs5 =>
          try simp only [Act.put, List.setIfInBounds_toArray, List.set_cons_zero, List.set_cons_succ]
          refine takeH 5 87 (v := ?vs6) rfl rfl (by kernel_rfl) (by kernel_rfl) (by kernel_rfl) (fun _ _ _ h => h) (Or.inl ⟨by rfl, ?hs6⟩) hH0 ?rs6
          case hs6 => (intro w hSw; clear hSw; go_simp; (try with_reducible rfl))
          case rs6 =>
          try simp only [Act.put, List.setIfInBounds_toArray, List.set_cons_zero, List.set_cons_succ]
          refine takeH 6 88 (v := ?vs7) rfl rfl (by kernel_rfl) (by kernel_rfl) (by kernel_rfl) (fun _ _ _ h => h) (Or.inl ⟨by rfl, ?hs7⟩) hH0 ?rs7
          case hs7 => (intro w hSw; clear hSw; go_simp; (try with_reducible rfl))
          case rs7 =>
          try simp only [Act.put, List.setIfInBounds_toArray, List.set_cons_zero, List.set_cons_succ]
          refine takeH 7 89 (v := ?vs8) rfl rfl (by kernel_rfl) (by kernel_rfl) (by kernel_rfl) (fun _ _ _ h => h) (Or.inl ⟨by rfl, ?hs8⟩) hH0 ?rs8
          case hs8 => (intro w hSw; clear hSw; go_simp; (try with_reducible rfl))
          case rs8 =>
          try simp only [Act.put, List.setIfInBounds_toArray, List.set_cons_zero, List.set_cons_succ]
          refine takeH 8 90 (v := ?vs9) rfl rfl (by kernel_rfl) (by kernel_rfl) (by kernel_rfl) (fun _ _ _ h => h) (Or.inl ⟨by rfl, ?hs9⟩) hH0 ?rs9
          case hs9 => (intro w hSw; obtain ⟨s0, s1, s2, s3, s4, s5, s6, s7, s8, s9, s10⟩ := hSw; go_simp; (try with_reducible rfl))
          case rs9 =>
          try simp only [Act.put, List.setIfInBounds_toArray, List.set_cons_zero, List.set_cons_succ]
          refine takeH 9 91 (v := ?vs10) rfl rfl (by kernel_rfl) (by kernel_rfl) (by kernel_rfl) (fun _ _ _ h => h) (Or.inl ⟨by rfl, ?hs10⟩) hH0 ?rs10
          case hs10 => (intro w hSw; clear hSw; go_simp; (try with_reducible rfl))
          case rs10 =>
          try simp only [Act.put, List.setIfInBounds_toArray, List.set_cons_zero, List.set_cons_succ]
          refine takeH 10 92 (v := ?vs11) rfl rfl (by kernel_rfl) (by kernel_rfl) (by kernel_rfl) (fun _ _ _ h => h) (Or.inl ⟨by rfl, ?hs11⟩) hH0 ?rs11
          case hs11 => (intro w hSw; clear hSw; go_simp; (try with_reducible rfl))
          case rs11 =>
          try simp only [Act.put, List.setIfInBounds_toArray, List.set_cons_zero, List.set_cons_succ]
          rw [unhide Hwp]
          refine takeH 11 93 (v := ?vs12) rfl rfl (by kernel_rfl) (by kernel_rfl) (by kernel_rfl) (fun _ _ _ h => h) (Or.inl ⟨by rfl, ?hs12⟩) hH0 ?rs12
          case hs12 => (intro w hSw; clear hSw; go_simp; (try with_reducible rfl))
          case rs12 =>
          try simp only [Act.put, List.setIfInBounds_toArray, List.set_cons_zero, List.set_cons_succ]
          refine takeH 12 94 (v := ?vs13) rfl rfl (by kernel_rfl) (by kernel_rfl) (by kernel_rfl) (fun _ _ _ h => h) (Or.inl ⟨by rfl, ?hs13⟩) hH0 ?rs13
          case hs13 => (intro w hSw; clear hSw; go_simp; (try with_reducible rfl))
          case rs13 =>
          try simp only [Act.put, List.setIfInBounds_toArray, List.set_cons_zero, List.set_cons_succ]
          refine takeH 13 95 (v := ?vs14) rfl rfl (by kernel_rfl) (by kernel_rfl) (by kernel_rfl) (fun _ _ _ h => h) (Or.inl ⟨by rfl, ?hs14⟩) hH0 ?rs14
          case hs14 => (intro w hSw; obtain ⟨s0, s1, s2, s3, s4, s5, s6, s7, s8, s9, s10⟩ := hSw; go_simp; (try with_reducible rfl))
          case rs14 =>
          try simp only [Act.put, List.setIfInBounds_toArray, List.set_cons_zero, List.set_cons_succ]
          refine takeH 14 96 (v := ?vs15) rfl rfl (by kernel_rfl) (by kernel_rfl) (by kernel_rfl) (fun _ _ _ h => h) (Or.inl ⟨by rfl, ?hs15⟩) hH0 ?rs15
          case hs15 => (intro w hSw; clear hSw; go_simp; (try with_reducible rfl))
          case rs15 =>
          try simp only [Act.put, List.setIfInBounds_toArray, List.set_cons_zero, List.set_cons_succ]
          refine takeH 15 97 (v := ?vs16) rfl rfl (by kernel_rfl) (by kernel_rfl) (by kernel_rfl) (fun _ _ _ h => h) (Or.inl ⟨by rfl, ?hs16⟩) hH0 ?rs16
          case hs16 => (intro w hSw; clear hSw; go_simp; (try with_reducible rfl))
          case rs16 =>
          try simp only [Act.put, List.setIfInBounds_toArray, List.set_cons_zero, List.set_cons_succ]
          refine takeH 16 98 (v := ?vs17) rfl rfl (by kernel_rfl) (by kernel_rfl) (by kernel_rfl) (fun _ _ _ h => h) (Or.inl ⟨by rfl, ?hs17⟩) hH0 ?rs17
          case hs17 => (intro w hSw; clear hSw; go_simp; (try with_reducible rfl))
          case rs17 =>
          try simp only [Act.put, List.setIfInBounds_toArray, List.set_cons_zero, List.set_cons_succ]
          refine takeH 17 99 (v := ?vs18) rfl rfl (by kernel_rfl) (by kernel_rfl) (by kernel_rfl) (fun _ _ _ h => h) (Or.inl ⟨by rfl, ?hs18⟩) hH0 ?rs18
          case hs18 => (intro w hSw; clear hSw; go_simp; (try with_reducible rfl))
          case rs18 =>
          try simp only [Act.put, List.setIfInBounds_toArray, List.set_cons_zero, List.set_cons_succ]
          refine takeH 18 100 (v := ?vs19) rfl rfl (by kernel_rfl) (by kernel_rfl) (by kernel_rfl) (fun _ _ _ h => h) (Or.inl ⟨by rfl, ?hs19⟩) hH0 ?rs19
          case hs19 => (intro w hSw; clear hSw; go_simp; (try with_reducible rfl))
          case rs19 =>
          try simp only [Act.put, List.setIfInBounds_toArray, List.set_cons_zero, List.set_cons_succ]
          refine takeH 19 101 (v := ?vs20) rfl rfl (by kernel_rfl) (by kernel_rfl) (by kernel_rfl) (fun _ _ _ h => h) (Or.inl ⟨by rfl, ?hs20⟩) hH0 ?rs20
          case hs20 => (intro w hSw; obtain ⟨s0, s1, s2, s3, s4, s5, s6, s7, s8, s9, s10⟩ := hSw; go_simp; (try with_reducible rfl))
          case rs20 =>
          try simp only [Act.put, List.setIfInBounds_toArray, List.set_cons_zero, List.set_cons_succ]
          refine takeH 20 102 (v := ?vs21) rfl rfl (by kernel_rfl) (by kernel_rfl) (by kernel_rfl) (fun _ _ _ h => h) (Or.inl ⟨by rfl, ?hs21⟩) hH0 ?rs21
          case hs21 => (intro w hSw; clear hSw; go_simp; (try with_reducible rfl))
          case rs21 =>
          try simp only [Act.put, List.setIfInBounds_toArray, List.set_cons_zero, List.set_cons_succ]
          refine takeH 21 103 (v := ?vs22) rfl rfl (by kernel_rfl) (by kernel_rfl) (by kernel_rfl) (fun _ _ _ h => h) (Or.inl ⟨by rfl, ?hs22⟩) hH0 ?rs22
          case hs22 => (intro w hSw; clear hSw; go_simp; (try with_reducible rfl))
          case rs22 =>
          try simp only [Act.put, List.setIfInBounds_toArray, List.set_cons_zero, List.set_cons_succ]
          rw [unhide Hwp]
          refine takeH 22 104 (v := ?vs23) rfl rfl (by kernel_rfl) (by kernel_rfl) (by kernel_rfl) (fun _ _ _ h => h) (Or.inl ⟨by rfl, ?hs23⟩) hH0 ?rs23
          case hs23 => (intro w hSw; clear hSw; go_simp; (try with_reducible rfl))
          case rs23 =>
          try simp only [Act.put, List.setIfInBounds_toArray, List.set_cons_zero, List.set_cons_succ]
          refine takeH 23 105 (v := ?vs24) rfl rfl (by kernel_rfl) (by kernel_rfl) (by kernel_rfl) (fun _ _ _ h => h) (Or.inl ⟨by rfl, ?hs24⟩) hH0 ?rs24
          case hs24 => (intro w hSw; clear hSw; go_simp; (try with_reducible rfl))
          case rs24 =>
          try simp only [Act.put, List.setIfInBounds_toArray, List.set_cons_zero, List.set_cons_succ]
          refine takeH 24 106 (v := ?vs25) rfl rfl (by kernel_rfl) (by kernel_rfl) (by kernel_rfl) (fun _ _ _ h => h) (Or.inl ⟨by rfl, ?hs25⟩) hH0 ?rs25
          case hs25 => (intro w hSw; obtain ⟨s0, s1, s2, s3, s4, s5, s6, s7, s8, s9, s10⟩ := hSw; go_simp; (try with_reducible rfl))
          case rs25 =>
          try simp only [Act.put, List.setIfInBounds_toArray, List.set_cons_zero, List.set_cons_succ]
          refine takeH 25 107 (v := ?vs26) rfl rfl (by kernel_rfl) (by kernel_rfl) (by kernel_rfl) (fun _ _ _ h => h) (Or.inl ⟨by rfl, ?hs26⟩) hH0 ?rs26
          case hs26 => (intro w hSw; obtain ⟨s0, s1, s2, s3, s4, s5, s6, s7, s8, s9, s10⟩ := hSw; go_simp; (try with_reducible rfl))
          case rs26 =>
          try simp only [Act.put, List.setIfInBounds_toArray, List.set_cons_zero, List.set_cons_succ]
          refine callHg 26 (by kernel_rfl) rfl 108 rfl (by rfl) 178 Tryz.func178 (by kernel_rfl) (by kernel_rfl) #[.tmp 95, .tmp 106, .tmp 107] #[9, 106, 181] rfl #[.string y.d.tab, .agg #[.bool y.d.key.str, .int .i64 y.d.key.i, .string y.d.key.s], .agg #[.string tab, .bool c.d.key.str, .int .i64 c.d.key.i, .string c.d.key.s, .bool gn, .slice xa xn xc]] (by simp [Act.eval]) (R := fun v w' => v = .int .i64 z ∧ Only (fun _ => False) w7.drew w') ((unhide CS).mono (by rintro en w' ⟨rfl, o⟩; exact ⟨_, rfl, rfl, o⟩)) ?ks
          case ks =>
          rintro _ w6 ⟨rfl, o6⟩
          have S6 : w6.cell? ⟨g, 23 + s, none⟩ = some (.slice (some ⟨b, 0, none⟩) n wcap) ∧ w6.cell? ⟨b, m * 6, none⟩ = some (.string y.d.tab) ∧ w6.cell? ⟨b, m * 6 + 1, none⟩ = some (.bool y.d.key.str) ∧ w6.cell? ⟨b, m * 6 + 2, none⟩ = some (.int .i64 y.d.key.i) ∧ w6.cell? ⟨b, m * 6 + 3, none⟩ = some (.string y.d.key.s) ∧ w6.cell? ⟨kc, 0, none⟩ = some (.string tab) ∧ w6.cell? ⟨kc, 1, none⟩ = some (.bool c.d.key.str) ∧ w6.cell? ⟨kc, 2, none⟩ = some (.int .i64 c.d.key.i) ∧ w6.cell? ⟨kc, 3, none⟩ = some (.string c.d.key.s) ∧ w6.cell? ⟨kc, 4, none⟩ = some (.bool gn) ∧ w6.cell? ⟨kc, 5, none⟩ = some (.slice xa xn xc) := ⟨o6.cellF hH0.1, o6.cellF hH0.2.1, o6.cellF hH0.2.2.1, o6.cellF hH0.2.2.2.1, o6.cellF hH0.2.2.2.2.1, o6.cellF hH0.2.2.2.2.2.1, o6.cellF hH0.2.2.2.2.2.2.1, o6.cellF hH0.2.2.2.2.2.2.2.1, o6.cellF hH0.2.2.2.2.2.2.2.2.1, o6.cellF hH0.2.2.2.2.2.2.2.2.2.1, o6.cellF hH0.2.2.2.2.2.2.2.2.2.2⟩
          refine ⟨S6, ?_⟩
          try simp only [Act.put, List.setIfInBounds_toArray, List.set_cons_zero, List.set_cons_succ]
          refine takeH 27 109 (v := ?vs27) rfl rfl (by kernel_rfl) (by kernel_rfl) (by kernel_rfl) (fun _ _ _ h => h) (Or.inl ⟨by rfl, ?hs27⟩) S6 ?rs27
          case hs27 => (intro w hSw; clear hSw; go_simp; (try with_reducible rfl))
          case rs27 =>
          try simp only [Act.put, List.setIfInBounds_toArray, List.set_cons_zero, List.set_cons_succ]
          refine takeH 28 110 (v := ?vs28) rfl rfl (by kernel_rfl) (by kernel_rfl) (by kernel_rfl) (fun _ _ _ h => h) (Or.inl ⟨by rfl, ?hs28⟩) S6 ?rs28
          case hs28 => (intro w hSw; clear hSw; go_simp; (try with_reducible rfl))
          case rs28 =>
          try simp only [Act.put, List.setIfInBounds_toArray, List.set_cons_zero, List.set_cons_succ]
          refine wpAnyH_done (by kernel_rfl) ?_ _
          have oD : Only (fun _ => False) w7 w6 := (Only.refl _ w7).drew.trans o6 (fun _ _ e => e)
          have HF := hide oD
          clear hH0 S6 o6 oD
          go_wp2_with fail
          go_meet
          exact ⟨rfl, unhide HF⟩
      case rest =>
      obtain ⟨rfl, o8⟩ := hcut
      generalize wc = w8 at *
      have HX8 := hide ((unhide HX6).quiet o8)
      have HN8 := hide ((unhide HN6).keep o8 (fun h => h))
      have HS8 := hide ((unhide HS6).keep o8 (fun h => h))
      have HC8 := hide ((unhide HC6).keep o8 (fun _ _ h => h))
      have HU8 := hide ((unhide HU6).keep o8 (fun _ _ h => h))
      have HO8 := hide ((unhide HO6).trans (o8.mono (T := q.S) (fun _ _ h => h.elim)) (fun _ _ h => h))
      clear o8 cw0 t0 t1 t2 t3 t4 t5 HX6 HN6 HS6 HC6 HU6 HO6 p0
      have t0 : w8.cell? ⟨kc, 0, none⟩ = some (.string tab) := (unhide HN8).cell 0
      have t1 : w8.cell? ⟨kc, 1, none⟩ = some (.bool c.d.key.str) := (unhide HN8).cell 1
      have t2 : w8.cell? ⟨kc, 2, none⟩ = some (.int .i64 c.d.key.i) := (unhide HN8).cell 2
      have t3 : w8.cell? ⟨kc, 3, none⟩ = some (.string c.d.key.s) := (unhide HN8).cell 3
      have t4 : w8.cell? ⟨kc, 4, none⟩ = some (.bool gn) := (unhide HN8).cell 4
      have t5 : w8.cell? ⟨kc, 5, none⟩ = some (.slice xa xn xc) := (unhide HN8).cell 5
      have kl8 := (unhide HN8).lt
      have gl8 := (unhide HX8).xm.has.lt
      cases gn with
      | true =>
        have hrow := (unhide HWd).gone (unhide HC).2
        have hx0 : xn = 0 := by rw [← unhide Hxn, hrow.1]; rfl
        subst hx0
        have CB := xbelow_any (unhide HX8) (unhide HLa) tab c.d.key (unhide HWd).wf
        rw [show blwP (dbOf T) tab c.d.key = true from by rw [← unhide HnT]; exact (blw_row (unhide HOk).db (unhide HtD) (unhide HWd).key).mpr hrow.2] at CB
        unfold vlA at CB
        have CB := hide CB
        clear hrow
        go_wp2_with fail
        refine (unhide CB).mono ?_
        rintro e w9 ⟨rfl, hx9, o9⟩
        have N9 := (unhide HN8).keep o9 (unhide HNC)
        have t4 : w9.cell? ⟨kc, 4, none⟩ = some (.bool true) := N9.cell 4
        have kl9 := N9.lt
        have FF := hide (And.intro hx9 ((unhide HO8).trans o9 (fun _ _ h => h)))
        clear CB hx9 o9 N9 t0 t1 t2 t3 t5
        go_wp2_with fail
        go_roundw
        case rel => exact ⟨p + 1, by go_num, by omega, (unhide FF).1, (unhide FF).2⟩
        case measure => simp [intOf]; omega
      | false =>
        have hrow := (unhide HWd).row (unhide HC).2
        have hr3 : c.d.row.length ≤ 100 := by
          rw [hrow.1.len]
          have := ((unhide HOk).db.tb t (unhide HtD)).n3
          omega
        have CK := eCheckRow_any (unhide HC8) (unhide HU8) hr3 tab (t.pk : Int) (ixI t.ix)
        rw [show chkRow t.cols c.d.row = 0 from by unfold chkRow; rw [if_pos hrow.1.1, if_pos (fun v hv => (hrow.1.2 v hv).2)]] at CK
        unfold schA at CK
        have hat : atV c.d.row (t.pk : Int) = c.d.key := by rw [atV_ky]; exact hrow.2
        have Hat := hide hat
        generalize t.cols.length = cn at *
        have CK := hide CK
        have m0 : w8.cell? ⟨kb, 0, none⟩ = some (.string tab) := (unhide HS8).cell 0
        have m1 : w8.cell? ⟨kb, 1, none⟩ = some (.slice ca cn cc) := (unhide HS8).cell 1
        have m2 : w8.cell? ⟨kb, 2, none⟩ = some (.int .i64 (t.pk : Int)) := (unhide HS8).cell 2
        have m3 : w8.cell? ⟨kb, 3, none⟩ = some (.int .i64 (ixI t.ix)) := (unhide HS8).cell 3
        have kbl := (unhide HS8).lt
        clear hrow hr3 hat
        go_wp2_with fail
        refine (unhide CK).mono ?_
        rintro e w9 ⟨rfl, o9⟩
        have CA := xat_any ((unhide HU8).keep o9 (fun _ _ h => h)) (t.pk : Int)
        rw [unhide Hat] at CA
        unfold vlA at CA
        have CA := hide CA
        have HN9 := hide ((unhide HN8).keep o9 (fun h => h))
        have S9 := (unhide HS8).keep o9 (fun h => h)
        have HO9 := hide o9
        have t0 : w9.cell? ⟨kc, 0, none⟩ = some (.string tab) := (unhide HN9).cell 0
        have t1 : w9.cell? ⟨kc, 1, none⟩ = some (.bool c.d.key.str) := (unhide HN9).cell 1
        have t2 : w9.cell? ⟨kc, 2, none⟩ = some (.int .i64 c.d.key.i) := (unhide HN9).cell 2
        have t3 : w9.cell? ⟨kc, 3, none⟩ = some (.string c.d.key.s) := (unhide HN9).cell 3
        have t4 : w9.cell? ⟨kc, 4, none⟩ = some (.bool false) := (unhide HN9).cell 4
        have t5 : w9.cell? ⟨kc, 5, none⟩ = some (.slice xa xn xc) := (unhide HN9).cell 5
        have m2 : w9.cell? ⟨kb, 2, none⟩ = some (.int .i64 (t.pk : Int)) := S9.cell 2
        have kc9 := (unhide HN9).lt
        have kb9 := S9.lt
        clear CK o9 m0 m1 m3 S9 HN8 HS8 HC8
        go_wp2_with fail
        refine (unhide CA).mono ?_
        rintro e w10 ⟨rfl, o10⟩
        have o11 : Only (fun _ => False) w10 (w10.alloc (.cells #[.bool c.d.key.str, .int .i64 c.d.key.i, .string c.d.key.s] 106)) := (Only.refl _ w10).alloc _
        have oB := o10.trans o11 (fun _ _ h => h)
        have HN11 := hide ((unhide HN9).keep oB (fun h => h))
        have HV11 := hide (Has.new w10 #[.bool c.d.key.str, .int .i64 c.d.key.i, .string c.d.key.s] 106)
        have CC := ecmp_any c.d.key c.d.key (w10.alloc (.cells #[.bool c.d.key.str, .int .i64 c.d.key.i, .string c.d.key.s] 106))
        rw [vcmp_refl] at CC
        unfold vlA at CC
        have CC := hide CC
        have HX11 := hide ((unhide HX8).quiet ((unhide HO9).trans oB (fun _ _ h => h)))
        have HO11 := hide ((unhide HO8).trans (((unhide HO9).trans oB (fun _ _ h => h)).mono (T := q.S) (fun _ _ h => h.elim)) (fun _ _ h => h))
        clear CA o10 o11 oB m2 HN9 HO9 HX8 HO8 t0 t1 t2 t3 t4 t5
        go_upto_region 19 with fail
        generalize w10.alloc (.cells #[.bool c.d.key.str, .int .i64 c.d.key.i, .string c.d.key.s] 106) = w11 at *
        generalize hkv : w10.heap.size = kv at *
        clear hkv
        have t1 : w11.cell? ⟨kc, 1, none⟩ = some (.bool c.d.key.str) := (unhide HN11).cell 1
        have t2 : w11.cell? ⟨kc, 2, none⟩ = some (.int .i64 c.d.key.i) := (unhide HN11).cell 2
        have t3 : w11.cell? ⟨kc, 3, none⟩ = some (.string c.d.key.s) := (unhide HN11).cell 3
        have v0 : w11.cell? ⟨kv, 0, none⟩ = some (.bool c.d.key.str) := (unhide HV11).cell 0
        have v1 : w11.cell? ⟨kv, 1, none⟩ = some (.int .i64 c.d.key.i) := (unhide HV11).cell 1
        have v2 : w11.cell? ⟨kv, 2, none⟩ = some (.string c.d.key.s) := (unhide HV11).cell 2
        go_wp2_with fail
        refine (unhide CC).mono ?_
        rintro e w12 ⟨rfl, o12⟩
        have FF := hide (And.intro ((unhide HX11).quiet o12) ((unhide HO11).trans (o12.mono (T := q.S) (fun _ _ h => h.elim)) (fun _ _ h => h)))
        clear CC o12 t1 t2 t3 v0 v1 v2
        go_wp2_with fail
        go_roundw
        case rel => exact ⟨p + 1, by go_num, by omega, (unhide FF).1, (unhide FF).2⟩
        case measure => simp [intOf]; omega
    · obtain rfl : p = n := by omega
      have a2 : decide ((p : Int) < (p : Int)) = false := decide_eq_false (by omega)
      have FF := hide (And.intro hx ho)
      clear hx ho
      go_wp2_with fail
      go_ret
      exact ⟨rfl, unhide FF⟩
set_option maxRecDepth 100000 in
set_option maxHeartbeats 2000000 in
theorem xcheck_any (H : XR q w g x X false S) (L : Lay S T) (ok : XOk X (dbOf T)) : Calls Tryz.prog 28 #[.pointer (some ⟨g, 0, none⟩)] w fun e w' => e = .returned (.bool true) ∧ XR q w' g x X false S ∧ Only q.S w w' := by
  have c0 := H.xm.has.c0
  have gl := H.xm.has.lt
  have C1 := hide (sintxn_any H.st)
  have C2 := hide (xchkLocks_any H L ok)
  have HLa := hide L
  have HOk := hide ok
  clear H L ok
  go_enter Tryz.func28, Tryz.ntmps28
  go_wp2_with fail
  refine (unhide C1).mono ?_
  rintro e w1 ⟨rfl, rfl⟩
  clear C1
  go_wp2_with fail
  refine (unhide C2).mono ?_
  rintro e w2 ⟨rfl, hx2, o2⟩
  have HX2 := hide hx2
  have HO2 := hide o2
  clear C2 hx2 o2 c0
  go_upto_region 5 with fail
  go_loopw [3, 4] (fun bv sv wr => bv = .bool true ∧ ∃ s : Nat, sv = .int .i64 s ∧ s ≤ 4 ∧ XR q wr g x X false S ∧ Only q.S w wr) (fun _ sv _ => 5 - (intOf sv).toNat)
  case atStart => exact ⟨rfl, 0, rfl, by omega, unhide HX2, unhide HO2⟩
  case round =>
    obtain ⟨rfl, s, rfl, hs, hx, ho⟩ := hrel
    by_cases hs4 : s < 4
    · have a3 : decide ((s : Int) < 4) = true := decide_eq_true (by omega)
      have s4 : (s : Int) < 4 := by omega
      have C3 := hide (xchkSet_any hx (unhide HLa) (unhide HOk) hs4)
      have HO := hide ho
      clear hx ho
      go_wp2_with fail
      refine (unhide C3).mono ?_
      rintro e w3 ⟨rfl, hx3, o3⟩
      have FF := hide (And.intro hx3 ((unhide HO).trans o3 (fun _ _ h => h)))
      clear C3 hx3 o3
      go_wp2_with fail
      go_roundw
      case rel => exact ⟨rfl, s + 1, by go_num, by omega, (unhide FF).1, (unhide FF).2⟩
      case measure => simp [intOf]; omega
    · obtain rfl : s = 4 := by omega
      have FF := hide (And.intro hx ho)
      clear hx ho
      go_wp2_with fail
      go_ret
      exact ⟨rfl, unhide FF⟩
end
end Go.Proofs.Qxb6500414aGreat
