/-
  OWN WORK. THE TXN LAW: the walk Serial.
-/
import Derived.Test.Qxb6500414aGreatXH0
namespace Go.Proofs.Qxb6500414aGreat
open Go.RowKit Go.PlainAid
set_option linter.unusedSimpArgs false
set_option linter.unusedVariables false

set_option maxRecDepth 100000 in
set_option maxHeartbeats 16000000 in
theorem xlserial_any (ad : Option Addr) (len cap : Nat) (ops : List OpD) (w : World) (hops : OpsAt w ad len ops) (hlen : len ≤ 4398046511104) :
    Calls Tryz.prog 7 #[.slice ad len cap] w fun e w' => e = .returned (.bool true) ∧ Below w.heap.size w w' := by
  have C1 := hide (xlground_any w)
  go_enter Tryz.func7, Tryz.ntmps7
  go_wp2_with fail
  refine (unhide C1).mono ?_
  rintro e w1 ⟨q, x, S, T, rfl, st, la, hd, cf, cu, hlo, o1⟩
  clear C1
  unfold jbV jbC
  have KB : Has (w1.alloc (.cells (jbC q.d x) 30)) w1.heap.size (jbC q.d x) 30 := Has.new w1 _ _
  have o2 : Only (fun _ => False) w1 (w1.alloc (.cells (jbC q.d x) 30)) := (Only.refl _ w1).alloc _
  have alt := st.fv.Alt
  have xl := st.has.lt
  have s1 := o1.size
  have HS := hide (And.intro (st.quiet o2) (And.intro la (And.intro hd (And.intro cf (And.intro cu (And.intro hlo (And.intro (o1.trans o2 (fun _ _ e => e)) (And.intro alt (And.intro xl s1)))))))))
  have HKB := hide KB
  unfold jbC at HKB HS
  clear st la hd cf cu hlo o1 o2 KB alt xl s1
  go_upto_region 2 with fail
  generalize w1.alloc (.cells #[.pointer (some ⟨q.d, 0, none⟩), .pointer (some ⟨x, 0, none⟩)] 30) = w2 at *
  generalize hkb : w1.heap.size = kb at *
  have b1 : w2.cell? ⟨kb, 1, none⟩ = some (.pointer (some ⟨x, 0, none⟩)) := (unhide HKB).cell 1
  have kbl := (unhide HKB).lt
  have C2 := hide (xnew_any x w2)
  go_wp2_with fail
  refine (unhide C2).mono ?_
  rintro e w3 ⟨g, rfl, hg, xm, o3⟩
  clear C2 b1
  have s3 := o3.size
  have o4 : Only (fun _ => False) w3 (w3.alloc (.cells #[.slice none 0 0, .slice none 0 0, .slice none 0 0, .slice none 0 0, .slice none 0 0, .bool false, .bool false, .bool false, .bool false] 42)) := (Only.refl _ w3).alloc _
  have HL : Hid (SWL w kb (.pointer (some ⟨g, 0, none⟩)) (.pointer (some ⟨w3.heap.size, 0, none⟩)) (w3.alloc (.cells #[.slice none 0 0, .slice none 0 0, .slice none 0 0, .slice none 0 0, .slice none 0 0, .bool false, .bool false, .bool false, .bool false] 42))) := hide (by
    obtain ⟨st, la, hd, cf, cu, hlo, o12, alt, xl, s1⟩ := unhide HS
    have o34 := o3.trans o4 (fun _ _ e => e)
    have ngA : ¬ q.A g := fun c => by have := alt g c; omega
    have ngx : g ≠ x := by omega
    have rx := RX.new (st.quiet o34) la cf (xm.quiet o4) ⟨ngA, ngx⟩
    rw [hd] at rx
    have gh : GhAt (w3.alloc (.cells (ghC (GhM.z (.slice none 0 0) [])) 42)) w3.heap.size (GhM.z (.slice none 0 0) []) [] := GhAt.new (ML.nil w3) rfl ⟨fun t h => (by cases h), List.Pairwise.nil, by simp⟩
    rw [ghz_cells] at gh
    refine ⟨q, g, x, w3.heap.size, _, _, _, [], rfl, rfl, SW.start (lo := w.heap.size) rx gh (fun k hk => ?_) (((unhide HKB).keep o3 (fun e => e)).keep o4 (fun e => e)) ⟨fun c => (by have := alt kb c; omega), by omega, by omega⟩ cu (fun k hk => ?_), ((o12.trans o34 (fun _ _ e => e)).mono (fun _ _ e => e.elim))⟩
    · rcases hk with c | c | c
      · rw [c]
        exact ⟨fun d => (by have := alt _ d; omega), by omega, by have := xm.lt g (.inl rfl); omega, by omega, by omega⟩
      · rcases c with c | ⟨_, c, _⟩ <;> cases c
      · obtain ⟨_, c, _⟩ := c
        cases c
    · rcases hk with c | c | c | c
      · exact hlo k (.inl c)
      · exact hlo k (.inr c)
      · omega
      · omega)
  clear HS HKB o3 o4 xm s3
  go_upto_region 5 with fail
  generalize w3.alloc (.cells #[.slice none 0 0, .slice none 0 0, .slice none 0 0, .slice none 0 0, .slice none 0 0, .bool false, .bool false, .bool false, .bool false] 42) = w4 at *
  generalize w3.heap.size = kG at *
  clear hg kbl hkb
  go_loopw [4, 5, 6, 7, 8] (fun tv gv iv _ _ wr => ∃ kk : Nat, kk ≤ len ∧ iv = .int .i64 kk ∧ SWL w kb tv gv wr) (fun _ _ iv _ _ _ => len - (intOf iv).toNat)
  case atStart => exact ⟨0, Nat.zero_le _, rfl, unhide HL⟩
  case round =>
    clear HL
    obtain ⟨kk, hk, rfl, HL⟩ := hrel
    obtain ⟨q, g, x, kG, M, K, m, DW, rfl, rfl, W, oW⟩ := HL
    have hbel : Below w.heap.size w wr := Only.bel (Below.refl _ _) oW (fun _ h => h)
    by_cases hkl : kk < len
    · obtain ⟨hol, hoa⟩ := hops
      obtain ⟨ab, aoff, rfl, hcells⟩ := hoa (by omega)
      obtain ⟨y0, y1, y2, y3, y4, y5, hsz, hst⟩ := hcells kk (by omega)
      clear hcells hoa
      have hab : ab < w.heap.size := World.block_lt_of_cell? w ⟨ab, aoff + kk * 6, none⟩ y0
      rw [← hbel.cell (p := ⟨ab, aoff + kk * 6, none⟩) hab] at y0
      rw [← hbel.cell (p := ⟨ab, aoff + kk * 6 + 1, none⟩) hab] at y1
      rw [← hbel.cell (p := ⟨ab, aoff + kk * 6 + 2, none⟩) hab] at y2
      rw [← hbel.cell (p := ⟨ab, aoff + kk * 6 + 3, none⟩) hab] at y3
      rw [← hbel.cell (p := ⟨ab, aoff + kk * 6 + 4, none⟩) hab] at y4
      rw [← hbel.cell (p := ⟨ab, aoff + kk * 6 + 5, none⟩) hab] at y5
      generalize ops[kk]'(by omega) = oo at *
      obtain ⟨ok, oa, ob, oc, os, ot⟩ := oo
      simp only at y0 y1 y2 y3 y4 y5 hsz hst
      have hkI : (kk : Int) < (len : Int) := by omega
      have hkD : decide ((kk : Int) < (len : Int)) = true := decide_eq_true hkI
      have hkM : decide ((kk : Int) < 4398046511104) = true := by simp; omega
      have oo : Only (fun _ => False) wr (wr.alloc (.cells #[.int .i64 ok, .int .i64 oa, .int .i64 ob, .int .i64 oc, .string os, .string ot] 44)) := (Only.refl _ wr).alloc _
      have HAO := hide (Has.new wr #[.int .i64 ok, .int .i64 oa, .int .i64 ob, .int .i64 oc, .string os, .string ot] 44)
      have HW := hide (And.intro (W.quiet oo) (And.intro (oW.trans (oo.mono (fun _ _ e => e.elim)) (fun _ _ e => e)) hst))
      have hbl := oW.size
      have HF := hide (show (¬ q.A wr.heap.size ∧ wr.heap.size ≠ x ∧ ¬ K wr.heap.size ∧ ¬ m.A kG wr.heap.size) from ⟨fun c => (by have := W.rx.Alt.1 _ c; omega), fun c => (by have := W.rx.Alt.2; omega), fun c => (by have := (W.rx.kA _ c).2.2; omega), fun c => (by have := W.gh.lt _ c; omega)⟩)
      clear W oW hol hsz hst oo hbel
      by_cases hten : ok = 18
      · subst hten
        go_upto_region 13 with fail
        generalize wr.alloc (.cells #[.int .i64 18, .int .i64 oa, .int .i64 ob, .int .i64 oc, .string os, .string ot] 44) = w1 at *
        generalize wr.heap.size = bo at *
        clear y0 y1 y2 y3 y4 y5
        obtain ⟨X, D, lX, hX, hCD⟩ := (unhide HW).1.pick oa
        obtain ⟨Sx, hSx, hDx⟩ := id hCD
        have CA := xlafter_any x oa (unhide HW).1.rx.dk (unhide HW).1.cu lX hX hCD hSx hDx
        unfold jbV jbC at CA
        have CA := hide CA
        clear lX hX hCD hSx hDx
        have kx := (unhide HW).1.bx
        unfold jbC at kx
        have b0 : w1.cell? ⟨kb, 0, none⟩ = some (.pointer (some ⟨q.d, 0, none⟩)) := kx.cell 0
        have b1 : w1.cell? ⟨kb, 1, none⟩ = some (.pointer (some ⟨x, 0, none⟩)) := kx.cell 1
        have a1 : w1.cell? ⟨bo, 1, none⟩ = some (.int .i64 oa) := (unhide HAO).cell 1
        have kbl := kx.lt
        have lkb := (unhide HW).1.lo kb (.inr (.inr (.inr (.inr rfl))))
        have zw := (unhide HW).2.1.size
        have HKX := hide kx
        clear kx
        go_wp2_with fail
        refine (unhide CA).mono ?_
        rintro e w2 ⟨q2, x2, S2, T2, rfl, st2, la2, hd2, cf2, cu2, hlo2, o2⟩
        clear CA b0 b1 a1
        have k2 := (unhide HKX).keep o2 (fun e => e)
        have alt2 := st2.fv.Alt
        have xl2 := st2.has.lt
        have z2 := o2.size
        have c0 : w2.cell? ⟨kb, 0, none⟩ = some (.pointer (some ⟨q.d, 0, none⟩)) := k2.cell 0
        have c1 : w2.cell? ⟨kb, 1, none⟩ = some (.pointer (some ⟨x, 0, none⟩)) := k2.cell 1
        have f0 := k2.free 0
        have f1 := k2.free 1
        have kbl2 := k2.lt
        have o3 : Only (fun k => k = kb) w2 ((w2.setCell ⟨kb, 0, none⟩ (.pointer (some ⟨q2.d, 0, none⟩))).setCell ⟨kb, 1, none⟩ (.pointer (some ⟨x2, 0, none⟩))) := (only1 (p := kb) _ _).trans (only1 (p := kb) _ _) (fun _ _ h => h)
        have k3 : Has ((w2.setCell ⟨kb, 0, none⟩ (.pointer (some ⟨q2.d, 0, none⟩))).setCell ⟨kb, 1, none⟩ (.pointer (some ⟨x2, 0, none⟩))) kb (jbC q2.d x2) 30 := (k2.setCell 0 _).setCell 1 _
        have st3 := st2.keep o3 (fun k hk c => by
          have c' : k = kb := c
          have h1 := hlo2 k hk
          omega)
        have on3 := ((unhide HW).2.1.trans (o2.mono (fun _ _ e => e.elim)) (fun _ _ e => e)).trans o3 (fun k _ c => by have c' : k = kb := c; omega)
        have z3 := o3.size
        have HS := hide (And.intro st3 (And.intro la2 (And.intro hd2 (And.intro cf2 (And.intro cu2 (And.intro hlo2 (And.intro k3 (And.intro on3 (And.intro alt2 xl2)))))))))
        unfold jbV jbC
        clear st2 la2 hd2 cf2 cu2 hlo2 o2 k2 alt2 xl2 o3 k3 st3 on3 HKX
        go_upto_region 14 with fail
        generalize (w2.setCell ⟨kb, 0, none⟩ (.pointer (some ⟨q2.d, 0, none⟩))).setCell ⟨kb, 1, none⟩ (.pointer (some ⟨x2, 0, none⟩)) = w3 at *
        clear c0 c1 f0 f1
        have b1 : w3.cell? ⟨kb, 1, none⟩ = some (.pointer (some ⟨x2, 0, none⟩)) := (unhide HS).2.2.2.2.2.2.1.cell 1
        have C3 := hide (xopen_any x2 w3)
        go_wp2_with fail
        refine (unhide C3).mono ?_
        rintro e w4 ⟨g3, rfl, hg3, xm3, o4⟩
        clear C3 b1
        have z4 := o4.size
        have g3l := xm3.lt g3 (.inl rfl)
        have rx4 := RX.new ((unhide HS).1.quiet o4) (unhide HS).2.1 (unhide HS).2.2.2.1 xm3 ⟨fun c => (by have := (unhide HS).2.2.2.2.2.2.2.2.1 g3 c; omega), by have := (unhide HS).2.2.2.2.2.2.2.2.2; omega⟩
        rw [(unhide HS).2.2.1] at rx4
        have C4 : Calls Tryz.prog 18 #[.pointer (some ⟨g3, 0, none⟩), .int .i64 0] w4 (SoW q2 w4 g3 x2 (Mu0 D) (fun k => k = g3) D) := shadowOf_any (s := 0) rx4 (by omega) rfl rfl
        have C4 := hide C4
        have GD : DOk D := ⟨rx4.dg.1.tb, rx4.dg.1.srt, rx4.dg.1.len⟩
        have HO4 := hide o4
        clear rx4 xm3 o4
        go_wp2_with fail
        refine (unhide C4).mono ?_
        rintro e w5 ⟨tv, l5, rfl, hM5, ht5, hn5, rx5, o5⟩
        clear C4
        have z5 := o5.size
        have gh := GhAt.new hM5 ht5 GD
        have oB : Only (fun _ => False) w5 (w5.alloc (.cells (ghC (GhM.z tv l5)) 42)) := (Only.refl _ _).alloc _
        have HL : Hid (SWL w kb (.pointer (some ⟨g3, 0, none⟩)) (.pointer (some ⟨w5.heap.size, 0, none⟩)) (w5.alloc (.cells (ghC (GhM.z tv l5)) 42))) := hide (by
          obtain ⟨st3, la2, hd2, cf2, cu2, hlo2, k3, on3, alt2, xl2⟩ := unhide HS
          refine ⟨q2, g3, x2, w5.heap.size, _, _, _, D, rfl, rfl, SW.start (lo := w.heap.size) (rx5.quiet oB) gh (fun k hk => ?_) (((k3.keep (unhide HO4) (fun e => e)).keep o5 (fun c => by have := hlo2 kb (.inl (Gnd.S_A c)); omega)).keep oB (fun e => e)) ⟨fun c => (by have := hlo2 kb (.inl c); omega), fun c => (by have := hlo2 kb (.inr c); omega), by omega⟩ cu2 (fun k hk => ?_), ((on3.trans ((unhide HO4).mono (fun _ _ e => e.elim)) (fun _ _ e => e)).trans o5 (fun k _ c => by have := hlo2 k (.inl (Gnd.S_A c)); omega)).trans (oB.mono (fun _ _ e => e.elim)) (fun _ _ e => e)⟩
          · have h1 : w4.heap.size ≤ k := by
              rcases hk with c | c
              · omega
              · exact hn5 k c
            exact ⟨fun d => (by have := alt2 k d; omega), by omega, by omega, by omega, by omega⟩
          · rcases hk with c | c | c | c
            · have := hlo2 k (.inl c); omega
            · have := hlo2 k (.inr c); omega
            · omega
            · omega)
        obtain ⟨ta, tc, htv⟩ := hM5.shape
        obtain ⟨tn, htn⟩ : ∃ k, l5.length = k := ⟨_, rfl⟩
        rw [htn] at htv
        rw [ghz_cells] at HL
        rw [htv] at HL ⊢
        clear hM5 ht5 hn5 rx5 o5 gh oB htv htn HS HO4 GD HW HAO HF
        go_wp2_with fail
        go_roundw
        case rel => exact ⟨kk + 1, by omega, by go_num, unhide HL⟩
        case measure => simp [intOf]; omega
      · have b18 : (ok != 18) = true := by simpa using hten
        clear hten
        go_upto_region 9 with fail
        generalize wr.alloc (.cells #[.int .i64 ok, .int .i64 oa, .int .i64 ob, .int .i64 oc, .string os, .string ot] 44) = w1 at *
        generalize wr.heap.size = bo at *
        clear y0 y1 y2 y3 y4 y5 b18
        have CM := xlmark_any x (unhide HW).1.rx.dk
        unfold jbV jbC at CM
        have CM := hide CM
        have kx := (unhide HW).1.bx
        unfold jbC at kx
        have b0 : w1.cell? ⟨kb, 0, none⟩ = some (.pointer (some ⟨q.d, 0, none⟩)) := kx.cell 0
        have b1 : w1.cell? ⟨kb, 1, none⟩ = some (.pointer (some ⟨x, 0, none⟩)) := kx.cell 1
        have kbl := kx.lt
        clear kx
        go_wp2_with fail
        refine (unhide CM).mono ?_
        rintro e w2 ⟨rfl, hd2, o2⟩
        clear CM b0 b1 kbl
        have W2 := (unhide HW).1.mark hd2 o2
        have AO2 := (unhide HAO).keep o2 (fun c => (unhide HF).1 (.inl c))
        have on2 := (unhide HW).2.1.trans o2 (fun k _ c => (unhide HW).1.lo k (.inl (.inl c)))
        have ht := (unhide HW).2.2
        have CK := playReal_any W2.rx (by simp [Gnd.mark]) ok oa ob oc os ot ht
        unfold opX at CK
        have CK := hide CK
        have HW2 := hide (And.intro W2 (And.intro on2 ht))
        have z2 := AO2.lt
        have HA2 := hide AO2
        have s2 := o2.size
        have z1 := (unhide HAO).lt
        have c0 : w2.cell? ⟨bo, 0, none⟩ = some (.int .i64 ok) := AO2.cell 0
        have c1 : w2.cell? ⟨bo, 1, none⟩ = some (.int .i64 oa) := AO2.cell 1
        have c2 : w2.cell? ⟨bo, 2, none⟩ = some (.int .i64 ob) := AO2.cell 2
        have c3 : w2.cell? ⟨bo, 3, none⟩ = some (.int .i64 oc) := AO2.cell 3
        have c4 : w2.cell? ⟨bo, 4, none⟩ = some (.string os) := AO2.cell 4
        have c5 : w2.cell? ⟨bo, 5, none⟩ = some (.string ot) := AO2.cell 5
        clear hd2 o2 W2 on2 ht HW AO2 HAO
        go_wp2_with fail
        refine (unhide CK).mono ?_
        intro e w3 h3
        obtain ⟨M', an, am, q3, K3, rfl, hop, mid, o3, hK3, hq3, o3'⟩ := (unhide HW2).1.real rfl rfl h3
        clear h3 CK
        have A3 := (unhide HA2).keep o3' (fun c => by
          rcases c with c | c
          · rcases Gnd.mark_A c with d | d
            · exact (unhide HF).1 d
            · omega
          · exact (unhide HF).2.2.1 c)
        have o4 : Only (fun _ => False) w3 (w3.alloc (.cells (anC am an) 54)) := (Only.refl _ _).alloc _
        have N4 := Has.new w3 (anC am an) 54
        have mid4 := mid.quiet o4
        have CF := follow_any mid4.rx mid4.gh mid4.at_ mid4.sp mid4.sa mid4.se mid4.ok (unhide HW2).2.2 hop
        have on4 := ((unhide HW2).2.1.trans o3 (fun _ _ e => e)).trans (o4.mono (fun _ _ e => e.elim)) (fun _ _ e => e)
        have A4 := A3.keep o4 (fun e => e)
        obtain ⟨p1, p2, hp⟩ := mid.at_.row.shape
        obtain ⟨r1, r2, hr⟩ := ownsRow_shape mid.at_.own
        obtain ⟨t1, t2, ht⟩ := mid.at_.col.shape
        obtain ⟨v1, v2, hv⟩ := ownsRow_shape mid.at_.nms
        obtain ⟨ln, hln⟩ : ∃ k, an.row.length = k := ⟨_, rfl⟩
        obtain ⟨ls, hls⟩ : ∃ k, am.Z.length = k := ⟨_, rfl⟩
        obtain ⟨lc, hlc⟩ : ∃ k, an.cols.length = k := ⟨_, rfl⟩
        obtain ⟨lm, hlm⟩ : ∃ k, an.names.length = k := ⟨_, rfl⟩
        rw [hln] at hp
        rw [hls] at hr
        rw [hlc] at ht
        rw [hlm] at hv
        have HM4 := hide (And.intro mid4 on4)
        unfold anC opX at CF
        unfold anC at N4 HM4 A4
        rw [hp, hr, ht, hv] at CF N4 HM4 A4
        have CF := hide CF
        have HN4 := hide N4
        have HA4 := hide A4
        unfold anC
        rw [hp, hr, ht, hv]
        clear c0 c1 c2 c3 c4 c5 HW2 HA2 mid mid4 on4 o3 o3' o4 A3 A4 N4 hK3 hq3 hp hr ht hv hln hls hlc hlm HF z1 z2 s2
        go_upto_region 11 with fail
        generalize w3.alloc (.cells #[.int .i64 an.e, .int .i64 an.n, .slice p1 ln p2, .slice r1 ls r2, .string an.nm, .slice t1 lc t2, .int .i64 an.pk, .int .i64 an.ix, .slice v1 lm v2] 54) = w4 at *
        generalize w3.heap.size = ba at *
        have c0 : w4.cell? ⟨bo, 0, none⟩ = some (.int .i64 ok) := (unhide HA4).cell 0
        have c1 : w4.cell? ⟨bo, 1, none⟩ = some (.int .i64 oa) := (unhide HA4).cell 1
        have c2 : w4.cell? ⟨bo, 2, none⟩ = some (.int .i64 ob) := (unhide HA4).cell 2
        have c3 : w4.cell? ⟨bo, 3, none⟩ = some (.int .i64 oc) := (unhide HA4).cell 3
        have c4 : w4.cell? ⟨bo, 4, none⟩ = some (.string os) := (unhide HA4).cell 4
        have c5 : w4.cell? ⟨bo, 5, none⟩ = some (.string ot) := (unhide HA4).cell 5
        have e0 : w4.cell? ⟨ba, 0, none⟩ = some (.int .i64 an.e) := (unhide HN4).cell 0
        have e1 : w4.cell? ⟨ba, 1, none⟩ = some (.int .i64 an.n) := (unhide HN4).cell 1
        have e2 : w4.cell? ⟨ba, 2, none⟩ = some (.slice p1 ln p2) := (unhide HN4).cell 2
        have e3 : w4.cell? ⟨ba, 3, none⟩ = some (.slice r1 ls r2) := (unhide HN4).cell 3
        have e4 : w4.cell? ⟨ba, 4, none⟩ = some (.string an.nm) := (unhide HN4).cell 4
        have e5 : w4.cell? ⟨ba, 5, none⟩ = some (.slice t1 lc t2) := (unhide HN4).cell 5
        have e6 : w4.cell? ⟨ba, 6, none⟩ = some (.int .i64 an.pk) := (unhide HN4).cell 6
        have e7 : w4.cell? ⟨ba, 7, none⟩ = some (.int .i64 an.ix) := (unhide HN4).cell 7
        have e8 : w4.cell? ⟨ba, 8, none⟩ = some (.slice v1 lm v2) := (unhide HN4).cell 8
        have z4 := (unhide HA4).lt
        have z5 := (unhide HN4).lt
        go_wp2_with fail
        refine (unhide CF).mono ?_
        intro e w5 h5
        obtain ⟨rfl, m2, W5, o5⟩ := (unhide HM4).1.follow h5
        have HL := hide (show SWL w kb (.pointer (some ⟨g, 0, none⟩)) (.pointer (some ⟨kG, 0, none⟩)) w5 from ⟨q3, g, x, kG, M', K3, m2, _, rfl, rfl, W5, (unhide HM4).2.trans o5 (fun _ _ e => e)⟩)
        clear h5 CF W5 o5 c0 c1 c2 c3 c4 c5 e0 e1 e2 e3 e4 e5 e6 e7 e8 HM4 HN4 HA4
        go_wp2_with fail
        go_roundw
        case rel => exact ⟨kk + 1, by omega, by go_num, unhide HL⟩
        case measure => simp [intOf]; omega
    · have hkI : decide ((kk : Int) < (len : Int)) = false := by simp; omega
      clear W oW
      go_wp2_with fail
      go_ret
      exact ⟨rfl, hbel⟩
end Go.Proofs.Qxb6500414aGreat
