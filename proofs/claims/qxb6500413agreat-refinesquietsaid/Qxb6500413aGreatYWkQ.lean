/-
  OWN WORK. THE TABLE LAW: walk. (tools/gen_ywk.py writes it.)
-/
import Derived.Test.Qxb6500413aGreatYK1
import Derived.Deep.DeepCutAuto
namespace Go.Proofs.Qxb6500413aGreat
open Go.RowKit Go.PlainAid
set_option linter.unusedSimpArgs false
set_option linter.unusedVariables false

set_option maxRecDepth 100000 in
set_option maxHeartbeats 16000000 in
theorem ywalkQ_any (ad : Option Addr) (len cap : Nat) (ops : List OpD) (w : World) (hops : OpsAt w ad len ops) (hlen : len ≤ 4398046511104) :
    Calls Tryz.prog 9 #[.slice ad len cap, .bool false, .bool true] w fun e w' => (∃ n : Int, e = .returned (.tuple #[.int .i64 (-1), .int .i64 n])) ∧ Below w.heap.size w w' := by
  have C1 := hide (jground_any w)
  go_enter Tryz.func9, Tryz.ntmps9
  go_wp2_with fail
  refine (unhide C1).mono ?_
  rintro e w1 ⟨q0, rs, rfl, A1, cf1, hb1, hr1, ci1, hk1, hlo1, o1⟩
  clear C1
  unfold jbV jbC
  have alt1 := A1.Alt
  have KB : Has (w1.alloc (.cells (jbC q0.d q0.f) 30)) w1.heap.size (jbC q0.d q0.f) 30 := Has.new w1 _ _
  have o2 : Only (fun _ => False) w1 (w1.alloc (.cells (jbC q0.d q0.f) 30)) := (Only.refl _ w1).alloc _
  have A2 := A1.quiet o2
  have nkb : ¬ q0.A w1.heap.size := fun h => by have := alt1 _ h; omega
  have cu1 : CutX q0.base q0.recs (fun X => ComD X []) (fun X => ComD X []) := by
    rw [hb1, hr1]
    exact ci1.toX (by simp) A1.lcom ⟨_, comS_zero, .inr ⟨rfl, rfl⟩⟩ ⟨_, cf1.toS, .inr ⟨rfl, rfl⟩⟩
  have rc1 : q0.recs.length ≤ 300 := by have := ci1.short; rw [hr1]; omega
  have C2 := hide (enew_any A2 cf1 (.inr ⟨rfl, rfl⟩) cu1 (by rw [hb1, hr1]; exact hk1) rc1)
  have HK2 := hide (And.intro KB (And.intro nkb (And.intro (o1.trans o2 (fun _ _ e => e)) hlo1)))
  have zw := o1.size
  unfold jbC at C2 HK2
  clear A1 A2 cf1 hb1 hr1 ci1 hk1 o1 o2 KB nkb cu1 rc1 alt1 hlo1
  go_upto_region 2 with fail
  generalize w1.alloc (.cells #[.pointer (some ⟨q0.d, 0, none⟩), .pointer (some ⟨q0.f, 0, none⟩)] 30) = w2 at *
  generalize w1.heap.size = bb at *
  have y1 := (unhide HK2).1.cell 1
  simp at y1
  go_wp2_with fail
  refine (unhide C2).mono ?_
  rintro e w3 ⟨x, q, S', T', rfl, hx, st, la, hd, cf, cu, ed, ef, hA, o3⟩
  clear C2 y1
  have kb3 : Has w3 bb #[.pointer (some ⟨q.d, 0, none⟩), .pointer (some ⟨q.f, 0, none⟩)] 30 := by
    rw [ed, ef]
    exact (unhide HK2).1.keep o3 (fun h => (unhide HK2).2.1 (Gnd.D_A h))
  have zk := (unhide HK2).1.lt
  have z2 := (unhide HK2).2.2.1.size
  have z3 := o3.size
  have nk3 : ¬ q.A bb := fun h => by
    rcases hA bb h with c | c
    · exact (unhide HK2).2.1 c
    · omega
  have qlo : ∀ k, q.A k → w.heap.size ≤ k := fun k h => by
    rcases hA k h with c | c
    · exact (unhide HK2).2.2.2 k c
    · omega
  have on3 : Only (fun k => w.heap.size ≤ k) w w3 := ((unhide HK2).2.2.1.mono (fun _ _ e => e.elim)).trans o3 (fun k _ h => (unhide HK2).2.2.2 k (Gnd.D_A h))
  rw [← hd] at cu
  have HDD := hide hd
  have HS := hide (And.intro st (And.intro la (And.intro cf (And.intro cu (And.intro qlo (And.intro on3 nk3))))))
  have BX := hide kb3
  have C3 := hide (ynew_any w3)
  clear st la cf cu kb3 nk3 qlo on3 o3 hA HK2 ed ef hd
  go_wp2_with fail
  refine (unhide C3).mono ?_
  rintro e w4 ⟨z, H0, rfl, Z4, hH0, o4⟩
  have hz := Z4.hm
  have C4 := hide (ymark_any Z4)
  clear C3
  go_wp2_with fail
  refine (unhide C4).mono ?_
  rintro e w5 ⟨rfl, Z5, o5⟩
  rw [← unhide HDD] at Z5
  have C5 := hide (yclone_any Z5)
  clear C4 Z4
  go_wp2_with fail
  refine (unhide C5).mono ?_
  rintro e w6 ⟨zb, Hb, rfl, Z6, hHb, o6⟩
  have hz3 := hH0 z hz
  have BX := hide ((((unhide BX).keep o4 (fun h => h)).keep o5 (fun e => by omega)).keep o6 (fun h => h))
  have HL := hide (YLs.start (K := fun k => k = bb) (T1 := T') (unhide HS).1 (unhide HS).2.1 (unhide HS).2.2.1 (unhide HS).2.2.2.1 (unhide HS).2.2.2.2.1 (by omega) (unhide HS).2.2.2.2.2.1 (fun k hk => by rw [hk]; exact ⟨(unhide HS).2.2.2.2.2.2, by omega, by omega, by omega⟩) (by omega) hH0 hz o4 Z5 o5 Z6 hHb o6)
  clear C5 HS Z5 Z6 hH0 hHb hz o4 o5 o6 hz3 zw zk z2 z3 hx
  have c0 := (unhide BX).cell 0
  have c1 := (unhide BX).cell 1
  simp at c0 c1
  have CT := jsteps_any q.f (unhide HL).j.st.fv.dk
  unfold jbV jbC at CT
  have CT := hide CT
  go_wp2_with fail
  refine (unhide CT).mono ?_
  rintro e w7 ⟨rfl, oT⟩
  have HL := hide ((unhide HL).quiet oT)
  have BX := hide ((unhide BX).keep oT (fun h => h))
  clear c0 c1 CT oT
  have c0 := (unhide BX).cell 0
  have c1 := (unhide BX).cell 1
  simp at c0 c1
  have CK := ylook_any (unhide HL).j.st.fv
  unfold jbV jbC at CK
  have CK := hide CK
  go_wp2_with fail
  refine (unhide CK).mono ?_
  rintro e w8 ⟨sha, rfl, Sh, AK, oK⟩
  have LL := unhide HL
  have nSa := hide (fun k (hk : _ ≤ k) => LL.j.st.new (k := k) hk)
  have BX := hide ((unhide BX).keep oK (LL.nS rfl))
  have HL := hide (LL.look (LL.j.st.turn AK oK) oK)
  have SHa := hide Sh
  clear c0 c1 CK AK oK LL Sh
  have c0 := (unhide BX).cell 0
  have c1 := (unhide BX).cell 1
  simp at c0 c1
  have CV := level_any (unhide HL).j.st (unhide HL).j.la (unhide HL).j.za (unhide HL).j.sepS true
  unfold jbV jbC at CV
  have CV := hide CV
  go_wp2_with fail
  refine (unhide CV).mono ?_
  rintro e v1 ⟨bv, rfl, hbv, stV, oV⟩
  obtain rfl := hbv.mpr ⟨rfl, rfl⟩
  have LL := unhide HL
  have BX := hide ((unhide BX).keep oV (LL.nS rfl))
  have SHa := hide ((unhide SHa).keep oV (unhide nSa))
  have HL := hide (LL.look stV oV)
  clear c0 c1 CV stV oV LL hbv
  have c0 := (unhide BX).cell 0
  have c1 := (unhide BX).cell 1
  simp at c0 c1
  have CT := jsteps_any q.f (unhide HL).j.st.fv.dk
  unfold jbV jbC at CT
  have CT := hide CT
  have b9 : ((q.recs.length : Int) != (q.recs.length : Int)) = false := by simp
  have b9n : (q.recs.length != q.recs.length) = false := by simp
  go_wp2_with fail
  refine (unhide CT).mono ?_
  rintro e v2 ⟨rfl, oT⟩
  have HL := hide ((unhide HL).quiet oT)
  have SHa := hide ((unhide SHa).keep oT (fun _ _ h => h))
  have BX := hide ((unhide BX).keep oT (fun h => h))
  clear c0 c1 CT oT
  have c0 := (unhide BX).cell 0
  have c1 := (unhide BX).cell 1
  simp at c0 c1
  have CK := ylook_any (unhide HL).j.st.fv
  unfold jbV jbC at CK
  have CK := hide CK
  go_wp2_with fail
  refine (unhide CK).mono ?_
  rintro e v3 ⟨shb, rfl, Sh, AK, oK⟩
  have LL := unhide HL
  have BX := hide ((unhide BX).keep oK (LL.nS rfl))
  have HL := hide (LL.look (LL.j.st.turn AK oK) oK)
  have SHa := hide ((unhide SHa).keep oK (unhide nSa))
  have SHb := hide Sh
  clear c0 c1 CK AK oK LL Sh
  have CS := hide (ysameShot_any (unhide SHa) (unhide SHb))
  go_wp2_with fail
  refine (unhide CS).mono ?_
  rintro e v4 ⟨rfl, oS⟩
  have HL := hide ((unhide HL).quiet oS)
  have BX := hide ((unhide BX).keep oS (fun h => h))
  clear oS CS SHa SHb nSa b9 b9n
  have HZ := hide (show LY w.heap.size w bb (.pointer (some ⟨x, 0, none⟩)) (.pointer (some ⟨z, 0, none⟩)) (.pointer (some ⟨zb, 0, none⟩)) v4 from ⟨q, x, z, zb, _, _, _, _, _, _, _, _, _, _, rfl, rfl, rfl, unhide BX, unhide HL⟩)
  clear BX HL
  go_upto_region 16 with fail
  go_loopw [9, 10, 11, 15, 16, 17, 18, 19, 20, 21, 22, 23, 24, 25, 26, 27, 28, 29] (fun xv mv bv iv _ _ _ _ _ _ _ _ _ _ _ _ _ _ wr => ∃ kk : Nat, kk ≤ len ∧ iv = .int .i64 kk ∧ LY w.heap.size w bb xv mv bv wr) (fun _ _ _ iv _ _ _ _ _ _ _ _ _ _ _ _ _ _ _ => len - (intOf iv).toNat)
  case atStart => exact ⟨0, Nat.zero_le _, rfl, unhide HZ⟩
  case round =>
    clear HZ
    obtain ⟨kk, hk, rfl, q, x, z, zb, op, S, C, T, TC, U, PD, hist, H, Hb, rfl, rfl, rfl, BX, L⟩ := hrel
    have hbel := toBelY L.o
    by_cases hkl : kk < len
    · obtain ⟨hol, hoa⟩ := hops
      obtain ⟨ab, aoff, rfl, hcells⟩ := hoa (by omega)
      obtain ⟨y0, y1, y2, y3, y4, y5, hsz, hst⟩ := hcells kk (by omega)
      clear hcells hoa
      have hab : ab < w.heap.size := World.block_lt_of_cell? w ⟨ab, aoff + kk * 6, none⟩ y0
      rw [← hbel.cell (p := ⟨ab, aoff + kk * 6, none⟩) hab] at y0
      rw [← hbel.cell (p := ⟨ab, aoff + kk * 6 + 1, none⟩) hab] at y1
      rw [← hbel.cell (p := ⟨ab, aoff + kk * 6 + 2, none⟩) hab] at y2
      rw [← hbel.cell (p := ⟨ab, aoff + kk * 6 + 3, none⟩) hab] at y3
      rw [← hbel.cell (p := ⟨ab, aoff + kk * 6 + 4, none⟩) hab] at y4
      rw [← hbel.cell (p := ⟨ab, aoff + kk * 6 + 5, none⟩) hab] at y5
      generalize ops[kk]'(by omega) = oo at *
      obtain ⟨ok, oa, ob, oc, os, ot⟩ := oo
      simp only at y0 y1 y2 y3 y4 y5 hsz hst
      have hkI : (kk : Int) < (len : Int) := by omega
      have hkM : decide ((kk : Int) < 4398046511104) = true := by simp; omega
      have HST := hide hst
      have oo : Only (fun _ => False) wr (wr.alloc (.cells #[.int .i64 ok, .int .i64 oa, .int .i64 ob, .int .i64 oc, .string os, .string ot] 41)) := (Only.refl _ wr).alloc _
      have OB := hide (Has.new wr #[.int .i64 ok, .int .i64 oa, .int .i64 ob, .int .i64 oc, .string os, .string ot] 41)
      have HL := hide (L.add oo (g := wr.heap.size) (Nat.le_refl _) (by simp))
      have BX0 := BX
      have BX := hide (BX.keep oo (fun h => h))
      clear L hol hsz hst hbel oo
      have ogbb : wr.heap.size ≠ bb := fun e => by have := BX0.lt; omega
      go_upto_region 19 with fail
      generalize wr.alloc (.cells #[.int .i64 ok, .int .i64 oa, .int .i64 ob, .int .i64 oc, .string os, .string ot] 41) = wa at *
      generalize wr.heap.size = og at *
      clear BX0
      have k0 := (unhide OB).cell 0
      simp at k0
      by_cases hcut : ok = 16
      · subst hcut
        clear k0
        have k0 := (unhide OB).cell 0
        simp at k0
        have c0 := (unhide BX).cell 0
        have c1 := (unhide BX).cell 1
        simp at c0 c1
        have CT := jsteps_any q.f (unhide HL).j.st.fv.dk
        unfold jbV jbC at CT
        have CT := hide CT
        go_wp2_with fail
        refine (unhide CT).mono ?_
        rintro e wb ⟨rfl, oT⟩
        have HL := hide ((unhide HL).quiet oT)
        have BX := hide ((unhide BX).keep oT (fun h => h))
        have OB := hide ((unhide OB).keep oT (fun h => h))
        clear c0 c1 CT oT k0
        have c0 := (unhide BX).cell 0
        have c1 := (unhide BX).cell 1
        simp at c0 c1
        have bbl0 := (unhide BX).lt
        have oo : Only (fun _ => False) wb (wb.alloc (.cells #[.pointer (some ⟨q.d, 0, none⟩), .pointer (some ⟨q.f, 0, none⟩)] 30)) := (Only.refl _ wb).alloc _
        have B0 := hide (Has.new wb #[.pointer (some ⟨q.d, 0, none⟩), .pointer (some ⟨q.f, 0, none⟩)] 30)
        have HL := hide ((unhide HL).add oo (g := wb.heap.size) (Nat.le_refl _) (by simp))
        have BX := hide ((unhide BX).keep oo (fun h => h))
        have OB := hide ((unhide OB).keep oo (fun h => h))
        go_upto_region 40 with fail
        generalize wb.alloc (.cells #[.pointer (some ⟨q.d, 0, none⟩), .pointer (some ⟨q.f, 0, none⟩)] 30) = wd at *
        generalize wb.heap.size = g0 at *
        clear c0 c1 oo
        obtain ⟨X, D, lX, hX, hCD, hor, hfoot, hwork⟩ := (unhide HL).pick oa
        obtain ⟨Sx, hSx, hDx⟩ := id hCD
        have HX := hide (And.intro lX (And.intro hX (And.intro hCD (And.intro hSx (And.intro hDx (unhide HL).cu)))))
        have HV := hide (And.intro hor (And.intro hfoot hwork))
        clear lX hX hCD hor hfoot hwork hSx hDx
        have HD := hide (unhide HL)
        have hbb := ((unhide HD).kp bb (.inl (.inl rfl))).2.2.2.2.2
        have hog := ((unhide HD).kp og (.inl (.inr rfl))).2.2.2.2.2
        have hg0 := ((unhide HD).kp g0 (.inr rfl)).2.2.2.2.2
        have nbo : og ≠ bb := ogbb
        have nb0 : g0 ≠ bb := by omega
        have CA := jafter_any (R := fun X => ComD X D) q.f oa ((unhide HL).j.st.fv.dk) (unhide HX).2.2.2.2.2 (unhide HX).1 (unhide HX).2.1 (unhide HX).2.2.1 (unhide HX).2.2.2.1
        unfold jbV jbC at CA
        have CA := hide CA
        have e0 := (unhide B0).cell 0
        have e1 := (unhide B0).cell 1
        have k1 := (unhide OB).cell 1
        simp at e0 e1 k1
        go_wp2_with fail
        refine (unhide CA).mono ?_
        rintro e we ⟨qa, D0, rs, rfl, A2, cf2, hb2, hr2, hc2, ci2, hk2, hlo2, oe⟩
        clear CA e0 e1 k1
        have hq2 : ComD qa.com D := ⟨Sx, cf2.toS, (unhide HX).2.2.2.2.1⟩
        obtain ⟨cu2, hblk2, hrc2⟩ := after_cu hb2 hr2 hc2 ci2 hk2 (unhide HX).1 A2.lcom (unhide HX).2.2.1 hq2
        have HL := hide ((unhide HL).quiet oe)
        have BX := hide ((unhide BX).keep oe (fun h => h))
        have OB := hide ((unhide OB).keep oe (fun h => h))
        have B0 := hide ((unhide B0).keep oe (fun h => h))
        have c0 := (unhide BX).cell 0
        have c1 := (unhide BX).cell 1
        have f0 := (unhide BX).free 0
        have f1 := (unhide BX).free 1
        simp at c0 c1
        have BX := hide (((unhide BX).setCell 0 (.pointer (some ⟨qa.d, 0, none⟩))).setCell 1 (.pointer (some ⟨qa.f, 0, none⟩)))
        have oo2 : Only (fun k => k = bb) we ((we.setCell ⟨bb, 0, none⟩ (.pointer (some ⟨qa.d, 0, none⟩))).setCell ⟨bb, 1, none⟩ (.pointer (some ⟨qa.f, 0, none⟩))) := (only1 _ _).trans (only1 _ _) (fun _ _ h => h)
        have A3 := A2.keepN oo2 (fun k hk e => by have := hlo2 k hk; omega)
        have se := oe.size
        have s2 := oo2.size
        have HL := hide ((unhide HL).own (oo2.mono (fun k _ e => .inl (.inl e))))
        have OB := hide ((unhide OB).keep oo2 (fun e => nbo e))
        have B0 := hide ((unhide B0).keep oo2 (fun e => nb0 e))
        have CO := hide (eopen_any A3 cf2 (unhide HX).2.2.2.2.1 cu2 hblk2 hrc2)
        clear A2 A3 cf2 hb2 hr2 hc2 ci2 hk2 oe hq2 cu2 hblk2 hrc2
        go_upto_region 41 with fail
        generalize (we.setCell ⟨bb, 0, none⟩ (.pointer (some ⟨qa.d, 0, none⟩))).setCell ⟨bb, 1, none⟩ (.pointer (some ⟨qa.f, 0, none⟩)) = wf at *
        clear c0 c1 f0 f1 oo2
        have c1 := (unhide BX).cell 1
        simp at c1
        go_wp2_with fail
        refine (unhide CO).mono ?_
        rintro e wg ⟨wx, wq, wS, wT, rfl, whx, st4, la4, hd4, cf4, cu4, ed4, ef4, hA4, o1⟩
        have BX := unhide BX
        simp only [List.setIfInBounds_toArray, List.set_cons_zero, List.set_cons_succ] at BX
        rw [← ed4, ← ef4] at BX
        have BX := hide BX
        have wA : ∀ k, wq.A k → wd.heap.size ≤ k := fun k hk => by
          rcases hA4 k hk with c | c
          · exact hlo2 k c
          · omega
        have wxw : wd.heap.size ≤ wx := by omega
        have hF1 : ∀ k, qa.D k → wd.heap.size ≤ k := fun k hk => hlo2 k (Gnd.D_A hk)
        have HL := hide ((unhide HD).far (unhide HL) o1 hF1)
        have BX := hide ((unhide BX).keep o1 (fun c => by have := hF1 bb c; omega))
        have OB := hide ((unhide OB).keep o1 (fun c => by have := hF1 og c; omega))
        have B0 := hide ((unhide B0).keep o1 (fun c => by have := hF1 g0 c; omega))
        have HN := hide (And.intro st4 (And.intro la4 (And.intro cf4 (And.intro cu4 hd4))))
        have s3 := o1.size
        clear CO c1 st4 la4 cf4 cu4 hd4 hA4 o1 hF1 hlo2 ed4 ef4
        have qS1 : ∀ k, wq.S k → wd.heap.size ≤ k := fun k hk => wA k (Gnd.S_A hk)
        have c0 := (unhide BX).cell 0
        have c1 := (unhide BX).cell 1
        simp at c0 c1
        have CT := jsteps_any wq.f (unhide HN).1.fv.dk
        unfold jbV jbC at CT
        have CT := hide CT
        go_wp2_with fail
        refine (unhide CT).mono ?_
        rintro e wh ⟨rfl, oT⟩
        have HL := hide ((unhide HL).quiet oT)
        have BX := hide ((unhide BX).keep oT (fun h => h))
        have OB := hide ((unhide OB).keep oT (fun h => h))
        have B0 := hide ((unhide B0).keep oT (fun h => h))
        have HN := hide (And.intro ((unhide HN).1.quiet oT) (unhide HN).2)
        have s4 := oT.size
        clear c0 c1 CT oT
        have c0 := (unhide BX).cell 0
        have c1 := (unhide BX).cell 1
        simp at c0 c1
        have CK := ylook_any (unhide HN).1.fv
        unfold jbV jbC at CK
        have CK := hide CK
        go_wp2_with fail
        refine (unhide CK).mono ?_
        rintro e wi ⟨sha, rfl, Sh, AK, oK⟩
        have nSa := hide (fun k (hk : wh.heap.size ≤ k) => (unhide HN).1.new (k := k) hk)
        have HL := hide ((unhide HD).far (unhide HL) oK qS1)
        have BX := hide ((unhide BX).keep oK (fun c => by have := qS1 bb c; omega))
        have OB := hide ((unhide OB).keep oK (fun c => by have := qS1 og c; omega))
        have B0 := hide ((unhide B0).keep oK (fun c => by have := qS1 g0 c; omega))
        have HN := hide (And.intro ((unhide HN).1.turn AK oK) (unhide HN).2)
        have SHa := hide Sh
        have s5 := oK.size
        clear c0 c1 CK AK oK Sh
        obtain ⟨Sb, opb, Zb⟩ := (unhide HL).b
        have CB := hide (ycrashed_any Zb)
        clear Zb
        go_wp2_with fail
        refine (unhide CB).mono ?_
        rintro e wj ⟨zc, Hc, rfl, Zc, hHc, oB⟩
        have Zc : YAt wj zc PD PD PD none false Hc := Zc
        have sepc : ∀ k, Hc k → ¬ wq.S k := fun k hk => (unhide HN).1.new (hHc k hk)
        have HL := hide ((unhide HL).quiet oB)
        have BX := hide ((unhide BX).keep oB (fun h => h))
        have OB := hide ((unhide OB).keep oB (fun h => h))
        have B0 := hide ((unhide B0).keep oB (fun h => h))
        have SHa := hide ((unhide SHa).keep oB (fun _ _ h => h))
        have HN := hide (And.intro ((unhide HN).1.quiet oB) (unhide HN).2)
        have s6 := oB.size
        clear CB oB hHc
        have c0 := (unhide BX).cell 0
        have c1 := (unhide BX).cell 1
        simp at c0 c1
        have CL := level_any (unhide HN).1 (unhide HN).2.1 Zc sepc false
        unfold jbV jbC at CL
        have CL := hide CL
        clear Zc sepc
        go_wp2_with fail
        refine (unhide CL).mono ?_
        rintro e wk ⟨b1, rfl, hb1, stL, oL⟩
        have HL := hide ((unhide HD).far (unhide HL) oL qS1)
        have BX := hide ((unhide BX).keep oL (fun c => by have := qS1 bb c; omega))
        have OB := hide ((unhide OB).keep oL (fun c => by have := qS1 og c; omega))
        have B0 := hide ((unhide B0).keep oL (fun c => by have := qS1 g0 c; omega))
        have SHa := hide ((unhide SHa).keep oL (unhide nSa))
        have HB1 := hide (show b1 = true ↔ D = PD from ⟨fun h => (by have := (hb1.mp h).1; rw [(unhide HN).2.2.2.2] at this; exact this), fun h => hb1.mpr ⟨by rw [(unhide HN).2.2.2.2]; exact h, rfl⟩⟩)
        have HN := hide (And.intro stL (unhide HN).2)
        clear CL stL oL hb1 c0 c1
        have CB := ycrashed_any (unhide HL).j.za
        have eT : lastY hist U = dbOf TC := by
          rcases (unhide HL).j.hh with ⟨h1, h2⟩ | h1
          · rw [h1]; exact h2
          · rw [h1]; rfl
        rw [eT] at CB
        have CB := hide CB
        clear eT
        go_wp2_with fail
        refine (unhide CB).mono ?_
        rintro e wl ⟨zc2, Hc2, rfl, Zc, hHc, oB⟩
        have sepc : ∀ k, Hc2 k → ¬ wq.S k := fun k hk => (unhide HN).1.new (hHc k hk)
        have HL := hide ((unhide HL).quiet oB)
        have BX := hide ((unhide BX).keep oB (fun h => h))
        have OB := hide ((unhide OB).keep oB (fun h => h))
        have B0 := hide ((unhide B0).keep oB (fun h => h))
        have SHa := hide ((unhide SHa).keep oB (fun _ _ h => h))
        have HN := hide (And.intro ((unhide HN).1.quiet oB) (unhide HN).2)
        clear CB oB hHc
        have c0 := (unhide BX).cell 0
        have c1 := (unhide BX).cell 1
        simp at c0 c1
        have CL := level_any (unhide HN).1 (unhide HN).2.1 Zc sepc false
        unfold jbV jbC at CL
        have CL := hide CL
        clear Zc sepc
        go_wp2_with fail
        refine (unhide CL).mono ?_
        rintro e wm ⟨b2, rfl, hb2, stL, oL⟩
        have HL := hide ((unhide HD).far (unhide HL) oL qS1)
        have BX := hide ((unhide BX).keep oL (fun c => by have := qS1 bb c; omega))
        have OB := hide ((unhide OB).keep oL (fun c => by have := qS1 og c; omega))
        have B0 := hide ((unhide B0).keep oL (fun c => by have := qS1 g0 c; omega))
        have SHa := hide ((unhide SHa).keep oL (unhide nSa))
        have HB2 := hide (show b2 = true ↔ D = dbOf TC from ⟨fun h => (by have := (hb2.mp h).1; rw [(unhide HN).2.2.2.2] at this; exact this), fun h => hb2.mpr ⟨by rw [(unhide HN).2.2.2.2]; exact h, rfl⟩⟩)
        have HN := hide (And.intro stL (unhide HN).2)
        clear CL stL oL hb2 c0 c1
        have c0 := (unhide BX).cell 0
        have c1 := (unhide BX).cell 1
        simp at c0 c1
        have CT := jsteps_any wq.f (unhide HN).1.fv.dk
        unfold jbV jbC at CT
        have CT := hide CT
        have b9 : ((wq.recs.length : Int) != (wq.recs.length : Int)) = false := by simp
        have b9n : (wq.recs.length != wq.recs.length) = false := by simp
        go_wp2_with fail
        refine (unhide CT).mono ?_
        rintro e wn ⟨rfl, oT⟩
        have HL := hide ((unhide HL).quiet oT)
        have BX := hide ((unhide BX).keep oT (fun h => h))
        have OB := hide ((unhide OB).keep oT (fun h => h))
        have B0 := hide ((unhide B0).keep oT (fun h => h))
        have SHa := hide ((unhide SHa).keep oT (fun _ _ h => h))
        have HN := hide (And.intro ((unhide HN).1.quiet oT) (unhide HN).2)
        clear c0 c1 CT oT
        have c0 := (unhide BX).cell 0
        have c1 := (unhide BX).cell 1
        simp at c0 c1
        have CK := ylook_any (unhide HN).1.fv
        unfold jbV jbC at CK
        have CK := hide CK
        go_wp2_with fail
        refine (unhide CK).mono ?_
        rintro e wo ⟨shb, rfl, Sh, AK, oK⟩
        have HL := hide ((unhide HD).far (unhide HL) oK qS1)
        have BX := hide ((unhide BX).keep oK (fun c => by have := qS1 bb c; omega))
        have OB := hide ((unhide OB).keep oK (fun c => by have := qS1 og c; omega))
        have B0 := hide ((unhide B0).keep oK (fun c => by have := qS1 g0 c; omega))
        have SHa := hide ((unhide SHa).keep oK (unhide nSa))
        have HN := hide (And.intro ((unhide HN).1.turn AK oK) (unhide HN).2)
        have SHb := hide Sh
        clear c0 c1 CK AK oK Sh
        have CS := hide (ysameShot_any (unhide SHa) (unhide SHb))
        go_wp2_with fail
        refine (unhide CS).mono ?_
        rintro e wp ⟨rfl, oS⟩
        have HL := hide ((unhide HL).quiet oS)
        have BX := hide ((unhide BX).keep oS (fun h => h))
        have OB := hide ((unhide OB).keep oS (fun h => h))
        have B0 := hide ((unhide B0).keep oS (fun h => h))
        have HN := hide (And.intro ((unhide HN).1.quiet oS) (unhide HN).2)
        clear oS CS SHa SHb nSa b9 b9n
        have h12 : b1 = false → b2 = true := fun h => by
          rcases (unhide HV).1 with c | c
          · rw [(unhide HB1).mpr c] at h; cases h
          · exact (unhide HB2).mpr c
        have h0 : oa ≤ 0 → b1 = true := fun h => (unhide HB1).mpr ((unhide HV).2.1 h)
        have hN : (q.recs.length : Int) ≤ oa → b2 = true := fun h => (unhide HB2).mpr ((unhide HV).2.2 h)
        have H12 := hide h12
        have H0 := hide h0
        have HNN := hide hN
        clear h12 h0 hN
        have k1 := (unhide OB).cell 1
        simp at k1
        go_upto_region 53 with fail
        go_cut [26, 28, 171] (fun v u c wx => v = .bool b1 ∧ u = .bool b2 ∧ c = .bool false ∧ wp = wx)
        case first =>
          have h12 := unhide H12
          cases b1 with
          | true =>
            clear h12
            cases b2 <;> (go_wp2_with fail; go_meet; exact ⟨rfl, rfl, rfl, rfl⟩)
          | false =>
            obtain rfl := h12 rfl
            clear h12
            go_wp2_with fail
            go_meet
            exact ⟨rfl, rfl, rfl, rfl⟩
        case rest =>
        obtain ⟨rfl, rfl, rfl, rfl⟩ := hcut
        go_upto_region 55 with fail
        go_cut [26, 28, 180] (fun v u c wx => v = .bool b1 ∧ u = .bool b2 ∧ c = .bool false ∧ wp = wx)
        case first =>
          have h0 := unhide H0
          by_cases ha : oa ≤ 0
          · obtain rfl := h0 ha
            have d1 : decide (oa ≤ 0) = true := decide_eq_true ha
            clear h0
            go_wp2_with fail
            go_meet
            exact ⟨rfl, rfl, rfl, rfl⟩
          · have d1 : decide (oa ≤ 0) = false := decide_eq_false ha
            clear h0
            go_wp2_with fail
            go_meet
            exact ⟨rfl, rfl, rfl, rfl⟩
        case rest =>
        obtain ⟨rfl, rfl, rfl, rfl⟩ := hcut
        go_upto_region 57 with fail
        go_cut [26, 28, 190] (fun v u c wx => v = .bool b1 ∧ u = .bool b2 ∧ c = .bool false ∧ wp = wx)
        case first =>
          have h0 := unhide HNN
          by_cases ha : (q.recs.length : Int) ≤ oa
          · obtain rfl := h0 ha
            have d1 : decide (oa ≥ (q.recs.length : Int)) = true := decide_eq_true ha
            have d2 : decide ((q.recs.length : Int) ≤ oa) = true := decide_eq_true ha
            clear h0
            go_wp2_with fail
            go_meet
            exact ⟨rfl, rfl, rfl, rfl⟩
          · have d1 : decide (oa ≥ (q.recs.length : Int)) = false := decide_eq_false ha
            have d2 : decide ((q.recs.length : Int) ≤ oa) = false := decide_eq_false ha
            clear h0
            go_wp2_with fail
            go_meet
            exact ⟨rfl, rfl, rfl, rfl⟩
        case rest =>
        obtain ⟨rfl, rfl, rfl, rfl⟩ := hcut
        clear k1
        go_upto_if 193 with fail
        go_cut [10, 28] (fun mv u wx => u = .bool b2 ∧ ∃ z' H', mv = .pointer (some ⟨z', 0, none⟩) ∧ YAt wx z' D D D none false H' ∧ (∀ k, H' k → wp.heap.size ≤ k) ∧ Only (fun _ => False) wp wx)
        case first =>
          have CX : b2 = true → Calls Tryz.prog 28 #[.pointer (some ⟨z, 0, none⟩)] wp fun e w' => ∃ n H', e = .returned (.pointer (some ⟨n, 0, none⟩)) ∧ YAt w' n D D D none false H' ∧ (∀ k, H' k → wp.heap.size ≤ k) ∧ Only (fun _ => False) wp w' := fun hb => by
            have eV := (unhide HB2).mp hb
            have CB := ycrashed_any (unhide HL).j.za
            have eT : lastY hist U = D := by
              rw [eV]
              rcases (unhide HL).j.hh with ⟨h1, h2⟩ | h1
              · rw [h1]; exact h2
              · rw [h1]; rfl
            rw [eT] at CB
            exact CB
          have CY : b2 = false → Calls Tryz.prog 28 #[.pointer (some ⟨zb, 0, none⟩)] wp fun e w' => ∃ n H', e = .returned (.pointer (some ⟨n, 0, none⟩)) ∧ YAt w' n D D D none false H' ∧ (∀ k, H' k → wp.heap.size ≤ k) ∧ Only (fun _ => False) wp w' := fun hb => by
            have eV : D = PD := by
              rcases (unhide HV).1 with c | c
              · exact c
              · rw [(unhide HB2).mpr c] at hb; cases hb
            obtain ⟨Sb, opb, Zb⟩ := (unhide HL).b
            have CB := ycrashed_any Zb
            have eT : lastY none PD = D := by rw [eV]; rfl
            rw [eT] at CB
            exact CB
          have DX := hide CX
          have DY := hide CY
          clear CX CY
          clear H12 H0 HNN HB1 HB2 HV
          cases b2 with
          | true =>
            have EX_ := hide (unhide DX (by first | rfl | trivial))
            clear DX DY
            go_wp2_with fail
            refine (unhide EX_).mono ?_
            rintro e wn ⟨z', H', rfl, Zc, hHc, oB⟩
            have FF := hide (And.intro Zc (And.intro hHc oB))
            clear Zc hHc oB
            go_wp2_with fail
            go_meet
            exact ⟨rfl, z', H', rfl, unhide FF⟩
          | false =>
            have EX_ := hide (unhide DY (by first | rfl | trivial))
            clear DX DY
            go_wp2_with fail
            refine (unhide EX_).mono ?_
            rintro e wn ⟨z', H', rfl, Zc, hHc, oB⟩
            have FF := hide (And.intro Zc (And.intro hHc oB))
            clear Zc hHc oB
            go_wp2_with fail
            go_meet
            exact ⟨rfl, z', H', rfl, unhide FF⟩
        case rest =>
        obtain ⟨rfl, z', H', rfl, Z4, hH0, o4⟩ := hcut
        generalize wc = wt at *
        clear H12 H0 HNN HB1 HB2 HV
        rw [← (unhide HN).2.2.2.2] at Z4
        have hz := Z4.hm
        have C4 := hide (ymark_any Z4)
        have z3 := hH0 z' hz
        go_wp2_with fail
        refine (unhide C4).mono ?_
        rintro e w5 ⟨rfl, Z5, o5⟩
        have C5 := hide (yclone_any Z5)
        clear C4
        go_wp2_with fail
        refine (unhide C5).mono ?_
        rintro e w6 ⟨zb', Hb', rfl, Z6, hHb, o6⟩
        have kpm := (unhide HL).kp
        have hlo := (unhide HD).low
        have cu4 := (unhide HN).2.2.2.1
        rw [← (unhide HN).2.2.2.2] at cu4
        have HM := hide (YLs.start (K := fun k => (k = bb ∨ k = og) ∨ k = g0) (T1 := wT) (unhide HN).1 (unhide HN).2.1 (unhide HN).2.2.1 cu4 (fun k hk => by have := wA k hk; omega) (by omega) (unhide HL).o (fun k hk => ⟨fun c => by have := wA k c; have := ((unhide HD).kp k hk).2.2.2.2.2; omega, by have := ((unhide HD).kp k hk).2.2.2.2.2; omega, (kpm k hk).2.2.2.2.1, (kpm k hk).2.2.2.2.2⟩) (by have := (kpm bb (.inl (.inl rfl))).2.2.2.2; omega) hH0 hz o4 Z5 o5 Z6 hHb o6)
        have bm := (kpm bb (.inl (.inl rfl))).2.2.2.2.2
        have om := (kpm og (.inl (.inr rfl))).2.2.2.2.2
        have gm := (kpm g0 (.inr rfl)).2.2.2.2.2
        have BX := hide ((((unhide BX).keep o4 (fun h => h)).keep o5 (fun e => by omega)).keep o6 (fun h => h))
        have OB := hide ((((unhide OB).keep o4 (fun h => h)).keep o5 (fun e => by omega)).keep o6 (fun h => h))
        have B0 := hide ((((unhide B0).keep o4 (fun h => h)).keep o5 (fun e => by omega)).keep o6 (fun h => h))
        have DK := hide (((((unhide HL).j.st.fv.dk.keep o4 (fun _ _ h => h)).keep o5 (fun k hk e => by have := (unhide HL).j.st.fv.Alt k (.inl hk); omega)).keep o6 (fun _ _ h => h)))
        have HL := hide (unhide HM)
        have HEQD := hide (unhide HN).2.2.2.2.symm
        clear HM C5 Z4 Z5 Z6 hH0 hHb hz o4 o5 o6 kpm hlo z3 bm om gm qS1 wA HN HD cu4
        have HD := hide (unhide HL)
        have hbb := ((unhide HD).kp bb (.inl (.inl rfl))).2.2.2.2.2
        have hog := ((unhide HD).kp og (.inl (.inr rfl))).2.2.2.2.2
        have hg0 := ((unhide HD).kp g0 (.inr rfl)).2.2.2.2.2
        have CA := jafter_any (R := fun X => ComD X D) q.f oa (unhide DK) (unhide HX).2.2.2.2.2 (unhide HX).1 (unhide HX).2.1 (unhide HX).2.2.1 (unhide HX).2.2.2.1
        unfold jbV jbC at CA
        have CA := hide CA
        have e0 := (unhide B0).cell 0
        have e1 := (unhide B0).cell 1
        have k1 := (unhide OB).cell 1
        simp at e0 e1 k1
        go_wp2_with fail
        refine (unhide CA).mono ?_
        rintro e xe ⟨qa, D0, rs, rfl, A2, cf2, hb2, hr2, hc2, ci2, hk2, hlo2, oe⟩
        clear CA e0 e1 k1
        have hq2 : ComD qa.com D := ⟨Sx, cf2.toS, (unhide HX).2.2.2.2.1⟩
        obtain ⟨cu2, hblk2, hrc2⟩ := after_cu hb2 hr2 hc2 ci2 hk2 (unhide HX).1 A2.lcom (unhide HX).2.2.1 hq2
        have HL := hide ((unhide HL).quiet oe)
        have BX := hide ((unhide BX).keep oe (fun h => h))
        have OB := hide ((unhide OB).keep oe (fun h => h))
        have B0 := hide ((unhide B0).keep oe (fun h => h))
        have c0 := (unhide BX).cell 0
        have c1 := (unhide BX).cell 1
        have f0 := (unhide BX).free 0
        have f1 := (unhide BX).free 1
        simp at c0 c1
        have BX := hide (((unhide BX).setCell 0 (.pointer (some ⟨qa.d, 0, none⟩))).setCell 1 (.pointer (some ⟨qa.f, 0, none⟩)))
        have oo2 : Only (fun k => k = bb) xe ((xe.setCell ⟨bb, 0, none⟩ (.pointer (some ⟨qa.d, 0, none⟩))).setCell ⟨bb, 1, none⟩ (.pointer (some ⟨qa.f, 0, none⟩))) := (only1 _ _).trans (only1 _ _) (fun _ _ h => h)
        have A3 := A2.keepN oo2 (fun k hk e => by have := hlo2 k hk; omega)
        have se := oe.size
        have s2 := oo2.size
        have HL := hide ((unhide HL).own (oo2.mono (fun k _ e => .inl (.inl e))))
        have OB := hide ((unhide OB).keep oo2 (fun e => nbo e))
        have B0 := hide ((unhide B0).keep oo2 (fun e => nb0 e))
        have CO := hide (eopen_any A3 cf2 (unhide HX).2.2.2.2.1 cu2 hblk2 hrc2)
        clear A2 A3 cf2 hb2 hr2 hc2 ci2 hk2 oe hq2 cu2 hblk2 hrc2
        go_upto_region 66 with fail
        generalize (xe.setCell ⟨bb, 0, none⟩ (.pointer (some ⟨qa.d, 0, none⟩))).setCell ⟨bb, 1, none⟩ (.pointer (some ⟨qa.f, 0, none⟩)) = xf at *
        clear c0 c1 f0 f1 oo2
        have c1 := (unhide BX).cell 1
        simp at c1
        go_wp2_with fail
        refine (unhide CO).mono ?_
        rintro e xg ⟨xx, xq, xS, xT, rfl, xhx, st4, la4, hd4, cf4, cu4, ed4, ef4, hA4, o1⟩
        have BX := unhide BX
        simp only [List.setIfInBounds_toArray, List.set_cons_zero, List.set_cons_succ] at BX
        rw [← ed4, ← ef4] at BX
        have BX := hide BX
        have xA : ∀ k, xq.A k → w6.heap.size ≤ k := fun k hk => by
          rcases hA4 k hk with c | c
          · exact hlo2 k c
          · omega
        have xxw : w6.heap.size ≤ xx := by omega
        have hF1 : ∀ k, qa.D k → w6.heap.size ≤ k := fun k hk => hlo2 k (Gnd.D_A hk)
        have HL := hide ((unhide HD).far (unhide HL) o1 hF1)
        have BX := hide ((unhide BX).keep o1 (fun c => by have := hF1 bb c; omega))
        have OB := hide ((unhide OB).keep o1 (fun c => by have := hF1 og c; omega))
        have B0 := hide ((unhide B0).keep o1 (fun c => by have := hF1 g0 c; omega))
        have HN := hide (And.intro st4 (And.intro la4 (And.intro cf4 (And.intro cu4 hd4))))
        have s3 := o1.size
        clear CO c1 st4 la4 cf4 cu4 hd4 hA4 o1 hF1 hlo2 ed4 ef4
        have HSW := hide ((unhide HD).swap (unhide HL) (unhide HN).1 (unhide HN).2.1 (unhide HN).2.2.1 (unhide HN).2.2.2.1 ((unhide HN).2.2.2.2.trans (unhide HEQD)) (unhide HEQD) xA xxw)
        have HZ := hide (show LY w.heap.size w bb (.pointer (some ⟨xx, 0, none⟩)) (.pointer (some ⟨z', 0, none⟩)) (.pointer (some ⟨zb', 0, none⟩)) xg from ⟨xq, xx, z', zb', _, _, _, _, _, _, _, _, _, _, rfl, rfl, rfl, unhide BX, (unhide HSW).sub (fun k hk => .inl (.inl hk))⟩)
        clear BX HL OB B0 DK HN HD HSW HEQD
        go_wp2_with fail
        go_roundw
        case rel => exact ⟨kk + 1, by omega, by go_num, unhide HZ⟩
        case measure => simp [intOf]; omega
      · have hcb : (ok == 16) = false := by simpa using hcut
        have hcb2 : (ok != 16) = true := by simpa using hcut
        clear hcut
        have c0 := (unhide BX).cell 0
        have c1 := (unhide BX).cell 1
        simp at c0 c1
        have CM := jmark_any q.f (unhide HL).j.st.fv.dk
        unfold jbV jbC at CM
        have CM := hide CM
        go_wp2_with fail
        refine (unhide CM).mono ?_
        rintro e wm ⟨rfl, hdm, hom⟩
        obtain ⟨Jm, Om, km⟩ := (unhide HL).marked hdm hom
        have bF := fun k (hk : k = bb ∨ k = og) (c : q.F k) => ((unhide HL).kp k hk).1 (.inl c)
        have BX := hide ((unhide BX).keep hom (bF bb (.inl rfl)))
        have OB := hide ((unhide OB).keep hom (bF og (.inr rfl)))
        clear c0 c1 CM k0
        generalize hqm : q.mark wa wm = qm at *
        have em : qm.d = q.d ∧ qm.f = q.f ∧ qm.base = qm.blk ∧ qm.recs = [] := by rw [← hqm]; exact ⟨rfl, rfl, rfl, rfl⟩
        obtain ⟨em1, em3, em4, em5⟩ := em
        have BX := unhide BX
        rw [← em1, ← em3] at BX
        have BX := hide BX
        clear hqm HL hdm hom bF em1 em3
        have C2 := hide (ymark_any Jm.za)
        have HJ := hide (And.intro Jm (And.intro km Om))
        go_wp2_with fail
        refine (unhide C2).mono ?_
        rintro e w2 ⟨rfl, Z2, o2⟩
        have zne : ∀ k, k = bb ∨ k = og → k ≠ z := fun k hk e => ((unhide HJ).2.1 k hk).2.1 (by rw [e]; exact (unhide HJ).1.za.hm)
        have BX := hide ((unhide BX).keep o2 (zne bb (.inl rfl)))
        have OB := hide ((unhide OB).keep o2 (zne og (.inr rfl)))
        have C3 := hide (yclone_any Z2)
        have HZ2 := hide (And.intro Z2 o2)
        clear C2 Jm km Om Z2 o2 zne
        go_wp2_with fail
        refine (unhide C3).mono ?_
        rintro e w3 ⟨zb', Hb', rfl, Z3, hHb, o3⟩
        have HB := hide (YB.mk' (unhide HJ).1 (unhide HJ).2.1 (unhide HJ).2.2 (unhide HZ2).1 (unhide HZ2).2 Z3 hHb o3 em4 em5)
        have BX := hide ((unhide BX).keep o3 (fun h => h))
        have OB := hide ((unhide OB).keep o3 (fun h => h))
        clear C3 HJ HZ2 Z3 hHb o3 em4
        have C5 := yplay_any (unhide HB).j (by rw [em5]; simp) ok oa ob oc os ot (unhide HST)
        unfold opA at C5
        have C5 := hide C5
        clear em5
        have k0 := (unhide OB).cell 0
        have k1 := (unhide OB).cell 1
        have k2 := (unhide OB).cell 2
        have k3 := (unhide OB).cell 3
        have k4 := (unhide OB).cell 4
        have k5 := (unhide OB).cell 5
        simp at k0 k1 k2 k3 k4 k5
        go_wp2_with fail
        refine (unhide C5).mono ?_
        rintro e w5 hyr
        obtain ⟨q', op', S', C', T', TC', hist', H', hL5, eq1, eq3, hn, oP⟩ := (unhide HB).played hyr
        obtain ⟨rfl, _⟩ := hyr
        have HN := hide hn
        have HL := hide hL5
        have nB : ∀ k, k = bb ∨ k = og → ¬ (qm.A k ∨ Ext H wm w2 k) := fun k hk c => c.elim ((unhide HB).kp k hk).1 ((unhide HB).kp k hk).2.1
        have BX := hide ((unhide BX).keep oP (nB bb (.inl rfl)))
        have OB := hide ((unhide OB).keep oP (nB og (.inr rfl)))
        have BX := unhide BX
        rw [← eq1, ← eq3] at BX
        have BX := hide BX
        have HBB := hide (show ∃ Zd Zt Zu, YAt w5 zb' Zd Zt Zu none op Hb' from ⟨_, _, _, (unhide HB).b.keep oP (fun k hk c => c.elim ((unhide HB).bs k hk).1 ((unhide HB).bs k hk).2.1)⟩)
        clear C5 nB hn HB eq1 eq3 hL5 oP
        clear k0 k1 k2 k3 k4 k5
        have c0 := (unhide BX).cell 0
        have c1 := (unhide BX).cell 1
        simp at c0 c1
        have CT := jsteps_any q'.f (unhide HL).j.st.fv.dk
        unfold jbV jbC at CT
        have CT := hide CT
        go_wp2_with fail
        refine (unhide CT).mono ?_
        rintro e w6 ⟨rfl, oT⟩
        have HL := hide ((unhide HL).quiet oT)
        have HBB := hide (by obtain ⟨Zd, Zt, Zu, h⟩ := unhide HBB; exact (⟨Zd, Zt, Zu, h.quiet oT⟩ : ∃ Zd Zt Zu, YAt w6 zb' Zd Zt Zu none op Hb'))
        have BX := hide ((unhide BX).keep oT (fun h => h))
        have OB := hide ((unhide OB).keep oT (fun h => h))
        clear c0 c1 CT oT
        have c0 := (unhide BX).cell 0
        have c1 := (unhide BX).cell 1
        simp at c0 c1
        have CK := ylook_any (unhide HL).j.st.fv
        unfold jbV jbC at CK
        have CK := hide CK
        go_wp2_with fail
        refine (unhide CK).mono ?_
        rintro e w7 ⟨sha, rfl, Sh, AK, oK⟩
        have LL := unhide HL
        have nSa := hide (fun k (hk : _ ≤ k) => LL.j.st.new (k := k) hk)
        have BX := hide ((unhide BX).keep oK (LL.nS (.inl rfl)))
        have OB := hide ((unhide OB).keep oK (LL.nS (.inr rfl)))
        have HBB := hide (by obtain ⟨Zd, Zt, Zu, h⟩ := unhide HBB; exact (⟨Zd, Zt, Zu, h.keep oK (fun k hk c => (LL.bs k hk).1 (Gnd.S_A c))⟩ : ∃ Zd Zt Zu, YAt w7 zb' Zd Zt Zu none op Hb'))
        have HL := hide (LL.look (LL.j.st.turn AK oK) oK)
        have SHa := hide Sh
        clear c0 c1 CK AK oK LL Sh
        obtain ⟨Zd, Zt, Zu, ZB7⟩ := unhide HBB
        have C4 := hide (yintxn_any ZB7)
        clear ZB7 HBB
        go_wp2_with fail
        refine (unhide C4).mono ?_
        rintro e w8 ⟨rfl, rfl⟩
        clear C4
        have CO := hide (oneStep_any q'.recs.length ok oa ob oc os ot op (by
          rcases unhide HN with h | ⟨h1, h2⟩
          · exact .inl h
          · unfold cmB at h1
            simp at h1
            exact .inr ⟨h1.1, h1.2, h2⟩) w7)
        have k0 := (unhide OB).cell 0
        have k1 := (unhide OB).cell 1
        have k2 := (unhide OB).cell 2
        have k3 := (unhide OB).cell 3
        have k4 := (unhide OB).cell 4
        have k5 := (unhide OB).cell 5
        simp at k0 k1 k2 k3 k4 k5
        clear HN
        go_wp2_with fail
        refine (unhide CO).mono ?_
        rintro e w8 ⟨rfl, oO⟩
        have HL := hide ((unhide HL).quiet oO)
        have SHa := hide ((unhide SHa).keep oO (fun _ _ h => h))
        have BX := hide ((unhide BX).keep oO (fun h => h))
        have OB := hide ((unhide OB).keep oO (fun h => h))
        clear oO CO
        clear k0 k1 k2 k3 k4 k5
        have c0 := (unhide BX).cell 0
        have c1 := (unhide BX).cell 1
        simp at c0 c1
        have CV := level_any (unhide HL).j.st (unhide HL).j.la (unhide HL).j.za (unhide HL).j.sepS true
        unfold jbV jbC at CV
        have CV := hide CV
        go_wp2_with fail
        refine (unhide CV).mono ?_
        rintro e v1 ⟨bv, rfl, hbv, stV, oV⟩
        obtain rfl := hbv.mpr ⟨rfl, rfl⟩
        have LL := unhide HL
        have BX := hide ((unhide BX).keep oV (LL.nS (.inl rfl)))
        have OB := hide ((unhide OB).keep oV (LL.nS (.inr rfl)))
        have SHa := hide ((unhide SHa).keep oV (unhide nSa))
        have HL := hide (LL.look stV oV)
        clear c0 c1 CV stV oV LL hbv
        have c0 := (unhide BX).cell 0
        have c1 := (unhide BX).cell 1
        simp at c0 c1
        have CT := jsteps_any q'.f (unhide HL).j.st.fv.dk
        unfold jbV jbC at CT
        have CT := hide CT
        have b9 : ((q'.recs.length : Int) != (q'.recs.length : Int)) = false := by simp
        have b9n : (q'.recs.length != q'.recs.length) = false := by simp
        go_wp2_with fail
        refine (unhide CT).mono ?_
        rintro e v2 ⟨rfl, oT⟩
        have HL := hide ((unhide HL).quiet oT)
        have SHa := hide ((unhide SHa).keep oT (fun _ _ h => h))
        have BX := hide ((unhide BX).keep oT (fun h => h))
        have OB := hide ((unhide OB).keep oT (fun h => h))
        clear c0 c1 CT oT
        have c0 := (unhide BX).cell 0
        have c1 := (unhide BX).cell 1
        simp at c0 c1
        have CK := ylook_any (unhide HL).j.st.fv
        unfold jbV jbC at CK
        have CK := hide CK
        go_wp2_with fail
        refine (unhide CK).mono ?_
        rintro e v3 ⟨shb, rfl, Sh, AK, oK⟩
        have LL := unhide HL
        have BX := hide ((unhide BX).keep oK (LL.nS (.inl rfl)))
        have OB := hide ((unhide OB).keep oK (LL.nS (.inr rfl)))
        have HL := hide (LL.look (LL.j.st.turn AK oK) oK)
        have SHa := hide ((unhide SHa).keep oK (unhide nSa))
        have SHb := hide Sh
        clear c0 c1 CK AK oK LL Sh
        have CS := hide (ysameShot_any (unhide SHa) (unhide SHb))
        go_wp2_with fail
        refine (unhide CS).mono ?_
        rintro e v4 ⟨rfl, oS⟩
        have HL := hide ((unhide HL).quiet oS)
        have BX := hide ((unhide BX).keep oS (fun h => h))
        have OB := hide ((unhide OB).keep oS (fun h => h))
        clear oS CS SHa SHb nSa b9 b9n
        have HZ := hide (show LY w.heap.size w bb (.pointer (some ⟨x, 0, none⟩)) (.pointer (some ⟨z, 0, none⟩)) (.pointer (some ⟨zb', 0, none⟩)) v4 from ⟨q', x, z, zb', _, _, _, _, _, _, _, _, _, _, rfl, rfl, rfl, unhide BX, (unhide HL).sub (fun k hk => .inl hk)⟩)
        clear BX HL OB
        go_wp2_with fail
        go_roundw
        case rel => exact ⟨kk + 1, by omega, by go_num, unhide HZ⟩
        case measure => simp [intOf]; omega
    · have hkI : decide ((kk : Int) < (len : Int)) = false := by simp; omega
      clear L BX
      by_cases hM : len < 4398046511104
      · have hM1 : decide ((len : Int) < 4398046511104) = true := by simp; omega
        go_wp2_with fail
        go_ret2
        exact ⟨⟨_, rfl⟩, hbel⟩
      · have hM1 : decide ((len : Int) < 4398046511104) = false := by simp; omega
        go_wp2_with fail
        go_ret2
        exact ⟨⟨_, rfl⟩, hbel⟩
end Go.Proofs.Qxb6500413aGreat
