/-
  OWN WORK. THE B-TREE LAW: walk. (tools/gen_zwk.py writes it.)
-/
import Derived.Test.Qxb6500410aGreatZWk0
namespace Go.Proofs.Qxb6500410aGreat
open Go.RowKit Go.PlainAid
set_option linter.unusedSimpArgs false
set_option linter.unusedVariables false

set_option maxRecDepth 100000 in
set_option maxHeartbeats 16000000 in
theorem hwalkR_any (ck : CheckOk) (ad : Option Addr) (len cap : Nat) (ops : List OpD) (w : World) (hops : OpsAt w ad len ops) (hlen : len ≤ 4398046511104) :
    Calls Tryz.prog 9 #[.slice ad len cap, .bool false, .bool false] w fun e w' => (∃ n : Int, e = .returned (.tuple #[.int .i64 (-1), .int .i64 n])) ∧ Below w.heap.size w w' := by
  have C1 := hide (gground_any w)
  go_enter Tryz.func9, Tryz.ntmps9
  go_wp2_with fail
  refine (unhide C1).mono ?_
  rintro e w1 ⟨p, l, d, F, G, rfl, P1, hF, o1⟩
  unfold gbV
  have o2 : Only (fun _ => False) w1 (w1.alloc (.cells #[.pointer (some ⟨d, 0, none⟩), .pointer (some ⟨p, 0, none⟩)] 31)) := (Only.refl _ w1).alloc _
  have B2 : Has (w1.alloc (.cells #[.pointer (some ⟨d, 0, none⟩), .pointer (some ⟨p, 0, none⟩)] 31)) w1.heap.size #[.pointer (some ⟨d, 0, none⟩), .pointer (some ⟨p, 0, none⟩)] 31 := Has.new _ _ _
  have inF : ∀ k, F k ∨ G k ∨ k = p → k < w1.heap.size := fun k hk => by
    rcases hk with c | c | c
    · exact P1.inF k c
    · exact P1.inG k c
    · rw [c]; exact P1.plt
  have C2 := hide (gnewF_any (P1.quiet o2))
  have s1 := o1.size
  clear C1 P1
  go_upto_region 2 with fail
  generalize w1.alloc (.cells #[.pointer (some ⟨d, 0, none⟩), .pointer (some ⟨p, 0, none⟩)] 31) = w2 at *
  generalize hbb : w1.heap.size = bb at *
  have c1 := B2.cell 1
  simp at c1
  go_wp2_with fail
  refine (unhide C2).mono ?_
  rintro e w3 ⟨q, rfl, ep, ed, A3, cf, cu, nA, o3⟩
  have s2 := o2.size
  have s3 := o3.size
  have bl := B2.lt
  subst ep
  subst ed
  have B3 := hide (B2.keep o3 (fun h => by have := inF bb h; omega))
  have O3 := hide (((o1.mono (T := fun k => w.heap.size ≤ k) (fun _ _ h => h.elim)).trans o2 (fun _ _ h => h.elim)).trans o3 (fun k _ h => hF k h))
  have ql : ∀ k, q.A k → w.heap.size ≤ k := fun k hk => by
    rcases nA k hk with c | c
    · exact hF k c
    · omega
  have nbb : ¬ q.A bb := fun h => by
    rcases nA bb h with c | c
    · have := inF bb c; omega
    · omega
  have HA := hide (And.intro A3 (And.intro cf cu))
  have C3 := hide (znew_any w3)
  clear C2 c1 B2 A3 cf cu o1 o2 o3
  go_wp2_with fail
  refine (unhide C3).mono ?_
  rintro e w4 ⟨z, H0, rfl, Z4, hH0, o4⟩
  have hz := Z4.hm
  have C4 := hide (zmark_any Z4)
  clear C3
  go_wp2_with fail
  refine (unhide C4).mono ?_
  rintro e w5 ⟨rfl, Z5, o5⟩
  have C5 := hide (zcloneW_any Z5)
  clear C4 Z4
  go_wp2_with fail
  refine (unhide C5).mono ?_
  rintro e w6 ⟨zb, Hb, rfl, Z6, hHb, o6⟩
  have z3 := hH0 z hz
  have BX := hide ((((unhide B3).keep o4 (fun h => h)).keep o5 (fun e => by omega)).keep o6 (fun h => h))
  have HL := hide (ZL.start (K := fun k => k = bb) (unhide HA).1 (unhide HA).2.1 (unhide HA).2.2 (.inl ⟨NV_zero, rfl⟩) (by simp) ql (unhide O3) (fun k hk => by rw [hk]; exact ⟨nbb, by omega, by omega⟩) (by omega) hH0 hz o4 Z5 o5 Z6 hHb o6)
  clear C5 B3 HA O3 Z5 Z6 hH0 hHb hz o4 o5 o6 ql nbb nA inF hF z3 s1 s2 s3 bl
  have c0 := (unhide BX).cell 0
  have c1 := (unhide BX).cell 1
  simp at c0 c1
  have CT := gsteps_any q.p (unhide HL).j.fv.dk
  unfold gbV at CT
  have CT := hide CT
  go_wp2_with fail
  refine (unhide CT).mono ?_
  rintro e w7 ⟨rfl, oT⟩
  have HL := hide ((unhide HL).quiet oT)
  have BX := hide ((unhide BX).keep oT (fun h => h))
  clear c0 c1 CT oT
  have c0 := (unhide BX).cell 0
  have c1 := (unhide BX).cell 1
  simp at c0 c1
  obtain ⟨vw, WA⟩ := (unhide HL).j.fv.vw
  have HW := hide WA
  clear WA
  have CK := look_any (unhide HW).fa
  unfold gbV at CK
  have CK := hide CK
  go_wp2_with fail
  refine (unhide CK).mono ?_
  rintro e w8 ⟨sha, uba, pba, rfl, Sh, g1, g2, g3, AK, oK⟩
  have nSa := And.intro ((unhide HW).nS g1) (And.intro ((unhide HW).nS g2) ((unhide HW).nS g3))
  have LL := unhide HL
  have BX := hide ((unhide BX).keep oK (LL.nS rfl))
  have HW := hide ((unhide HW).turn AK)
  have HL := hide (LL.look (unhide HW).fv oK)
  have SHa := hide Sh
  clear c0 c1 CK AK oK LL Sh g1 g2 g3
  have c0 := (unhide BX).cell 0
  have c1 := (unhide BX).cell 1
  simp at c0 c1
  have CV := level_any ck (unhide HW) (unhide HL).j.za (unhide HL).j.sepS false
  unfold gbV at CV
  have CV := hide CV
  go_wp2_with fail
  refine (unhide CV).mono ?_
  rintro e v1 ⟨rfl, WV, oV⟩
  have LL := unhide HL
  have BX := hide ((unhide BX).keep oV (LL.nS rfl))
  have SHa := hide ((unhide SHa).keep oV nSa.1 nSa.2.1 nSa.2.2)
  have HL := hide (LL.look WV.fv oV)
  have HW := hide WV
  clear c0 c1 CV WV oV LL
  have c0 := (unhide BX).cell 0
  have c1 := (unhide BX).cell 1
  simp at c0 c1
  have CT := gsteps_any q.p (unhide HL).j.fv.dk
  unfold gbV at CT
  have CT := hide CT
  have b9 : ((q.recs.length : Int) != (q.recs.length : Int)) = false := by simp
  go_wp2_with fail
  refine (unhide CT).mono ?_
  rintro e v2 ⟨rfl, oT⟩
  have HL := hide ((unhide HL).quiet oT)
  have HW := hide ((unhide HW).quiet oT)
  have SHa := hide ((unhide SHa).quiet oT)
  have BX := hide ((unhide BX).keep oT (fun h => h))
  clear c0 c1 CT oT
  have c0 := (unhide BX).cell 0
  have c1 := (unhide BX).cell 1
  simp at c0 c1
  have CK := look_any (unhide HW).fa
  unfold gbV at CK
  have CK := hide CK
  go_wp2_with fail
  refine (unhide CK).mono ?_
  rintro e v3 ⟨shb, ubb, pbb, rfl, Sh, g1, g2, g3, AK, oK⟩
  have nSb := And.intro ((unhide HW).nS g1) (And.intro ((unhide HW).nS g2) ((unhide HW).nS g3))
  have LL := unhide HL
  have BX := hide ((unhide BX).keep oK (LL.nS rfl))
  have HW := hide ((unhide HW).turn AK)
  have HL := hide (LL.look (unhide HW).fv oK)
  have SHb := hide Sh
  have SHa := hide ((unhide SHa).keep oK nSa.1 nSa.2.1 nSa.2.2)
  clear c0 c1 CK AK oK LL Sh g1 g2 g3
  have CS := hide (sameShot_any (unhide SHa) (unhide SHb))
  go_wp2_with fail
  refine (unhide CS).mono ?_
  rintro e v4 ⟨rfl, oS⟩
  have HL := hide ((unhide HL).quiet oS)
  have BX := hide ((unhide BX).keep oS (fun h => h))
  clear oS CS SHa SHb HW nSa nSb b9
  have HZ := hide (show LZ w.heap.size w bb (.pointer (some ⟨q.f, 0, none⟩)) (.pointer (some ⟨z, 0, none⟩)) (.pointer (some ⟨zb, 0, none⟩)) v4 from ⟨q, z, zb, _, _, _, _, _, _, _, _, _, rfl, rfl, rfl, unhide BX, unhide HL⟩)
  clear BX HL
  go_upto_region 16 with fail
  go_loopw [9, 10, 11, 15] (fun xv mv bv iv wr => ∃ kk : Nat, kk ≤ len ∧ iv = .int .i64 kk ∧ LZ w.heap.size w bb xv mv bv wr) (fun _ _ _ iv _ => len - (intOf iv).toNat)
  case atStart => exact ⟨0, Nat.zero_le _, rfl, unhide HZ⟩
  case round =>
    clear HZ
    obtain ⟨kk, hk, rfl, q, z, zb, op, S, T, U, P, hist, H, Hb, was, rfl, rfl, rfl, BX, L⟩ := hrel
    have hbel := toBel L.o
    by_cases hkl : kk < len
    · obtain ⟨hol, hoa⟩ := hops
      obtain ⟨ab, aoff, rfl, hcells⟩ := hoa (by omega)
      obtain ⟨y0, y1, y2, y3, y4, y5, hsz⟩ := hcells kk (by omega)
      clear hcells hoa
      have hab : ab < w.heap.size := World.block_lt_of_cell? w ⟨ab, aoff + kk * 6, none⟩ y0
      rw [← hbel.cell (p := ⟨ab, aoff + kk * 6, none⟩) hab] at y0
      rw [← hbel.cell (p := ⟨ab, aoff + kk * 6 + 1, none⟩) hab] at y1
      rw [← hbel.cell (p := ⟨ab, aoff + kk * 6 + 2, none⟩) hab] at y2
      rw [← hbel.cell (p := ⟨ab, aoff + kk * 6 + 3, none⟩) hab] at y3
      rw [← hbel.cell (p := ⟨ab, aoff + kk * 6 + 4, none⟩) hab] at y4
      rw [← hbel.cell (p := ⟨ab, aoff + kk * 6 + 5, none⟩) hab] at y5
      generalize ops[kk]'(by omega) = oo at *
      obtain ⟨ok, oa, ob, oc, os, ot⟩ := oo
      simp only at y0 y1 y2 y3 y4 y5 hsz
      have hkI : (kk : Int) < (len : Int) := by omega
      have hkM : decide ((kk : Int) < 4398046511104) = true := by simp; omega
      have oo : Only (fun _ => False) wr (wr.alloc (.cells #[.int .i64 ok, .int .i64 oa, .int .i64 ob, .int .i64 oc, .string os, .string ot] 42)) := (Only.refl _ wr).alloc _
      have OB := hide (Has.new wr #[.int .i64 ok, .int .i64 oa, .int .i64 ob, .int .i64 oc, .string os, .string ot] 42)
      have HL := hide (L.add oo (g := wr.heap.size) (Nat.le_refl _) (by simp))
      have BX0 := BX
      have BX := hide (BX.keep oo (fun h => h))
      clear L hol hsz hbel oo
      have ogbb : wr.heap.size ≠ bb := fun e => by have := BX0.lt; omega
      go_upto_region 19 with fail
      generalize wr.alloc (.cells #[.int .i64 ok, .int .i64 oa, .int .i64 ob, .int .i64 oc, .string os, .string ot] 42) = wa at *
      generalize wr.heap.size = og at *
      clear BX0
      have k0 := (unhide OB).cell 0
      simp at k0
      by_cases hcut : ok = 15
      · subst hcut
        clear k0
        have k0 := (unhide OB).cell 0
        simp at k0
        have c0 := (unhide BX).cell 0
        have c1 := (unhide BX).cell 1
        simp at c0 c1
        have CT := gsteps_any q.p (unhide HL).j.fv.dk
        unfold gbV at CT
        have CT := hide CT
        go_wp2_with fail
        refine (unhide CT).mono ?_
        rintro e wb ⟨rfl, oT⟩
        have HL := hide ((unhide HL).quiet oT)
        have BX := hide ((unhide BX).keep oT (fun h => h))
        have OB := hide ((unhide OB).keep oT (fun h => h))
        clear c0 c1 CT oT k0
        have c0 := (unhide BX).cell 0
        have c1 := (unhide BX).cell 1
        simp at c0 c1
        have bbl0 := (unhide BX).lt
        have oo : Only (fun _ => False) wb (wb.alloc (.cells #[.pointer (some ⟨q.d, 0, none⟩), .pointer (some ⟨q.p, 0, none⟩)] 31)) := (Only.refl _ wb).alloc _
        have B0 := hide (Has.new wb #[.pointer (some ⟨q.d, 0, none⟩), .pointer (some ⟨q.p, 0, none⟩)] 31)
        have HL := hide ((unhide HL).add oo (g := wb.heap.size) (Nat.le_refl _) (by simp))
        have BX := hide ((unhide BX).keep oo (fun h => h))
        have OB := hide ((unhide OB).keep oo (fun h => h))
        go_upto_region 40 with fail
        generalize wb.alloc (.cells #[.pointer (some ⟨q.d, 0, none⟩), .pointer (some ⟨q.p, 0, none⟩)] 31) = wd at *
        generalize wb.heap.size = g0 at *
        clear c0 c1 oo
        obtain ⟨X, V, lX, hX, hXV, hV, hV0, hVN⟩ := (unhide HL).cu.vpick (unhide HL).lw (unhide HL).j.fv.lcom (unhide HL).cs (unhide HL).j.cf.toS oa
        have HX := hide (And.intro lX (And.intro hX (And.intro hXV (unhide HL).cu)))
        have HV := hide (And.intro hV (And.intro hV0 hVN))
        clear lX hX hXV hV hV0 hVN
        have HD := hide (unhide HL)
        have hbb := ((unhide HD).kp bb (.inl (.inl rfl))).2.2.2.2
        have hog := ((unhide HD).kp og (.inl (.inr rfl))).2.2.2.2
        have hg0 := ((unhide HD).kp g0 (.inr rfl)).2.2.2.2
        have nbo : og ≠ bb := ogbb
        have nb0 : g0 ≠ bb := by omega
        have CA := gafter_any q.p oa ((unhide HL).j.fv.dk) (unhide HX).2.2.2 (unhide HX).1 (unhide HX).2.1
        unfold gbV at CA
        have CA := hide CA
        have e0 := (unhide B0).cell 0
        have e1 := (unhide B0).cell 1
        have k1 := (unhide OB).cell 1
        simp at e0 e1 k1
        go_wp2_with fail
        refine (unhide CA).mono ?_
        rintro e we ⟨p1, l1, d1, D0, F1, G1, rfl, P1, CU1, hF1, oe⟩
        clear CA e0 e1 k1
        have HL := hide ((unhide HL).quiet oe)
        have BX := hide ((unhide BX).keep oe (fun h => h))
        have OB := hide ((unhide OB).keep oe (fun h => h))
        have B0 := hide ((unhide B0).keep oe (fun h => h))
        have c0 := (unhide BX).cell 0
        have c1 := (unhide BX).cell 1
        have f0 := (unhide BX).free 0
        have f1 := (unhide BX).free 1
        simp at c0 c1
        have BX := hide (((unhide BX).setCell 0 (.pointer (some ⟨d1, 0, none⟩))).setCell 1 (.pointer (some ⟨p1, 0, none⟩)))
        have oo2 : Only (fun k => k = bb) we ((we.setCell ⟨bb, 0, none⟩ (.pointer (some ⟨d1, 0, none⟩))).setCell ⟨bb, 1, none⟩ (.pointer (some ⟨p1, 0, none⟩))) := (only1 _ _).trans (only1 _ _) (fun _ _ h => h)
        have P2 := P1.keep oo2 (fun k hk e => by have := hF1 k (.inl hk); omega) (fun k hk e => by have := hF1 k (.inr (.inl hk)); omega) (by have := hF1 p1 (.inr (.inr rfl)); omega)
        have se := oe.size
        have s2 := oo2.size
        have HL := hide ((unhide HL).own (oo2.mono (fun k _ e => .inl (.inl e))))
        have OB := hide ((unhide OB).keep oo2 (fun e => nbo e))
        have B0 := hide ((unhide B0).keep oo2 (fun e => nb0 e))
        have C2 := hide (gopen_any P2 CU1 (unhide HX).2.2.1)
        clear P1 P2 CU1 oe
        go_upto_region 41 with fail
        generalize (we.setCell ⟨bb, 0, none⟩ (.pointer (some ⟨d1, 0, none⟩))).setCell ⟨bb, 1, none⟩ (.pointer (some ⟨p1, 0, none⟩)) = wf at *
        clear c0 c1 f0 f1 oo2
        have c1 := (unhide BX).cell 1
        simp at c1
        go_wp2_with fail
        refine (unhide C2).mono ?_
        rintro e wg ⟨wq, rfl, ep, ed, A1, cf1, cu1, nA1, o1⟩
        subst ep
        subst ed
        have BX := unhide BX
        simp only [List.setIfInBounds_toArray, List.set_cons_zero, List.set_cons_succ] at BX
        have BX := hide BX
        have wA : ∀ k, wq.A k → wd.heap.size ≤ k := fun k hk => by
          rcases nA1 k hk with c | c
          · exact hF1 k c
          · omega
        have HL := hide ((unhide HD).far (unhide HL) o1 hF1)
        have BX := hide ((unhide BX).keep o1 (fun c => by have := hF1 bb c; omega))
        have OB := hide ((unhide OB).keep o1 (fun c => by have := hF1 og c; omega))
        have B0 := hide ((unhide B0).keep o1 (fun c => by have := hF1 g0 c; omega))
        have HN := hide (And.intro A1 (And.intro cf1 cu1))
        have s3 := o1.size
        clear C2 c1 A1 cf1 cu1 nA1 o1 hF1
        have qS1 : ∀ k, wq.S k → wd.heap.size ≤ k := fun k hk => wA k (Gnd.S_A hk)
        have c0 := (unhide BX).cell 0
        have c1 := (unhide BX).cell 1
        simp at c0 c1
        have CT := gsteps_any wq.p (unhide HN).1.dk
        unfold gbV at CT
        have CT := hide CT
        go_wp2_with fail
        refine (unhide CT).mono ?_
        rintro e wh ⟨rfl, oT⟩
        have HL := hide ((unhide HL).quiet oT)
        have BX := hide ((unhide BX).keep oT (fun h => h))
        have OB := hide ((unhide OB).keep oT (fun h => h))
        have B0 := hide ((unhide B0).keep oT (fun h => h))
        have HN := hide (And.intro ((unhide HN).1.quiet oT) (unhide HN).2)
        have s4 := oT.size
        clear c0 c1 CT oT
        obtain ⟨vw, WA⟩ := (unhide HN).1.vw
        have HW := hide WA
        have HN := hide (unhide HN).2
        clear WA
        have c0 := (unhide BX).cell 0
        have c1 := (unhide BX).cell 1
        simp at c0 c1
        have CK := look_any (unhide HW).fa
        unfold gbV at CK
        have CK := hide CK
        go_wp2_with fail
        refine (unhide CK).mono ?_
        rintro e wi ⟨sha, uba, pba, rfl, Sh, g1, g2, g3, AK, oK⟩
        have nSa := And.intro ((unhide HW).nS g1) (And.intro ((unhide HW).nS g2) ((unhide HW).nS g3))
        have HW := hide ((unhide HW).turn AK)
        have HL := hide ((unhide HD).far (unhide HL) oK qS1)
        have BX := hide ((unhide BX).keep oK (fun c => by have := qS1 bb c; omega))
        have OB := hide ((unhide OB).keep oK (fun c => by have := qS1 og c; omega))
        have B0 := hide ((unhide B0).keep oK (fun c => by have := qS1 g0 c; omega))
        have SHa := hide Sh
        have s5 := oK.size
        clear c0 c1 CK AK oK Sh g1 g2 g3
        obtain ⟨Sb, opb, Zb⟩ := (unhide HL).b
        have CB := hide (zcrashed_any Zb)
        clear Zb
        go_wp2_with fail
        refine (unhide CB).mono ?_
        rintro e wj ⟨zc, Hc, rfl, Zc, hHc, oB⟩
        have Zc : ZAt wj zc P P P none false Hc := Zc
        have sepc : ∀ k, Hc k → ¬ wq.S k := fun k hk => (unhide HW).nS (hHc k hk)
        have HL := hide ((unhide HL).quiet oB)
        have BX := hide ((unhide BX).keep oB (fun h => h))
        have OB := hide ((unhide OB).keep oB (fun h => h))
        have B0 := hide ((unhide B0).keep oB (fun h => h))
        have SHa := hide ((unhide SHa).quiet oB)
        have HW := hide ((unhide HW).quiet oB)
        have s6 := oB.size
        clear CB oB hHc
        have CL := hide (alikeB_any (unhide HW) Zc sepc)
        clear Zc sepc
        go_wp2_with fail
        refine (unhide CL).mono ?_
        rintro e wk ⟨b1, rfl, hb1, W1, oL⟩
        have HL := hide ((unhide HD).far (unhide HL) oL qS1)
        have BX := hide ((unhide BX).keep oL (fun c => by have := qS1 bb c; omega))
        have OB := hide ((unhide OB).keep oL (fun c => by have := qS1 og c; omega))
        have B0 := hide ((unhide B0).keep oL (fun c => by have := qS1 g0 c; omega))
        have SHa := hide ((unhide SHa).keep oL nSa.1 nSa.2.1 nSa.2.2)
        have HW := hide W1
        have HB1 := hide (show b1 = true ↔ V = P from ⟨fun h => (show V = P by have := hb1.mp h; first | exact this.1 | simpa using this), fun h => hb1.mpr (by first | exact ⟨h, rfl⟩ | exact ⟨h, trivial⟩ | simpa using h)⟩)
        have s7 := oL.size
        clear CL W1 oL hb1
        have CB := zcrashed_any (unhide HL).j.za
        have eT : lastV hist U = T := by
          rcases (unhide HL).j.hh with ⟨h1, h2⟩ | h1
          · rw [h1]; exact h2
          · rw [h1]; rfl
        rw [eT] at CB
        have CB := hide CB
        clear eT
        go_wp2_with fail
        refine (unhide CB).mono ?_
        rintro e wl ⟨zc2, Hc2, rfl, Zc, hHc, oB⟩
        have sepc : ∀ k, Hc2 k → ¬ wq.S k := fun k hk => (unhide HW).nS (hHc k hk)
        have HL := hide ((unhide HL).quiet oB)
        have BX := hide ((unhide BX).keep oB (fun h => h))
        have OB := hide ((unhide OB).keep oB (fun h => h))
        have B0 := hide ((unhide B0).keep oB (fun h => h))
        have SHa := hide ((unhide SHa).quiet oB)
        have HW := hide ((unhide HW).quiet oB)
        have s8 := oB.size
        clear CB oB hHc
        have CL := hide (alikeB_any (unhide HW) Zc sepc)
        clear Zc sepc
        go_wp2_with fail
        refine (unhide CL).mono ?_
        rintro e wm ⟨b2, rfl, hb2, W1, oL⟩
        have HL := hide ((unhide HD).far (unhide HL) oL qS1)
        have BX := hide ((unhide BX).keep oL (fun c => by have := qS1 bb c; omega))
        have OB := hide ((unhide OB).keep oL (fun c => by have := qS1 og c; omega))
        have B0 := hide ((unhide B0).keep oL (fun c => by have := qS1 g0 c; omega))
        have SHa := hide ((unhide SHa).keep oL nSa.1 nSa.2.1 nSa.2.2)
        have HW := hide W1
        have HB2 := hide (show b2 = true ↔ V = T from ⟨fun h => (show V = T by have := hb2.mp h; first | exact this.1 | simpa using this), fun h => hb2.mpr (by first | exact ⟨h, rfl⟩ | exact ⟨h, trivial⟩ | simpa using h)⟩)
        have s9 := oL.size
        clear CL W1 oL hb2
        have h12 : b1 = false → b2 = true := fun h => by
          rcases (unhide HV).1 with c | c
          · rw [(unhide HB1).mpr c] at h; cases h
          · exact (unhide HB2).mpr c
        have h0 : oa ≤ 0 → b1 = true := fun h => (unhide HB1).mpr ((unhide HV).2.1 h)
        have hN : (q.recs.length : Int) ≤ oa → b2 = true := fun h => (unhide HB2).mpr ((unhide HV).2.2 h)
        have H12 := hide h12
        have H0 := hide h0
        have HNN := hide hN
        clear h12 h0 hN
        have k1 := (unhide OB).cell 1
        simp at k1
        go_upto_region 48 with fail
        go_cut [26, 28, 155] (fun v u c wx => v = .bool b1 ∧ u = .bool b2 ∧ c = .bool false ∧ wm = wx)
        case first =>
          have h12 := unhide H12
          cases b1 with
          | true =>
            clear h12
            cases b2 <;> (go_wp2_with fail; go_meet; exact ⟨rfl, rfl, rfl, rfl⟩)
          | false =>
            obtain rfl := h12 rfl
            clear h12
            go_wp2_with fail
            go_meet
            exact ⟨rfl, rfl, rfl, rfl⟩
        case rest =>
        obtain ⟨rfl, rfl, rfl, rfl⟩ := hcut
        go_upto_region 50 with fail
        go_cut [26, 28, 164] (fun v u c wx => v = .bool b1 ∧ u = .bool b2 ∧ c = .bool false ∧ wm = wx)
        case first =>
          have h0 := unhide H0
          by_cases ha : oa ≤ 0
          · obtain rfl := h0 ha
            have d1 : decide (oa ≤ 0) = true := decide_eq_true ha
            clear h0
            go_wp2_with fail
            go_meet
            exact ⟨rfl, rfl, rfl, rfl⟩
          · have d1 : decide (oa ≤ 0) = false := decide_eq_false ha
            clear h0
            go_wp2_with fail
            go_meet
            exact ⟨rfl, rfl, rfl, rfl⟩
        case rest =>
        obtain ⟨rfl, rfl, rfl, rfl⟩ := hcut
        go_upto_region 52 with fail
        go_cut [26, 28, 174] (fun v u c wx => v = .bool b1 ∧ u = .bool b2 ∧ c = .bool false ∧ wm = wx)
        case first =>
          have h0 := unhide HNN
          by_cases ha : (q.recs.length : Int) ≤ oa
          · obtain rfl := h0 ha
            have d1 : decide (oa ≥ (q.recs.length : Int)) = true := decide_eq_true ha
            have d2 : decide ((q.recs.length : Int) ≤ oa) = true := decide_eq_true ha
            clear h0
            go_wp2_with fail
            go_meet
            exact ⟨rfl, rfl, rfl, rfl⟩
          · have d1 : decide (oa ≥ (q.recs.length : Int)) = false := decide_eq_false ha
            have d2 : decide ((q.recs.length : Int) ≤ oa) = false := decide_eq_false ha
            clear h0
            go_wp2_with fail
            go_meet
            exact ⟨rfl, rfl, rfl, rfl⟩
        case rest =>
        obtain ⟨rfl, rfl, rfl, rfl⟩ := hcut
        clear k1
        go_upto_if 177 with fail
        go_cut [10, 28] (fun mv u wx => u = .bool b2 ∧ ∃ z' H', mv = .pointer (some ⟨z', 0, none⟩) ∧ ZAt wx z' V V V none false H' ∧ (∀ k, H' k → wm.heap.size ≤ k) ∧ Only (fun _ => False) wm wx)
        case first =>
          have CX : b2 = true → Calls Tryz.prog 29 #[.pointer (some ⟨z, 0, none⟩)] wm fun e w' => ∃ n H', e = .returned (.pointer (some ⟨n, 0, none⟩)) ∧ ZAt w' n V V V none false H' ∧ (∀ k, H' k → wm.heap.size ≤ k) ∧ Only (fun _ => False) wm w' := fun hb => by
            have eV := (unhide HB2).mp hb
            have CB := zcrashed_any (unhide HL).j.za
            have eT : lastV hist U = V := by
              rw [eV]
              rcases (unhide HL).j.hh with ⟨h1, h2⟩ | h1
              · rw [h1]; exact h2
              · rw [h1]; rfl
            rw [eT] at CB
            exact CB
          have CY : b2 = false → Calls Tryz.prog 29 #[.pointer (some ⟨zb, 0, none⟩)] wm fun e w' => ∃ n H', e = .returned (.pointer (some ⟨n, 0, none⟩)) ∧ ZAt w' n V V V none false H' ∧ (∀ k, H' k → wm.heap.size ≤ k) ∧ Only (fun _ => False) wm w' := fun hb => by
            have eV : V = P := by
              rcases (unhide HV).1 with c | c
              · exact c
              · rw [(unhide HB2).mpr c] at hb; cases hb
            obtain ⟨Sb, opb, Zb⟩ := (unhide HL).b
            have CB := zcrashed_any Zb
            have eT : lastV none P = V := by rw [eV]; rfl
            rw [eT] at CB
            exact CB
          have DX := hide CX
          have DY := hide CY
          clear CX CY
          clear H12 H0 HNN HB1 HB2 HV
          cases b2 with
          | true =>
            have EX_ := hide (unhide DX (by first | rfl | trivial))
            clear DX DY
            go_wp2_with fail
            refine (unhide EX_).mono ?_
            rintro e wn ⟨z', H', rfl, Zc, hHc, oB⟩
            have FF := hide (And.intro Zc (And.intro hHc oB))
            clear Zc hHc oB
            go_wp2_with fail
            go_meet
            exact ⟨rfl, z', H', rfl, unhide FF⟩
          | false =>
            have EX_ := hide (unhide DY (by first | rfl | trivial))
            clear DX DY
            go_wp2_with fail
            refine (unhide EX_).mono ?_
            rintro e wn ⟨z', H', rfl, Zc, hHc, oB⟩
            have FF := hide (And.intro Zc (And.intro hHc oB))
            clear Zc hHc oB
            go_wp2_with fail
            go_meet
            exact ⟨rfl, z', H', rfl, unhide FF⟩
        case rest =>
        obtain ⟨rfl, z', H', rfl, Z4, hH0, o4⟩ := hcut
        clear H12 H0 HNN HB1 HB2 HV
        have hz := Z4.hm
        have C4 := hide (zmark_any Z4)
        have z3 := hH0 z' hz
        have slt := (unhide SHa).s.lt
        have ult := (unhide SHa).u.lt
        have plt := (unhide SHa).p.lt
        go_wp2_with fail
        refine (unhide C4).mono ?_
        rintro e w5 ⟨rfl, Z5, o5⟩
        have C5 := hide (zcloneW_any Z5)
        clear C4
        go_wp2_with fail
        refine (unhide C5).mono ?_
        rintro e w6 ⟨zb', Hb', rfl, Z6, hHb, o6⟩
        have al := (unhide HW).fv.Alt
        have kpm := (unhide HL).kp
        have hlo := (unhide HD).low
        have HM := hide (ZL.start (K := fun k => (k = bb ∨ k = og) ∨ k = g0) (unhide HW).fv (unhide HN).1 (unhide HN).2 (unhide HX).2.2.1 (unhide HX).1 (fun k hk => by have := wA k hk; omega) (unhide HL).o (fun k hk => ⟨fun c => by have := wA k c; have := ((unhide HD).kp k hk).2.2.2.2; omega, (kpm k hk).2.2.2.1, (kpm k hk).2.2.2.2⟩) (by omega) hH0 hz o4 Z5 o5 Z6 hHb o6)
        have bm := (kpm bb (.inl (.inl rfl))).2.2.2.2
        have om := (kpm og (.inl (.inr rfl))).2.2.2.2
        have gm := (kpm g0 (.inr rfl)).2.2.2.2
        have BX := hide ((((unhide BX).keep o4 (fun h => h)).keep o5 (fun e => by omega)).keep o6 (fun h => h))
        have OB := hide ((((unhide OB).keep o4 (fun h => h)).keep o5 (fun e => by omega)).keep o6 (fun h => h))
        have B0 := hide ((((unhide B0).keep o4 (fun h => h)).keep o5 (fun e => by omega)).keep o6 (fun h => h))
        have SHa := hide ((((unhide SHa).quiet o4).keep o5 (by omega) (by omega) (by omega)).quiet o6)
        have HW := hide ((((unhide HW).quiet o4).keep o5 (fun k hk e => by have := al k hk; omega)).quiet o6)
        have DK := hide (((((unhide HL).j.fv.dk.keep o4 (fun _ _ h => h)).keep o5 (fun k hk e => by have := (unhide HL).j.fv.Alt k (.inl hk); omega)).keep o6 (fun _ _ h => h)))
        have dkn : ∀ k, q.F k → ¬ wq.S k := fun k hk c => by
          have h1 := qS1 k c
          have h2 := (unhide HD).j.fv.Alt k (.inl hk)
          omega
        have HL := hide (unhide HM)
        clear HM C5 Z4 Z5 Z6 hH0 hHb hz o4 o5 o6 al kpm hlo z3 slt ult plt bm om gm qS1 wA HN HD s3 s4 s5 s6 s7 s8 s9 hbb hog hg0 se s2
        have c0 := (unhide BX).cell 0
        have c1 := (unhide BX).cell 1
        simp at c0 c1
        have CV := level_any ck (unhide HW) (unhide HL).j.za (unhide HL).j.sepS false
        unfold gbV at CV
        have CV := hide CV
        go_wp2_with fail
        refine (unhide CV).mono ?_
        rintro e v1 ⟨rfl, WV, oV⟩
        have LL := unhide HL
        have BX := hide ((unhide BX).keep oV (LL.nS (.inl (.inl rfl))))
        have OB := hide ((unhide OB).keep oV (LL.nS (.inl (.inr rfl))))
        have B0 := hide ((unhide B0).keep oV (LL.nS (.inr rfl)))
        have DK := hide ((unhide DK).keep oV (fun k hk c => dkn k hk c))
        have SHa := hide ((unhide SHa).keep oV nSa.1 nSa.2.1 nSa.2.2)
        have HL := hide (LL.look WV.fv oV)
        have HW := hide WV
        clear c0 c1 CV WV oV LL
        have c0 := (unhide BX).cell 0
        have c1 := (unhide BX).cell 1
        simp at c0 c1
        have CT := gsteps_any wq.p (unhide HL).j.fv.dk
        unfold gbV at CT
        have CT := hide CT
        have b9 : ((wq.recs.length : Int) != (wq.recs.length : Int)) = false := by simp
        go_wp2_with fail
        refine (unhide CT).mono ?_
        rintro e v2 ⟨rfl, oT⟩
        have HL := hide ((unhide HL).quiet oT)
        have HW := hide ((unhide HW).quiet oT)
        have SHa := hide ((unhide SHa).quiet oT)
        have BX := hide ((unhide BX).keep oT (fun h => h))
        have OB := hide ((unhide OB).keep oT (fun h => h))
        have B0 := hide ((unhide B0).keep oT (fun h => h))
        have DK := hide ((unhide DK).keep oT (fun _ _ h => h))
        clear c0 c1 CT oT
        have c0 := (unhide BX).cell 0
        have c1 := (unhide BX).cell 1
        simp at c0 c1
        have CK := look_any (unhide HW).fa
        unfold gbV at CK
        have CK := hide CK
        go_wp2_with fail
        refine (unhide CK).mono ?_
        rintro e v3 ⟨shb, ubb, pbb, rfl, Sh, g1, g2, g3, AK, oK⟩
        have nSb := And.intro ((unhide HW).nS g1) (And.intro ((unhide HW).nS g2) ((unhide HW).nS g3))
        have LL := unhide HL
        have BX := hide ((unhide BX).keep oK (LL.nS (.inl (.inl rfl))))
        have OB := hide ((unhide OB).keep oK (LL.nS (.inl (.inr rfl))))
        have B0 := hide ((unhide B0).keep oK (LL.nS (.inr rfl)))
        have DK := hide ((unhide DK).keep oK (fun k hk c => dkn k hk c))
        have HW := hide ((unhide HW).turn AK)
        have HL := hide (LL.look (unhide HW).fv oK)
        have SHb := hide Sh
        have SHa := hide ((unhide SHa).keep oK nSa.1 nSa.2.1 nSa.2.2)
        clear c0 c1 CK AK oK LL Sh g1 g2 g3
        have CS := hide (sameShot_any (unhide SHa) (unhide SHb))
        go_wp2_with fail
        refine (unhide CS).mono ?_
        rintro e v4 ⟨rfl, oS⟩
        have HL := hide ((unhide HL).quiet oS)
        have BX := hide ((unhide BX).keep oS (fun h => h))
        have OB := hide ((unhide OB).keep oS (fun h => h))
        have B0 := hide ((unhide B0).keep oS (fun h => h))
        have DK := hide ((unhide DK).keep oS (fun _ _ h => h))
        clear oS CS SHa SHb HW nSa nSb b9
        have HZ := hide (show LZ w.heap.size w bb (.pointer (some ⟨wq.f, 0, none⟩)) (.pointer (some ⟨z', 0, none⟩)) (.pointer (some ⟨zb', 0, none⟩)) v4 from ⟨wq, z', zb', _, _, _, _, _, _, _, _, _, rfl, rfl, rfl, unhide BX, (unhide HL).sub (fun k hk => .inl (.inl hk))⟩)
        clear BX HL OB B0 DK
        go_wp2_with fail
        go_roundw
        case rel => exact ⟨kk + 1, by omega, by go_num, unhide HZ⟩
        case measure => simp [intOf]; omega
      · have hcb : (ok == 15) = false := tne hcut
        have hcb2 : (ok != 15) = true := by simpa using hcut
        clear hcut
        have c0 := (unhide BX).cell 0
        have c1 := (unhide BX).cell 1
        simp at c0 c1
        have CM := gmark_any q.p (unhide HL).j.fv.dk
        unfold gbV at CM
        have CM := hide CM
        go_wp2_with fail
        refine (unhide CM).mono ?_
        rintro e wm ⟨rfl, hdm, hom⟩
        obtain ⟨Jm, nAm, Om, km⟩ := (unhide HL).marked hdm hom
        have bF := fun k (hk : k = bb ∨ k = og) (c : q.F k) => ((unhide HL).kp k hk).1 (.inl c)
        have BX := hide ((unhide BX).keep hom (bF bb (.inl rfl)))
        have OB := hide ((unhide OB).keep hom (bF og (.inr rfl)))
        clear c0 c1 CM k0
        generalize hqm : q.mark wa wm = qm at *
        have em : qm.d = q.d ∧ qm.p = q.p ∧ qm.f = q.f ∧ qm.base = qm.blk ∧ qm.recs = [] := by rw [← hqm]; exact ⟨rfl, rfl, rfl, rfl, rfl⟩
        obtain ⟨em1, em2, em3, em4, em5⟩ := em
        have BX := unhide BX
        rw [← em1, ← em2] at BX
        have BX := hide BX
        rw [← em3]
        clear hqm HL hdm hom bF nAm em1 em2 em3
        have C2 := hide (zmark_any Jm.za)
        have HJ := hide (And.intro Jm (And.intro km Om))
        go_wp2_with fail
        refine (unhide C2).mono ?_
        rintro e w2 ⟨rfl, Z2, o2⟩
        have zne : ∀ k, k = bb ∨ k = og → k ≠ z := fun k hk e => ((unhide HJ).2.1 k hk).2.1 (by rw [e]; exact (unhide HJ).1.za.hm)
        have BX := hide ((unhide BX).keep o2 (zne bb (.inl rfl)))
        have OB := hide ((unhide OB).keep o2 (zne og (.inr rfl)))
        have C3 := hide (zcloneW_any Z2)
        have HZ2 := hide (And.intro Z2 o2)
        clear C2 Jm km Om Z2 o2 zne
        go_wp2_with fail
        refine (unhide C3).mono ?_
        rintro e w3 ⟨zb', Hb', rfl, Z3, hHb, o3⟩
        have HB := hide (ZB.mk' (unhide HJ).1 (unhide HJ).2.1 (unhide HJ).2.2 (unhide HZ2).1 (unhide HZ2).2 Z3 hHb o3 em4 em5)
        have BX := hide ((unhide BX).keep o3 (fun h => h))
        have OB := hide ((unhide OB).keep o3 (fun h => h))
        clear C3 HJ HZ2 Z3 hHb o3 em4
        have C4 := hide (zintxn_any (unhide HB).b)
        go_wp2_with fail
        refine (unhide C4).mono ?_
        rintro e w4 ⟨rfl, rfl⟩
        have C5 := hide (play_anyB ck (unhide HB).j (by rw [em5]; simp) ok oa ob oc os ot)
        clear C4 em5
        have k0 := (unhide OB).cell 0
        have k1 := (unhide OB).cell 1
        have k2 := (unhide OB).cell 2
        have k3 := (unhide OB).cell 3
        have k4 := (unhide OB).cell 4
        have k5 := (unhide OB).cell 5
        simp at k0 k1 k2 k3 k4 k5
        go_wp2_with fail
        refine (unhide C5).mono ?_
        rintro e w5 ⟨rfl, q', op', S', T', hist', H', hst⟩
        have hn := (unhide HB).steps hst
        have HL := hide ((unhide HB).played hst)
        have nB : ∀ k, k = bb ∨ k = og → ¬ (qm.A k ∨ Ext H wm w2 k) := fun k hk c => c.elim ((unhide HB).kp k hk).1 ((unhide HB).kp k hk).2.1
        have BX := hide ((unhide BX).keep hst.o (nB bb (.inl rfl)))
        have OB := hide ((unhide OB).keep hst.o (nB og (.inr rfl)))
        have eq3 : q'.d = qm.d ∧ q'.p = qm.p ∧ q'.f = qm.f := by
          rcases hst.qs with e | ⟨rs, com, F', e, _⟩ <;> rw [e] <;> exact ⟨rfl, rfl, rfl⟩
        obtain ⟨eq1, eq2, eq3⟩ := eq3
        have BX := unhide BX
        rw [← eq1, ← eq2] at BX
        have BX := hide BX
        rw [← eq3]
        clear C5 nB hst HB eq1 eq2 eq3
        clear k0 k1 k2 k3 k4 k5
        have c0 := (unhide BX).cell 0
        have c1 := (unhide BX).cell 1
        simp at c0 c1
        have CT := gsteps_any q'.p (unhide HL).j.fv.dk
        unfold gbV at CT
        have CT := hide CT
        go_wp2_with fail
        refine (unhide CT).mono ?_
        rintro e w6 ⟨rfl, oT⟩
        have HL := hide ((unhide HL).quiet oT)
        have BX := hide ((unhide BX).keep oT (fun h => h))
        have OB := hide ((unhide OB).keep oT (fun h => h))
        clear c0 c1 CT oT
        have c0 := (unhide BX).cell 0
        have c1 := (unhide BX).cell 1
        simp at c0 c1
        obtain ⟨vw, WA⟩ := (unhide HL).j.fv.vw
        have HW := hide WA
        clear WA
        have CK := look_any (unhide HW).fa
        unfold gbV at CK
        have CK := hide CK
        go_wp2_with fail
        refine (unhide CK).mono ?_
        rintro e w7 ⟨sha, uba, pba, rfl, Sh, g1, g2, g3, AK, oK⟩
        have nSa := And.intro ((unhide HW).nS g1) (And.intro ((unhide HW).nS g2) ((unhide HW).nS g3))
        have LL := unhide HL
        have BX := hide ((unhide BX).keep oK (LL.nS (.inl rfl)))
        have OB := hide ((unhide OB).keep oK (LL.nS (.inr rfl)))
        have HW := hide ((unhide HW).turn AK)
        have HL := hide (LL.look (unhide HW).fv oK)
        have SHa := hide Sh
        clear c0 c1 CK AK oK LL Sh g1 g2 g3
        have CO := hide (oneStep_any q'.recs.length ok oa ob oc os ot op hn w7)
        have k0 := (unhide OB).cell 0
        have k1 := (unhide OB).cell 1
        have k2 := (unhide OB).cell 2
        have k3 := (unhide OB).cell 3
        have k4 := (unhide OB).cell 4
        have k5 := (unhide OB).cell 5
        simp at k0 k1 k2 k3 k4 k5
        clear hn
        go_wp2_with fail
        refine (unhide CO).mono ?_
        rintro e w8 ⟨rfl, oO⟩
        have HL := hide ((unhide HL).quiet oO)
        have HW := hide ((unhide HW).quiet oO)
        have SHa := hide ((unhide SHa).quiet oO)
        have BX := hide ((unhide BX).keep oO (fun h => h))
        have OB := hide ((unhide OB).keep oO (fun h => h))
        clear oO CO
        clear k0 k1 k2 k3 k4 k5
        have c0 := (unhide BX).cell 0
        have c1 := (unhide BX).cell 1
        simp at c0 c1
        have CV := level_any ck (unhide HW) (unhide HL).j.za (unhide HL).j.sepS false
        unfold gbV at CV
        have CV := hide CV
        go_wp2_with fail
        refine (unhide CV).mono ?_
        rintro e v1 ⟨rfl, WV, oV⟩
        have LL := unhide HL
        have BX := hide ((unhide BX).keep oV (LL.nS (.inl rfl)))
        have OB := hide ((unhide OB).keep oV (LL.nS (.inr rfl)))
        have SHa := hide ((unhide SHa).keep oV nSa.1 nSa.2.1 nSa.2.2)
        have HL := hide (LL.look WV.fv oV)
        have HW := hide WV
        clear c0 c1 CV WV oV LL
        have c0 := (unhide BX).cell 0
        have c1 := (unhide BX).cell 1
        simp at c0 c1
        have CT := gsteps_any q'.p (unhide HL).j.fv.dk
        unfold gbV at CT
        have CT := hide CT
        have b9 : ((q'.recs.length : Int) != (q'.recs.length : Int)) = false := by simp
        go_wp2_with fail
        refine (unhide CT).mono ?_
        rintro e v2 ⟨rfl, oT⟩
        have HL := hide ((unhide HL).quiet oT)
        have HW := hide ((unhide HW).quiet oT)
        have SHa := hide ((unhide SHa).quiet oT)
        have BX := hide ((unhide BX).keep oT (fun h => h))
        have OB := hide ((unhide OB).keep oT (fun h => h))
        clear c0 c1 CT oT
        have c0 := (unhide BX).cell 0
        have c1 := (unhide BX).cell 1
        simp at c0 c1
        have CK := look_any (unhide HW).fa
        unfold gbV at CK
        have CK := hide CK
        go_wp2_with fail
        refine (unhide CK).mono ?_
        rintro e v3 ⟨shb, ubb, pbb, rfl, Sh, g1, g2, g3, AK, oK⟩
        have nSb := And.intro ((unhide HW).nS g1) (And.intro ((unhide HW).nS g2) ((unhide HW).nS g3))
        have LL := unhide HL
        have BX := hide ((unhide BX).keep oK (LL.nS (.inl rfl)))
        have OB := hide ((unhide OB).keep oK (LL.nS (.inr rfl)))
        have HW := hide ((unhide HW).turn AK)
        have HL := hide (LL.look (unhide HW).fv oK)
        have SHb := hide Sh
        have SHa := hide ((unhide SHa).keep oK nSa.1 nSa.2.1 nSa.2.2)
        clear c0 c1 CK AK oK LL Sh g1 g2 g3
        have CS := hide (sameShot_any (unhide SHa) (unhide SHb))
        go_wp2_with fail
        refine (unhide CS).mono ?_
        rintro e v4 ⟨rfl, oS⟩
        have HL := hide ((unhide HL).quiet oS)
        have BX := hide ((unhide BX).keep oS (fun h => h))
        have OB := hide ((unhide OB).keep oS (fun h => h))
        clear oS CS SHa SHb HW nSa nSb b9
        have HZ := hide (show LZ w.heap.size w bb (.pointer (some ⟨q'.f, 0, none⟩)) (.pointer (some ⟨z, 0, none⟩)) (.pointer (some ⟨zb', 0, none⟩)) v4 from ⟨q', z, zb', _, _, _, _, _, _, _, _, _, rfl, rfl, rfl, unhide BX, (unhide HL).sub (fun k hk => .inl hk)⟩)
        clear BX HL OB
        go_wp2_with fail
        go_roundw
        case rel => exact ⟨kk + 1, by omega, by go_num, unhide HZ⟩
        case measure => simp [intOf]; omega
    · have hkI : decide ((kk : Int) < (len : Int)) = false := by simp; omega
      clear L BX
      by_cases hM : len < 4398046511104
      · have hM1 : decide ((len : Int) < 4398046511104) = true := by simp; omega
        go_wp2_with fail
        go_ret2
        exact ⟨⟨_, rfl⟩, hbel⟩
      · have hM1 : decide ((len : Int) < 4398046511104) = false := by simp; omega
        go_wp2_with fail
        go_ret2
        exact ⟨⟨_, rfl⟩, hbel⟩
end Go.Proofs.Qxb6500410aGreat
