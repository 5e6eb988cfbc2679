/-
  OWN WORK. THE TABLE LAW: walk. (tools/gen_ywk.py writes it.)
-/
import Derived.Test.Qxb6500413aGreatYK0
import Derived.Deep.DeepCutAuto
namespace Go.Proofs.Qxb6500413aGreat
open Go.RowKit Go.PlainAid
set_option linter.unusedSimpArgs false
set_option linter.unusedVariables false

set_option maxRecDepth 100000 in
set_option maxHeartbeats 16000000 in
theorem ywalkS_any (ad : Option Addr) (len cap : Nat) (ops : List OpD) (w : World) (hops : OpsAt w ad len ops) (hlen : len ≤ 4398046511104) :
    Calls Tryz.prog 9 #[.slice ad len cap, .bool true, .bool false] w fun e w' => (∃ n : Int, e = .returned (.tuple #[.int .i64 (-1), .int .i64 n])) ∧ Below w.heap.size w w' := by
  have C1 := hide (jground_any w)
  go_enter Tryz.func9, Tryz.ntmps9
  go_wp2_with fail
  refine (unhide C1).mono ?_
  rintro e w1 ⟨q0, rs, rfl, A1, cf1, hb1, hr1, ci1, hk1, hlo1, o1⟩
  clear C1
  unfold jbV jbC
  have alt1 := A1.Alt
  have KB : Has (w1.alloc (.cells (jbC q0.d q0.f) 30)) w1.heap.size (jbC q0.d q0.f) 30 := Has.new w1 _ _
  have o2 : Only (fun _ => False) w1 (w1.alloc (.cells (jbC q0.d q0.f) 30)) := (Only.refl _ w1).alloc _
  have A2 := A1.quiet o2
  have nkb : ¬ q0.A w1.heap.size := fun h => by have := alt1 _ h; omega
  have cu1 : CutX q0.base q0.recs (fun X => ComD X []) (fun X => ComD X []) := by
    rw [hb1, hr1]
    exact ci1.toX (by simp) A1.lcom ⟨_, comS_zero, .inr ⟨rfl, rfl⟩⟩ ⟨_, cf1.toS, .inr ⟨rfl, rfl⟩⟩
  have rc1 : q0.recs.length ≤ 300 := by have := ci1.short; rw [hr1]; omega
  have C2 := hide (enew_any A2 cf1 (.inr ⟨rfl, rfl⟩) cu1 (by rw [hb1, hr1]; exact hk1) rc1)
  have HK2 := hide (And.intro KB (And.intro nkb (And.intro (o1.trans o2 (fun _ _ e => e)) hlo1)))
  have zw := o1.size
  unfold jbC at C2 HK2
  clear A1 A2 cf1 hb1 hr1 ci1 hk1 o1 o2 KB nkb cu1 rc1 alt1 hlo1
  go_upto_region 2 with fail
  generalize w1.alloc (.cells #[.pointer (some ⟨q0.d, 0, none⟩), .pointer (some ⟨q0.f, 0, none⟩)] 30) = w2 at *
  generalize w1.heap.size = bb at *
  have y1 := (unhide HK2).1.cell 1
  simp at y1
  go_wp2_with fail
  refine (unhide C2).mono ?_
  rintro e w3 ⟨x, q, S', T', rfl, hx, st, la, hd, cf, cu, ed, ef, hA, o3⟩
  clear C2 y1
  have kb3 : Has w3 bb #[.pointer (some ⟨q.d, 0, none⟩), .pointer (some ⟨q.f, 0, none⟩)] 30 := by
    rw [ed, ef]
    exact (unhide HK2).1.keep o3 (fun h => (unhide HK2).2.1 (Gnd.D_A h))
  have zk := (unhide HK2).1.lt
  have z2 := (unhide HK2).2.2.1.size
  have z3 := o3.size
  have nk3 : ¬ q.A bb := fun h => by
    rcases hA bb h with c | c
    · exact (unhide HK2).2.1 c
    · omega
  have qlo : ∀ k, q.A k → w.heap.size ≤ k := fun k h => by
    rcases hA k h with c | c
    · exact (unhide HK2).2.2.2 k c
    · omega
  have on3 : Only (fun k => w.heap.size ≤ k) w w3 := ((unhide HK2).2.2.1.mono (fun _ _ e => e.elim)).trans o3 (fun k _ h => (unhide HK2).2.2.2 k (Gnd.D_A h))
  rw [← hd] at cu
  have HDD := hide hd
  have HS := hide (And.intro st (And.intro la (And.intro cf (And.intro cu (And.intro qlo (And.intro on3 nk3))))))
  have BX := hide kb3
  have C3 := hide (ynew_any w3)
  clear st la cf cu kb3 nk3 qlo on3 o3 hA HK2 ed ef hd
  go_wp2_with fail
  refine (unhide C3).mono ?_
  rintro e w4 ⟨z, H0, rfl, Z4, hH0, o4⟩
  have hz := Z4.hm
  have C4 := hide (ymark_any Z4)
  clear C3
  go_wp2_with fail
  refine (unhide C4).mono ?_
  rintro e w5 ⟨rfl, Z5, o5⟩
  rw [← unhide HDD] at Z5
  have C5 := hide (yclone_any Z5)
  clear C4 Z4
  go_wp2_with fail
  refine (unhide C5).mono ?_
  rintro e w6 ⟨zb, Hb, rfl, Z6, hHb, o6⟩
  have hz3 := hH0 z hz
  have BX := hide ((((unhide BX).keep o4 (fun h => h)).keep o5 (fun e => by omega)).keep o6 (fun h => h))
  have HL := hide (YLs.start (K := fun k => k = bb) (T1 := T') (unhide HS).1 (unhide HS).2.1 (unhide HS).2.2.1 (unhide HS).2.2.2.1 (unhide HS).2.2.2.2.1 (by omega) (unhide HS).2.2.2.2.2.1 (fun k hk => by rw [hk]; exact ⟨(unhide HS).2.2.2.2.2.2, by omega, by omega, by omega⟩) (by omega) hH0 hz o4 Z5 o5 Z6 hHb o6)
  clear C5 HS Z5 Z6 hH0 hHb hz o4 o5 o6 hz3 zw zk z2 z3 hx
  have c0 := (unhide BX).cell 0
  have c1 := (unhide BX).cell 1
  simp at c0 c1
  have CT := jsteps_any q.f (unhide HL).j.st.fv.dk
  unfold jbV jbC at CT
  have CT := hide CT
  go_wp2_with fail
  refine (unhide CT).mono ?_
  rintro e w7 ⟨rfl, oT⟩
  have HL := hide ((unhide HL).quiet oT)
  have BX := hide ((unhide BX).keep oT (fun h => h))
  clear c0 c1 CT oT
  have c0 := (unhide BX).cell 0
  have c1 := (unhide BX).cell 1
  simp at c0 c1
  have CK := ylook_any (unhide HL).j.st.fv
  unfold jbV jbC at CK
  have CK := hide CK
  go_wp2_with fail
  refine (unhide CK).mono ?_
  rintro e w8 ⟨sha, rfl, Sh, AK, oK⟩
  have LL := unhide HL
  have nSa := hide (fun k (hk : _ ≤ k) => LL.j.st.new (k := k) hk)
  have BX := hide ((unhide BX).keep oK (LL.nS rfl))
  have HL := hide (LL.look (LL.j.st.turn AK oK) oK)
  have SHa := hide Sh
  clear c0 c1 CK AK oK LL Sh
  have c0 := (unhide BX).cell 0
  have c1 := (unhide BX).cell 1
  simp at c0 c1
  have CV := level_any (unhide HL).j.st (unhide HL).j.la (unhide HL).j.za (unhide HL).j.sepS false
  unfold jbV jbC at CV
  have CV := hide CV
  go_wp2_with fail
  refine (unhide CV).mono ?_
  rintro e v1 ⟨bv, rfl, hbv, stV, oV⟩
  obtain rfl := hbv.mpr ⟨rfl, rfl⟩
  have LL := unhide HL
  have BX := hide ((unhide BX).keep oV (LL.nS rfl))
  have SHa := hide ((unhide SHa).keep oV (unhide nSa))
  have HL := hide (LL.look stV oV)
  clear c0 c1 CV stV oV LL hbv
  have c0 := (unhide BX).cell 0
  have c1 := (unhide BX).cell 1
  simp at c0 c1
  have CT := jsteps_any q.f (unhide HL).j.st.fv.dk
  unfold jbV jbC at CT
  have CT := hide CT
  have b9 : ((q.recs.length : Int) != (q.recs.length : Int)) = false := by simp
  have b9n : (q.recs.length != q.recs.length) = false := by simp
  go_wp2_with fail
  refine (unhide CT).mono ?_
  rintro e v2 ⟨rfl, oT⟩
  have HL := hide ((unhide HL).quiet oT)
  have SHa := hide ((unhide SHa).keep oT (fun _ _ h => h))
  have BX := hide ((unhide BX).keep oT (fun h => h))
  clear c0 c1 CT oT
  have c0 := (unhide BX).cell 0
  have c1 := (unhide BX).cell 1
  simp at c0 c1
  have CK := ylook_any (unhide HL).j.st.fv
  unfold jbV jbC at CK
  have CK := hide CK
  go_wp2_with fail
  refine (unhide CK).mono ?_
  rintro e v3 ⟨shb, rfl, Sh, AK, oK⟩
  have LL := unhide HL
  have BX := hide ((unhide BX).keep oK (LL.nS rfl))
  have HL := hide (LL.look (LL.j.st.turn AK oK) oK)
  have SHa := hide ((unhide SHa).keep oK (unhide nSa))
  have SHb := hide Sh
  clear c0 c1 CK AK oK LL Sh
  have CS := hide (ysameShot_any (unhide SHa) (unhide SHb))
  go_wp2_with fail
  refine (unhide CS).mono ?_
  rintro e v4 ⟨rfl, oS⟩
  have HL := hide ((unhide HL).quiet oS)
  have BX := hide ((unhide BX).keep oS (fun h => h))
  clear oS CS SHa SHb nSa b9 b9n
  have HZ := hide (show LY w.heap.size w bb (.pointer (some ⟨x, 0, none⟩)) (.pointer (some ⟨z, 0, none⟩)) (.pointer (some ⟨zb, 0, none⟩)) v4 from ⟨q, x, z, zb, _, _, _, _, _, _, _, _, _, _, rfl, rfl, rfl, unhide BX, unhide HL⟩)
  clear BX HL
  go_upto_region 16 with fail
  go_loopw [9, 10, 11, 15, 16, 17, 18, 19, 20, 21, 22, 23, 24, 25, 26, 27, 28, 29] (fun xv mv bv iv _ _ _ _ _ _ _ _ _ _ _ _ _ _ wr => ∃ kk : Nat, kk ≤ len ∧ iv = .int .i64 kk ∧ LY w.heap.size w bb xv mv bv wr) (fun _ _ _ iv _ _ _ _ _ _ _ _ _ _ _ _ _ _ _ => len - (intOf iv).toNat)
  case atStart => exact ⟨0, Nat.zero_le _, rfl, unhide HZ⟩
  case round =>
    clear HZ
    obtain ⟨kk, hk, rfl, q, x, z, zb, op, S, C, T, TC, U, PD, hist, H, Hb, rfl, rfl, rfl, BX, L⟩ := hrel
    have hbel := toBelY L.o
    by_cases hkl : kk < len
    · obtain ⟨hol, hoa⟩ := hops
      obtain ⟨ab, aoff, rfl, hcells⟩ := hoa (by omega)
      obtain ⟨y0, y1, y2, y3, y4, y5, hsz, hst⟩ := hcells kk (by omega)
      clear hcells hoa
      have hab : ab < w.heap.size := World.block_lt_of_cell? w ⟨ab, aoff + kk * 6, none⟩ y0
      rw [← hbel.cell (p := ⟨ab, aoff + kk * 6, none⟩) hab] at y0
      rw [← hbel.cell (p := ⟨ab, aoff + kk * 6 + 1, none⟩) hab] at y1
      rw [← hbel.cell (p := ⟨ab, aoff + kk * 6 + 2, none⟩) hab] at y2
      rw [← hbel.cell (p := ⟨ab, aoff + kk * 6 + 3, none⟩) hab] at y3
      rw [← hbel.cell (p := ⟨ab, aoff + kk * 6 + 4, none⟩) hab] at y4
      rw [← hbel.cell (p := ⟨ab, aoff + kk * 6 + 5, none⟩) hab] at y5
      generalize ops[kk]'(by omega) = oo at *
      obtain ⟨ok, oa, ob, oc, os, ot⟩ := oo
      simp only at y0 y1 y2 y3 y4 y5 hsz hst
      have hkI : (kk : Int) < (len : Int) := by omega
      have hkM : decide ((kk : Int) < 4398046511104) = true := by simp; omega
      have HST := hide hst
      have oo : Only (fun _ => False) wr (wr.alloc (.cells #[.int .i64 ok, .int .i64 oa, .int .i64 ob, .int .i64 oc, .string os, .string ot] 41)) := (Only.refl _ wr).alloc _
      have OB := hide (Has.new wr #[.int .i64 ok, .int .i64 oa, .int .i64 ob, .int .i64 oc, .string os, .string ot] 41)
      have HL := hide (L.add oo (g := wr.heap.size) (Nat.le_refl _) (by simp))
      have BX0 := BX
      have BX := hide (BX.keep oo (fun h => h))
      clear L hol hsz hst hbel oo
      have ogbb : wr.heap.size ≠ bb := fun e => by have := BX0.lt; omega
      go_upto_region 19 with fail
      generalize wr.alloc (.cells #[.int .i64 ok, .int .i64 oa, .int .i64 ob, .int .i64 oc, .string os, .string ot] 41) = wa at *
      generalize wr.heap.size = og at *
      clear BX0
      have k0 := (unhide OB).cell 0
      simp at k0
      by_cases hcut : ok = 16
      · subst hcut
        clear k0
        have HZ := hide (show LY w.heap.size w bb (.pointer (some ⟨x, 0, none⟩)) (.pointer (some ⟨z, 0, none⟩)) (.pointer (some ⟨zb, 0, none⟩)) wa from ⟨q, x, z, zb, _, _, _, _, _, _, _, _, _, _, rfl, rfl, rfl, unhide BX, (unhide HL).sub (fun k hk => .inl hk)⟩)
        have k0 := (unhide OB).cell 0
        simp at k0
        clear BX HL OB
        go_wp2_with fail
        go_roundw
        case rel => exact ⟨kk + 1, by omega, by go_num, unhide HZ⟩
        case measure => simp [intOf]; omega
      · have hcb : (ok == 16) = false := by simpa using hcut
        have hcb2 : (ok != 16) = true := by simpa using hcut
        clear hcut
        have c0 := (unhide BX).cell 0
        have c1 := (unhide BX).cell 1
        simp at c0 c1
        have CM := jmark_any q.f (unhide HL).j.st.fv.dk
        unfold jbV jbC at CM
        have CM := hide CM
        go_wp2_with fail
        refine (unhide CM).mono ?_
        rintro e wm ⟨rfl, hdm, hom⟩
        obtain ⟨Jm, Om, km⟩ := (unhide HL).marked hdm hom
        have bF := fun k (hk : k = bb ∨ k = og) (c : q.F k) => ((unhide HL).kp k hk).1 (.inl c)
        have BX := hide ((unhide BX).keep hom (bF bb (.inl rfl)))
        have OB := hide ((unhide OB).keep hom (bF og (.inr rfl)))
        clear c0 c1 CM k0
        generalize hqm : q.mark wa wm = qm at *
        have em : qm.d = q.d ∧ qm.f = q.f ∧ qm.base = qm.blk ∧ qm.recs = [] := by rw [← hqm]; exact ⟨rfl, rfl, rfl, rfl⟩
        obtain ⟨em1, em3, em4, em5⟩ := em
        have BX := unhide BX
        rw [← em1, ← em3] at BX
        have BX := hide BX
        clear hqm HL hdm hom bF em1 em3
        have C2 := hide (ymark_any Jm.za)
        have HJ := hide (And.intro Jm (And.intro km Om))
        go_wp2_with fail
        refine (unhide C2).mono ?_
        rintro e w2 ⟨rfl, Z2, o2⟩
        have zne : ∀ k, k = bb ∨ k = og → k ≠ z := fun k hk e => ((unhide HJ).2.1 k hk).2.1 (by rw [e]; exact (unhide HJ).1.za.hm)
        have BX := hide ((unhide BX).keep o2 (zne bb (.inl rfl)))
        have OB := hide ((unhide OB).keep o2 (zne og (.inr rfl)))
        have C3 := hide (yclone_any Z2)
        have HZ2 := hide (And.intro Z2 o2)
        clear C2 Jm km Om Z2 o2 zne
        go_wp2_with fail
        refine (unhide C3).mono ?_
        rintro e w3 ⟨zb', Hb', rfl, Z3, hHb, o3⟩
        have HB := hide (YB.mk' (unhide HJ).1 (unhide HJ).2.1 (unhide HJ).2.2 (unhide HZ2).1 (unhide HZ2).2 Z3 hHb o3 em4 em5)
        have BX := hide ((unhide BX).keep o3 (fun h => h))
        have OB := hide ((unhide OB).keep o3 (fun h => h))
        clear C3 HJ HZ2 Z3 hHb o3 em4
        have C5 := yplay_any (unhide HB).j (by rw [em5]; simp) ok oa ob oc os ot (unhide HST)
        unfold opA at C5
        have C5 := hide C5
        clear em5
        have k0 := (unhide OB).cell 0
        have k1 := (unhide OB).cell 1
        have k2 := (unhide OB).cell 2
        have k3 := (unhide OB).cell 3
        have k4 := (unhide OB).cell 4
        have k5 := (unhide OB).cell 5
        simp at k0 k1 k2 k3 k4 k5
        go_wp2_with fail
        refine (unhide C5).mono ?_
        rintro e w5 hyr
        obtain ⟨q', op', S', C', T', TC', hist', H', hL5, eq1, eq3, hn, oP⟩ := (unhide HB).played hyr
        obtain ⟨rfl, _⟩ := hyr
        have HN := hide hn
        have HL := hide hL5
        have nB : ∀ k, k = bb ∨ k = og → ¬ (qm.A k ∨ Ext H wm w2 k) := fun k hk c => c.elim ((unhide HB).kp k hk).1 ((unhide HB).kp k hk).2.1
        have BX := hide ((unhide BX).keep oP (nB bb (.inl rfl)))
        have OB := hide ((unhide OB).keep oP (nB og (.inr rfl)))
        have BX := unhide BX
        rw [← eq1, ← eq3] at BX
        have BX := hide BX
        have HBB := hide (show ∃ Zd Zt Zu, YAt w5 zb' Zd Zt Zu none op Hb' from ⟨_, _, _, (unhide HB).b.keep oP (fun k hk c => c.elim ((unhide HB).bs k hk).1 ((unhide HB).bs k hk).2.1)⟩)
        clear C5 nB hn HB eq1 eq3 hL5 oP
        clear k0 k1 k2 k3 k4 k5
        have c0 := (unhide BX).cell 0
        have c1 := (unhide BX).cell 1
        simp at c0 c1
        have CT := jsteps_any q'.f (unhide HL).j.st.fv.dk
        unfold jbV jbC at CT
        have CT := hide CT
        go_wp2_with fail
        refine (unhide CT).mono ?_
        rintro e w6 ⟨rfl, oT⟩
        have HL := hide ((unhide HL).quiet oT)
        have HBB := hide (by obtain ⟨Zd, Zt, Zu, h⟩ := unhide HBB; exact (⟨Zd, Zt, Zu, h.quiet oT⟩ : ∃ Zd Zt Zu, YAt w6 zb' Zd Zt Zu none op Hb'))
        have BX := hide ((unhide BX).keep oT (fun h => h))
        have OB := hide ((unhide OB).keep oT (fun h => h))
        clear c0 c1 CT oT
        have c0 := (unhide BX).cell 0
        have c1 := (unhide BX).cell 1
        simp at c0 c1
        have CK := ylook_any (unhide HL).j.st.fv
        unfold jbV jbC at CK
        have CK := hide CK
        go_wp2_with fail
        refine (unhide CK).mono ?_
        rintro e w7 ⟨sha, rfl, Sh, AK, oK⟩
        have LL := unhide HL
        have nSa := hide (fun k (hk : _ ≤ k) => LL.j.st.new (k := k) hk)
        have BX := hide ((unhide BX).keep oK (LL.nS (.inl rfl)))
        have OB := hide ((unhide OB).keep oK (LL.nS (.inr rfl)))
        have HBB := hide (by obtain ⟨Zd, Zt, Zu, h⟩ := unhide HBB; exact (⟨Zd, Zt, Zu, h.keep oK (fun k hk c => (LL.bs k hk).1 (Gnd.S_A c))⟩ : ∃ Zd Zt Zu, YAt w7 zb' Zd Zt Zu none op Hb'))
        have HL := hide (LL.look (LL.j.st.turn AK oK) oK)
        have SHa := hide Sh
        clear c0 c1 CK AK oK LL Sh
        obtain ⟨Zd, Zt, Zu, ZB7⟩ := unhide HBB
        have C4 := hide (yintxn_any ZB7)
        clear ZB7 HBB
        go_wp2_with fail
        refine (unhide C4).mono ?_
        rintro e w8 ⟨rfl, rfl⟩
        clear C4
        have CO := hide (oneStep_any q'.recs.length ok oa ob oc os ot op (by
          rcases unhide HN with h | ⟨h1, h2⟩
          · exact .inl h
          · unfold cmB at h1
            simp at h1
            exact .inr ⟨h1.1, h1.2, h2⟩) w7)
        have k0 := (unhide OB).cell 0
        have k1 := (unhide OB).cell 1
        have k2 := (unhide OB).cell 2
        have k3 := (unhide OB).cell 3
        have k4 := (unhide OB).cell 4
        have k5 := (unhide OB).cell 5
        simp at k0 k1 k2 k3 k4 k5
        clear HN
        go_wp2_with fail
        refine (unhide CO).mono ?_
        rintro e w8 ⟨rfl, oO⟩
        have HL := hide ((unhide HL).quiet oO)
        have SHa := hide ((unhide SHa).keep oO (fun _ _ h => h))
        have BX := hide ((unhide BX).keep oO (fun h => h))
        have OB := hide ((unhide OB).keep oO (fun h => h))
        clear oO CO
        clear k0 k1 k2 k3 k4 k5
        have c0 := (unhide BX).cell 0
        have c1 := (unhide BX).cell 1
        simp at c0 c1
        have CV := level_any (unhide HL).j.st (unhide HL).j.la (unhide HL).j.za (unhide HL).j.sepS false
        unfold jbV jbC at CV
        have CV := hide CV
        go_wp2_with fail
        refine (unhide CV).mono ?_
        rintro e v1 ⟨bv, rfl, hbv, stV, oV⟩
        obtain rfl := hbv.mpr ⟨rfl, rfl⟩
        have LL := unhide HL
        have BX := hide ((unhide BX).keep oV (LL.nS (.inl rfl)))
        have OB := hide ((unhide OB).keep oV (LL.nS (.inr rfl)))
        have SHa := hide ((unhide SHa).keep oV (unhide nSa))
        have HL := hide (LL.look stV oV)
        clear c0 c1 CV stV oV LL hbv
        have c0 := (unhide BX).cell 0
        have c1 := (unhide BX).cell 1
        simp at c0 c1
        have CT := jsteps_any q'.f (unhide HL).j.st.fv.dk
        unfold jbV jbC at CT
        have CT := hide CT
        have b9 : ((q'.recs.length : Int) != (q'.recs.length : Int)) = false := by simp
        have b9n : (q'.recs.length != q'.recs.length) = false := by simp
        go_wp2_with fail
        refine (unhide CT).mono ?_
        rintro e v2 ⟨rfl, oT⟩
        have HL := hide ((unhide HL).quiet oT)
        have SHa := hide ((unhide SHa).keep oT (fun _ _ h => h))
        have BX := hide ((unhide BX).keep oT (fun h => h))
        have OB := hide ((unhide OB).keep oT (fun h => h))
        clear c0 c1 CT oT
        have c0 := (unhide BX).cell 0
        have c1 := (unhide BX).cell 1
        simp at c0 c1
        have CK := ylook_any (unhide HL).j.st.fv
        unfold jbV jbC at CK
        have CK := hide CK
        go_wp2_with fail
        refine (unhide CK).mono ?_
        rintro e v3 ⟨shb, rfl, Sh, AK, oK⟩
        have LL := unhide HL
        have BX := hide ((unhide BX).keep oK (LL.nS (.inl rfl)))
        have OB := hide ((unhide OB).keep oK (LL.nS (.inr rfl)))
        have HL := hide (LL.look (LL.j.st.turn AK oK) oK)
        have SHa := hide ((unhide SHa).keep oK (unhide nSa))
        have SHb := hide Sh
        clear c0 c1 CK AK oK LL Sh
        have CS := hide (ysameShot_any (unhide SHa) (unhide SHb))
        go_wp2_with fail
        refine (unhide CS).mono ?_
        rintro e v4 ⟨rfl, oS⟩
        have HL := hide ((unhide HL).quiet oS)
        have BX := hide ((unhide BX).keep oS (fun h => h))
        have OB := hide ((unhide OB).keep oS (fun h => h))
        clear oS CS SHa SHb nSa b9 b9n
        have HZ := hide (show LY w.heap.size w bb (.pointer (some ⟨x, 0, none⟩)) (.pointer (some ⟨z, 0, none⟩)) (.pointer (some ⟨zb', 0, none⟩)) v4 from ⟨q', x, z, zb', _, _, _, _, _, _, _, _, _, _, rfl, rfl, rfl, unhide BX, (unhide HL).sub (fun k hk => .inl hk)⟩)
        clear BX HL OB
        go_wp2_with fail
        go_roundw
        case rel => exact ⟨kk + 1, by omega, by go_num, unhide HZ⟩
        case measure => simp [intOf]; omega
    · have hkI : decide ((kk : Int) < (len : Int)) = false := by simp; omega
      clear L BX
      by_cases hM : len < 4398046511104
      · have hM1 : decide ((len : Int) < 4398046511104) = true := by simp; omega
        go_wp2_with fail
        go_ret2
        exact ⟨⟨_, rfl⟩, hbel⟩
      · have hM1 : decide ((len : Int) < 4398046511104) = false := by simp; omega
        go_wp2_with fail
        go_ret2
        exact ⟨⟨_, rfl⟩, hbel⟩
end Go.Proofs.Qxb6500413aGreat
