/-
  OWN WORK. TXN, Keeps: the walk (written by tools/gen_xkw.py).
-/
import Derived.Test.Qxb6500414aGreatXKW0
namespace Go.Proofs.Qxb6500414aGreat
open Go.RowKit Go.PlainAid
set_option linter.unusedSimpArgs false
set_option linter.unusedVariables false

set_option maxRecDepth 100000 in
set_option maxHeartbeats 16000000 in
theorem xlkeepsUpTo_any (ad : Option Addr) (len cap : Nat) (ops : List OpD) (w : World) (hops : OpsAt w ad len ops) (hlen : len ≤ 4398046511104) :
    Calls Tryz.prog 8 #[.slice ad len cap] w fun e w' => e = .returned (.int .i64 (-1)) ∧ Below w.heap.size w w' := by
  have C1 := hide (xlground_any w)
  go_enter Tryz.func8, Tryz.ntmps8
  go_wp2_with fail
  refine (unhide C1).mono ?_
  rintro e w1 ⟨q, x, S, T, rfl, st, la, hd, cf, cu, hlo, o1⟩
  clear C1
  unfold jbV jbC
  have KBx : Has (w1.alloc (.cells (jbC q.d x) 30)) w1.heap.size (jbC q.d x) 30 := Has.new w1 _ _
  have o2 : Only (fun _ => False) w1 (w1.alloc (.cells (jbC q.d x) 30)) := (Only.refl _ w1).alloc _
  have alt := st.fv.Alt
  have xl := st.has.lt
  have s1 := o1.size
  have HS := hide (And.intro (st.quiet o2) (And.intro la (And.intro hd (And.intro cf (And.intro cu (And.intro hlo (And.intro (o1.trans o2 (fun _ _ e => e)) (And.intro alt (And.intro xl s1)))))))))
  have HKB := hide KBx
  unfold jbC at HKB HS
  clear st la hd cf cu hlo o1 o2 KBx alt xl s1
  go_upto_region 2 with fail
  generalize w1.alloc (.cells #[.pointer (some ⟨q.d, 0, none⟩), .pointer (some ⟨x, 0, none⟩)] 30) = w2 at *
  generalize hkb : w1.heap.size = kb at *
  have b1 : w2.cell? ⟨kb, 1, none⟩ = some (.pointer (some ⟨x, 0, none⟩)) := (unhide HKB).cell 1
  have kbl := (unhide HKB).lt
  have C2 := hide (xnew_any x w2)
  go_wp2_with fail
  refine (unhide C2).mono ?_
  rintro e w3 ⟨g, rfl, hg, xm, o3⟩
  clear C2 b1
  have s3 := o3.size
  have B3 : KB w.heap.size w3 kb q g x (Mu0 []) (fun k => k = g) [] := by
    obtain ⟨st, la, hd, cf, cu, hlo, o12, alt, xl, s1⟩ := unhide HS
    have ngA : ¬ q.A g := fun c => by have := alt g c; omega
    have ngx : g ≠ x := by omega
    have rx := RX.new (st.quiet o3) la cf xm ⟨ngA, ngx⟩
    rw [hd] at rx
    refine ⟨rx, (unhide HKB).keep o3 (fun e => e), ⟨fun c => (by have := alt kb c; omega), by omega, fun c => (by have c' : kb = g := c; omega)⟩, cu, fun k hk => ?_⟩
    rcases hk with c | c | c | c
    · exact hlo k (.inl c)
    · exact hlo k (.inr c)
    · have c' : k = g := c
      omega
    · omega
  have HB3 := hide B3
  have HO3 := hide ((unhide HS).2.2.2.2.2.2.1.trans o3 (fun _ _ e => e))
  obtain ⟨rn, hrn⟩ : ∃ r, q.recs.length = r := ⟨_, rfl⟩
  have Hrn := hide hrn
  clear HS HKB o3 xm s3 hg hkb kbl B3 hrn
  have kx := (unhide HB3).bx
  unfold jbC at kx
  have b0 : w3.cell? ⟨kb, 0, none⟩ = some (.pointer (some ⟨q.d, 0, none⟩)) := kx.cell 0
  have b1 : w3.cell? ⟨kb, 1, none⟩ = some (.pointer (some ⟨x, 0, none⟩)) := kx.cell 1
  have kbl := kx.lt
  clear kx
  have CS := xlsteps_any x (unhide HB3).rx.dk
  unfold jbV jbC at CS
  rw [unhide Hrn] at CS
  have CS := hide CS
  go_wp2_with fail
  refine (unhide CS).mono ?_
  rintro e w4 ⟨rfl, o4⟩
  clear CS b0 b1 kbl
  have B4 := (unhide HB3).quiet o4
  have ml := B4.rx.Alt
  have CL := hide (xllook_any B4.rx)
  have HO4 := hide ((unhide HO3).trans o4 (fun _ _ e => e))
  have HB4 := hide B4
  clear o4 B4 HB3 HO3 ml
  go_wp2_with fail
  refine (unhide CL).mono ?_
  rintro e w5 ⟨k1, rfl, hk1, sh5, R5, o5⟩
  have B5 := (unhide HB4).obs R5 o5
  have ok1 := R5.mu
  have mk1 := R5.muk
  have CM := hide (xlsmall_any sh5 ok1.mub (ok1.mus mk1.1 mk1.2))
  obtain ⟨na, nc, c0, _⟩ := sh5.names
  have c0 : w5.cell? ⟨k1, 0, none⟩ = some (.slice na 0 nc) := c0
  have kl := sh5.lt
  have HB5 := hide B5
  have HX5 := hide (And.intro hk1 (And.intro sh5 (And.intro o5 ok1)))
  clear CL sh5 R5 o5 B5 mk1 ok1 hk1
  go_wp2_with fail
  refine (unhide CM).mono ?_
  rintro e w6 ⟨rfl, o6⟩
  have HB6 := hide ((unhide HB5).quiet o6)
  have HO6 := hide o6
  clear CM o6 c0 kl
  have kx := (unhide HB6).bx
  unfold jbC at kx
  have b0 : w6.cell? ⟨kb, 0, none⟩ = some (.pointer (some ⟨q.d, 0, none⟩)) := kx.cell 0
  have b1 : w6.cell? ⟨kb, 1, none⟩ = some (.pointer (some ⟨x, 0, none⟩)) := kx.cell 1
  have kbl := kx.lt
  clear kx
  have CS := xlsteps_any x (unhide HB6).rx.dk
  unfold jbV jbC at CS
  rw [unhide Hrn] at CS
  have CS := hide CS
  go_wp2_with fail
  refine (unhide CS).mono ?_
  rintro e w7 ⟨rfl, o7⟩
  clear CS b0 b1 kbl
  have r0 : ((rn : Int) != (rn : Int)) = false := by simp
  have HL : Hid (KWL w kb (.pointer (some ⟨g, 0, none⟩)) (.int .i64 (rn : Int)) (.pointer (some ⟨k1, 0, none⟩)) (.pointer (some ⟨k1, 0, none⟩)) w7) := hide (by
    obtain ⟨hk1, sh5, o5, ok1⟩ := unhide HX5
    have o67 := (unhide HO6).trans o7 (fun _ _ e => e)
    have sh7 := sh5.quiet o67
    have B4 := unhide HB4
    have kbl4 := B4.bx.lt
    refine ⟨q, g, x, Mu0 [], _, Mu0 [], k1, k1, w4.heap.size, w4.heap.size, rfl, by rw [unhide Hrn], rfl, rfl, (unhide HB6).quiet o7, sh7, ok1, kbl4, sh7, kbl4, fun b hb => ⟨fun c => ?_, fun c => ?_, fun c => ?_⟩, ?_⟩
    · have := B4.ltA b (.inl c); omega
    · have := B4.ltA b (.inr (.inl c)); omega
    · have := B4.ltA b (.inr (.inr (.inl c))); omega
    · exact (((unhide HO4).mono (T := fun k => w.heap.size ≤ k) (fun _ _ e => e.elim)).trans o5 (fun b _ c => B4.lo b (.inl (Gnd.S_A c)))).trans (o67.mono (fun _ _ e => e.elim)) (fun _ _ e => e))
  clear HB4 HB5 HB6 HX5 HO4 HO6 o7 Hrn
  go_upto_region 11 with fail
  clear r0
  go_loopw [4, 5, 6, 7, 8, 9, 10, 11, 12, 13, 14] (fun xv nv pv p0 iv _ _ _ _ _ _ wr => ∃ kk : Nat, kk ≤ len ∧ iv = .int .i64 kk ∧ KWL w kb xv nv pv p0 wr) (fun _ _ _ _ iv _ _ _ _ _ _ _ => len - (intOf iv).toNat)
  case atStart => exact ⟨0, Nat.zero_le _, rfl, unhide HL⟩
  case round =>
    clear HL
    obtain ⟨kk, hk, rfl, HL⟩ := hrel
    obtain ⟨q, g, x, M, K, M0, k0, k1, l0, l1, rfl, rfl, rfl, rfl, B, sh0, ok0, hl0, sh1, hl1, far, oW⟩ := HL
    have hbel : Below w.heap.size w wr := Only.bel (Below.refl _ _) oW (fun _ h => h)
    obtain ⟨rn, hrn⟩ : ∃ r, q.recs.length = r := ⟨_, rfl⟩
    rw [hrn]
    have Hrn := hide hrn
    clear hrn
    by_cases hkl : kk < len
    · obtain ⟨hol, hoa⟩ := hops
      obtain ⟨ab, aoff, rfl, hcells⟩ := hoa (by omega)
      obtain ⟨y0, y1, y2, y3, y4, y5, hsz, hst⟩ := hcells kk (by omega)
      clear hcells hoa
      have hab : ab < w.heap.size := World.block_lt_of_cell? w ⟨ab, aoff + kk * 6, none⟩ y0
      rw [← hbel.cell (p := ⟨ab, aoff + kk * 6, none⟩) hab] at y0
      rw [← hbel.cell (p := ⟨ab, aoff + kk * 6 + 1, none⟩) hab] at y1
      rw [← hbel.cell (p := ⟨ab, aoff + kk * 6 + 2, none⟩) hab] at y2
      rw [← hbel.cell (p := ⟨ab, aoff + kk * 6 + 3, none⟩) hab] at y3
      rw [← hbel.cell (p := ⟨ab, aoff + kk * 6 + 4, none⟩) hab] at y4
      rw [← hbel.cell (p := ⟨ab, aoff + kk * 6 + 5, none⟩) hab] at y5
      generalize ops[kk]'(by omega) = oo at *
      obtain ⟨ok, oa, ob, oc, os, ot⟩ := oo
      simp only at y0 y1 y2 y3 y4 y5 hsz hst
      have hkI : (kk : Int) < (len : Int) := by omega
      have hkD : decide ((kk : Int) < (len : Int)) = true := decide_eq_true hkI
      have hkM : decide ((kk : Int) < 4398046511104) = true := by simp; omega
      have oo : Only (fun _ => False) wr (wr.alloc (.cells #[.int .i64 ok, .int .i64 oa, .int .i64 ob, .int .i64 oc, .string os, .string ot] 44)) := (Only.refl _ wr).alloc _
      have HAO := hide (Has.new wr #[.int .i64 ok, .int .i64 oa, .int .i64 ob, .int .i64 oc, .string os, .string ot] 44)
      have HW := hide (And.intro (B.quiet oo) (And.intro (oW.trans (oo.mono (fun _ _ e => e.elim)) (fun _ _ e => e)) hst))
      have HS0 := hide (And.intro (sh0.quiet oo) (And.intro ok0 hl0))
      have HS1 := hide (And.intro (sh1.quiet oo) (And.intro hl1 far))
      have HF := hide (show (∀ k, q.A k ∨ k = x ∨ K k ∨ k = kb → k < wr.heap.size) from B.ltA)
      have Hk1 := hide (show k1 < wr.heap.size from sh1.lt)
      have hbl := oW.size
      clear B oW hol hsz hst oo hbel sh0 ok0 hl0 sh1 hl1 far
      by_cases hten : ok = 18
      · subst hten
        go_upto_region 26 with fail
        generalize wr.alloc (.cells #[.int .i64 18, .int .i64 oa, .int .i64 ob, .int .i64 oc, .string os, .string ot] 44) = w1 at *
        generalize hbo : wr.heap.size = bo at *
        clear y0 y1 y2 y3 y4 y5
        obtain ⟨X, D, lX, hX, hCD, hor, hfoot, hwork⟩ := (unhide HW).1.pick oa
        obtain ⟨Sx, hSx, hDx⟩ := id hCD
        have CA := xlafter_any x oa (unhide HW).1.rx.dk (unhide HW).1.cu lX hX hCD hSx hDx
        unfold jbV jbC at CA
        have CA := hide CA
        rw [unhide Hrn] at hwork
        have HD := hide (And.intro hor (And.intro hfoot hwork))
        clear lX hX hCD hSx hDx hor hfoot hwork hbo
        have kx := (unhide HW).1.bx
        unfold jbC at kx
        have b0 : w1.cell? ⟨kb, 0, none⟩ = some (.pointer (some ⟨q.d, 0, none⟩)) := kx.cell 0
        have b1 : w1.cell? ⟨kb, 1, none⟩ = some (.pointer (some ⟨x, 0, none⟩)) := kx.cell 1
        have a1 : w1.cell? ⟨bo, 1, none⟩ = some (.int .i64 oa) := (unhide HAO).cell 1
        have kbl := kx.lt
        have bol := (unhide HAO).lt
        have lkb := (unhide HW).1.lo kb (.inr (.inr (.inr rfl)))
        have zw := (unhide HW).2.1.size
        have kbo : bo ≠ kb := fun c => by have := unhide HF kb (.inr (.inr (.inr rfl))); omega
        have HKX := hide kx
        clear kx
        go_wp2_with fail
        refine (unhide CA).mono ?_
        rintro e w2 ⟨q2, x2, S2, T2, rfl, st2, la2, hd2, cf2, cu2, hlo2, o2⟩
        clear CA b0 b1 a1
        have kk2 := (unhide HKX).keep o2 (fun e => e)
        have alt2 := st2.fv.Alt
        have xl2 := st2.has.lt
        have z2 := o2.size
        have c0 : w2.cell? ⟨kb, 0, none⟩ = some (.pointer (some ⟨q.d, 0, none⟩)) := kk2.cell 0
        have c1 : w2.cell? ⟨kb, 1, none⟩ = some (.pointer (some ⟨x, 0, none⟩)) := kk2.cell 1
        have f0 := kk2.free 0
        have f1 := kk2.free 1
        have kbl2 := kk2.lt
        have o3 : Only (fun k => k = kb) w2 ((w2.setCell ⟨kb, 0, none⟩ (.pointer (some ⟨q2.d, 0, none⟩))).setCell ⟨kb, 1, none⟩ (.pointer (some ⟨x2, 0, none⟩))) := (only1 (p := kb) _ _).trans (only1 (p := kb) _ _) (fun _ _ h => h)
        have k3 : Has ((w2.setCell ⟨kb, 0, none⟩ (.pointer (some ⟨q2.d, 0, none⟩))).setCell ⟨kb, 1, none⟩ (.pointer (some ⟨x2, 0, none⟩))) kb (jbC q2.d x2) 30 := (kk2.setCell 0 _).setCell 1 _
        have st3 := st2.keep o3 (fun k hk c => by
          have c' : k = kb := c
          have h1 := hlo2 k hk
          omega)
        have on3 := ((unhide HW).2.1.trans (o2.mono (fun _ _ e => e.elim)) (fun _ _ e => e)).trans o3 (fun k _ c => by have c' : k = kb := c; omega)
        have HoT := hide (show Only (fun k => k = kb) w1 ((w2.setCell ⟨kb, 0, none⟩ (.pointer (some ⟨q2.d, 0, none⟩))).setCell ⟨kb, 1, none⟩ (.pointer (some ⟨x2, 0, none⟩))) from (o2.mono (fun _ _ e => e.elim)).trans o3 (fun _ _ e => e))
        have z3 := o3.size
        have HS := hide (And.intro st3 (And.intro la2 (And.intro hd2 (And.intro cf2 (And.intro cu2 (And.intro hlo2 (And.intro k3 (And.intro on3 (And.intro alt2 xl2)))))))))
        unfold jbV jbC
        clear st2 la2 hd2 cf2 cu2 hlo2 o2 kk2 alt2 xl2 o3 k3 st3 on3 HKX
        go_upto_region 27 with fail
        generalize (w2.setCell ⟨kb, 0, none⟩ (.pointer (some ⟨q2.d, 0, none⟩))).setCell ⟨kb, 1, none⟩ (.pointer (some ⟨x2, 0, none⟩)) = w3 at *
        clear c0 c1 f0 f1
        have b1 : w3.cell? ⟨kb, 1, none⟩ = some (.pointer (some ⟨x2, 0, none⟩)) := (unhide HS).2.2.2.2.2.2.1.cell 1
        have C3 := hide (xopen_any x2 w3)
        go_wp2_with fail
        refine (unhide C3).mono ?_
        rintro e w4 ⟨g3, rfl, hg3, xm3, o4⟩
        clear C3 b1
        have z4 := o4.size
        have B4 : KB w.heap.size w4 kb q2 g3 x2 (Mu0 D) (fun k => k = g3) D := by
          obtain ⟨st3, la2, hd2, cf2, cu2, hlo2, k3, on3, alt2, xl2⟩ := unhide HS
          have rx := RX.new (st3.quiet o4) la2 cf2 xm3 ⟨fun c => (by have := alt2 g3 c; omega), by omega⟩
          rw [hd2] at rx
          refine ⟨rx, k3.keep o4 (fun e => e), ⟨fun c => (by have := hlo2 kb (.inl c); omega), fun c => (by have := hlo2 kb (.inr c); omega), fun c => (by have c' : kb = g3 := c; omega)⟩, cu2, fun k hk => ?_⟩
          rcases hk with c | c | c | c
          · have := hlo2 k (.inl c); omega
          · have := hlo2 k (.inr c); omega
          · have c' : k = g3 := c
            omega
          · omega
        have HB4 := hide B4
        have HO4 := hide ((unhide HS).2.2.2.2.2.2.2.1.trans (o4.mono (fun _ _ e => e.elim)) (fun _ _ e => e))
        have HoT4 := hide ((unhide HoT).trans (o4.mono (T := fun k => k = kb) (fun _ _ e => e.elim)) (fun _ _ e => e))
        obtain ⟨rm, hrm⟩ : ∃ r, q2.recs.length = r := ⟨_, rfl⟩
        have Hrm := hide hrm
        have Hlo2 := hide (unhide HS).2.2.2.2.2.1
        clear HS HoT o4 xm3 B4 hrm
        have kx := (unhide HB4).bx
        unfold jbC at kx
        have b0 : w4.cell? ⟨kb, 0, none⟩ = some (.pointer (some ⟨q2.d, 0, none⟩)) := kx.cell 0
        have b1 : w4.cell? ⟨kb, 1, none⟩ = some (.pointer (some ⟨x2, 0, none⟩)) := kx.cell 1
        have kbl := kx.lt
        clear kx
        have CS := xlsteps_any x2 (unhide HB4).rx.dk
        unfold jbV jbC at CS
        rw [unhide Hrm] at CS
        have CS := hide CS
        go_wp2_with fail
        refine (unhide CS).mono ?_
        rintro e w5 ⟨rfl, o5⟩
        clear CS b0 b1 kbl
        have B5 := (unhide HB4).quiet o5
        have CL := hide (xllook_any B5.rx)
        have HB5 := hide B5
        have s5 := o5.size
        have HO5 := hide ((unhide HO4).trans (o5.mono (fun _ _ e => e.elim)) (fun _ _ e => e))
        have HoT5 := hide ((unhide HoT4).trans (o5.mono (T := fun k => k = kb) (fun _ _ e => e.elim)) (fun _ _ e => e))
        clear o5 B5 HB4 HO4 HoT4
        go_wp2_with fail
        refine (unhide CL).mono ?_
        rintro e w6 ⟨kq, rfl, hkq, sh6, R6, o6⟩
        have B6 := (unhide HB5).obs R6 o6
        have okq := R6.mu
        have mkq := R6.muk
        have oT6 : Only (fun k => k = kb) w1 w6 := (unhide HoT5).trans o6 (fun b hb c => by have := unhide Hlo2 b (.inl (Gnd.S_A c)); omega)
        have on6 := (unhide HO5).trans o6 (fun b _ c => (unhide HB5).lo b (.inl (Gnd.S_A c)))
        have HB6 := hide B6
        have HQ6 := hide (And.intro sh6 (And.intro okq (And.intro mkq (And.intro on6 (And.intro oT6 (And.intro hkq (unhide HB5).ltA))))))
        clear CL R6 o6 B6 okq mkq sh6 oT6 on6 hkq HB5 HO5 HoT5
        have kx := (unhide HB6).bx
        unfold jbC at kx
        have b0 : w6.cell? ⟨kb, 0, none⟩ = some (.pointer (some ⟨q2.d, 0, none⟩)) := kx.cell 0
        have b1 : w6.cell? ⟨kb, 1, none⟩ = some (.pointer (some ⟨x2, 0, none⟩)) := kx.cell 1
        have kbl := kx.lt
        clear kx
        have CS := xlsteps_any x2 (unhide HB6).rx.dk
        unfold jbV jbC at CS
        rw [unhide Hrm] at CS
        have CS := hide CS
        go_wp2_with fail
        refine (unhide CS).mono ?_
        rintro e w7 ⟨rfl, o7⟩
        clear CS b0 b1 kbl
        have r0 : ((rm : Int) != (rm : Int)) = false := by simp
        have oT7 := (unhide HQ6).2.2.2.2.1.trans (o7.mono (T := fun k => k = kb) (fun _ _ e => e.elim)) (fun _ _ e => e)
        have sp0 := (unhide HS0).1.keepB oT7 (fun b hb _ c => by have c' : b = kb := c; have := (unhide HS0).2.2; omega)
        have sp1 := (unhide HS1).1.keepB oT7 (fun b hb _ c => by have c' : b = kb := c; have := (unhide HS1).2.1; omega)
        have sq := (unhide HQ6).1.quiet o7
        have CL := hide (xllasts_any (sp0.mono (Nat.zero_le _)) (sq.mono (Nat.zero_le _)) (unhide HS0).2.1 (unhide HQ6).2.1.mub)
        have HX7 := hide (And.intro sp0 (And.intro sp1 (And.intro sq (And.intro oT7 o7))))
        clear oT7 sp0 sp1 sq o7
        go_wp2_with fail
        refine (unhide CL).mono ?_
        rintro e w8 ⟨t0, rfl, ht0, o8⟩
        have CL2 := hide (xllasts_any (((unhide HX7).2.1.quiet o8).mono (Nat.zero_le _)) (((unhide HX7).2.2.1.quiet o8).mono (Nat.zero_le _)) (unhide HW).1.rx.mu (unhide HQ6).2.1.mub)
        have HT0 := hide ht0
        have HO8 := hide o8
        clear CL ht0 o8
        go_wp2_with fail
        refine (unhide CL2).mono ?_
        rintro e w9 ⟨t1, rfl, ht1, o9⟩
        have o89 := (unhide HO8).trans o9 (fun _ _ e => e)
        have CY := hide (xlsmall_any ((unhide HX7).2.2.1.quiet o89) (unhide HQ6).2.1.mub ((unhide HQ6).2.1.mus (unhide HQ6).2.2.1.1 (unhide HQ6).2.2.1.2))
        have HO9 := hide o89
        have HT1 := hide ht1
        clear CL2 ht1 o9 o89 HO8
        go_wp2_with fail
        refine (unhide CY).mono ?_
        rintro e w10 ⟨rfl, o10⟩
        have o710 := (unhide HO9).trans o10 (fun _ _ e => e)
        have AO10 := (unhide HAO).keep ((unhide HX7).2.2.2.1.trans (o710.mono (T := fun k => k = kb) (fun _ _ e => e.elim)) (fun _ _ e => e)) kbo
        have a1 : w10.cell? ⟨bo, 1, none⟩ = some (.int .i64 oa) := AO10.cell 1
        have bol10 := AO10.lt
        have HL := hide (show KWL w kb (.pointer (some ⟨g3, 0, none⟩)) (.int .i64 (rm : Int)) (.pointer (some ⟨kq, 0, none⟩)) (.pointer (some ⟨kq, 0, none⟩)) w10 from by
          have o610 := (unhide HX7).2.2.2.2.trans o710 (fun _ _ e => e)
          have sq := (unhide HQ6).1.quiet o610
          have ltA := (unhide HQ6).2.2.2.2.2.2
          have kbl5 := ltA kb (.inr (.inr (.inr rfl)))
          exact ⟨q2, g3, x2, Mu0 D, _, Mu0 D, kq, kq, w5.heap.size, w5.heap.size, rfl, by rw [unhide Hrm], rfl, rfl, (unhide HB6).quiet o610, sq, (unhide HQ6).2.1, kbl5, sq, kbl5, fun b hb => ⟨fun c => (by have := ltA b (.inl c); omega), fun c => (by have := ltA b (.inr (.inl c)); omega), fun c => (by have := ltA b (.inr (.inr (.inl c))); omega)⟩, (unhide HQ6).2.2.2.1.trans (o610.mono (fun _ _ e => e.elim)) (fun _ _ e => e)⟩)
        have hA : oa ≤ 0 → t0 = true := fun h => unhide HT0 ((unhide HD).2.1 h)
        have hB : (rn : Int) ≤ oa → t1 = true := fun h => unhide HT1 ((unhide HD).2.2 h)
        have hC : t0 = true ∨ t1 = true := (unhide HD).1.imp (unhide HT0) (unhide HT1)
        clear CY o10 o710 AO10 HX7 HQ6 HB6 HO9 HT0 HT1 HD HS0 HS1 HW HAO HF Hk1
        cases t0 with
        | true =>
          cases t1 with
          | true =>
            by_cases h0 : oa ≤ 0
            · by_cases hn : (rn : Int) ≤ oa
              · have d1 : decide (oa ≤ 0) = true := decide_eq_true (by omega)
                have d2 : decide (oa ≥ (rn : Int)) = true := decide_eq_true (by omega)
                have d3 : decide ((rn : Int) ≤ oa) = true := decide_eq_true (by omega)
                clear hA hB hC h0 hn
                go_wp2_with fail
                go_roundw
                case rel => exact ⟨kk + 1, by omega, by go_num, unhide HL⟩
                case measure => simp [intOf]; omega
              · have d1 : decide (oa ≤ 0) = true := decide_eq_true (by omega)
                have d2 : decide (oa ≥ (rn : Int)) = false := decide_eq_false (by omega)
                have d3 : decide ((rn : Int) ≤ oa) = false := decide_eq_false (by omega)
                clear hA hB hC h0 hn
                go_wp2_with fail
                go_roundw
                case rel => exact ⟨kk + 1, by omega, by go_num, unhide HL⟩
                case measure => simp [intOf]; omega
            · by_cases hn : (rn : Int) ≤ oa
              · have d1 : decide (oa ≤ 0) = false := decide_eq_false (by omega)
                have d2 : decide (oa ≥ (rn : Int)) = true := decide_eq_true (by omega)
                have d3 : decide ((rn : Int) ≤ oa) = true := decide_eq_true (by omega)
                clear hA hB hC h0 hn
                go_wp2_with fail
                go_roundw
                case rel => exact ⟨kk + 1, by omega, by go_num, unhide HL⟩
                case measure => simp [intOf]; omega
              · have d1 : decide (oa ≤ 0) = false := decide_eq_false (by omega)
                have d2 : decide (oa ≥ (rn : Int)) = false := decide_eq_false (by omega)
                have d3 : decide ((rn : Int) ≤ oa) = false := decide_eq_false (by omega)
                clear hA hB hC h0 hn
                go_wp2_with fail
                go_roundw
                case rel => exact ⟨kk + 1, by omega, by go_num, unhide HL⟩
                case measure => simp [intOf]; omega
          | false =>
            by_cases h0 : oa ≤ 0
            · by_cases hn : (rn : Int) ≤ oa
              · exact absurd (hB hn) (by decide)
              · have d1 : decide (oa ≤ 0) = true := decide_eq_true (by omega)
                have d2 : decide (oa ≥ (rn : Int)) = false := decide_eq_false (by omega)
                have d3 : decide ((rn : Int) ≤ oa) = false := decide_eq_false (by omega)
                clear hA hB hC h0 hn
                go_wp2_with fail
                go_roundw
                case rel => exact ⟨kk + 1, by omega, by go_num, unhide HL⟩
                case measure => simp [intOf]; omega
            · by_cases hn : (rn : Int) ≤ oa
              · exact absurd (hB hn) (by decide)
              · have d1 : decide (oa ≤ 0) = false := decide_eq_false (by omega)
                have d2 : decide (oa ≥ (rn : Int)) = false := decide_eq_false (by omega)
                have d3 : decide ((rn : Int) ≤ oa) = false := decide_eq_false (by omega)
                clear hA hB hC h0 hn
                go_wp2_with fail
                go_roundw
                case rel => exact ⟨kk + 1, by omega, by go_num, unhide HL⟩
                case measure => simp [intOf]; omega
        | false =>
          cases t1 with
          | true =>
            by_cases h0 : oa ≤ 0
            · exact absurd (hA h0) (by decide)
            · by_cases hn : (rn : Int) ≤ oa
              · have d1 : decide (oa ≤ 0) = false := decide_eq_false (by omega)
                have d2 : decide (oa ≥ (rn : Int)) = true := decide_eq_true (by omega)
                have d3 : decide ((rn : Int) ≤ oa) = true := decide_eq_true (by omega)
                clear hA hB hC h0 hn
                go_wp2_with fail
                go_roundw
                case rel => exact ⟨kk + 1, by omega, by go_num, unhide HL⟩
                case measure => simp [intOf]; omega
              · have d1 : decide (oa ≤ 0) = false := decide_eq_false (by omega)
                have d2 : decide (oa ≥ (rn : Int)) = false := decide_eq_false (by omega)
                have d3 : decide ((rn : Int) ≤ oa) = false := decide_eq_false (by omega)
                clear hA hB hC h0 hn
                go_wp2_with fail
                go_roundw
                case rel => exact ⟨kk + 1, by omega, by go_num, unhide HL⟩
                case measure => simp [intOf]; omega
          | false =>
            exact absurd hC (by decide)
      · have b18 : (ok != 18) = true := by simpa using hten
        clear hten
        go_upto_region 15 with fail
        generalize wr.alloc (.cells #[.int .i64 ok, .int .i64 oa, .int .i64 ob, .int .i64 oc, .string os, .string ot] 44) = w1 at *
        generalize hbo : wr.heap.size = bo at *
        clear hbo y0 y1 y2 y3 y4 y5 b18
        have CM := xlmark_any x (unhide HW).1.rx.dk
        unfold jbV jbC at CM
        have CM := hide CM
        have kx := (unhide HW).1.bx
        unfold jbC at kx
        have b0 : w1.cell? ⟨kb, 0, none⟩ = some (.pointer (some ⟨q.d, 0, none⟩)) := kx.cell 0
        have b1 : w1.cell? ⟨kb, 1, none⟩ = some (.pointer (some ⟨x, 0, none⟩)) := kx.cell 1
        have kbl := kx.lt
        clear kx
        go_wp2_with fail
        refine (unhide CM).mono ?_
        rintro e w2 ⟨rfl, hd2, o2⟩
        clear CM b0 b1 kbl
        have W2 := (unhide HW).1.mark hd2 o2
        have nbo : ¬ q.A bo ∧ ¬ K bo := ⟨fun c => by have := unhide HF bo (.inl c); omega, fun c => by have := unhide HF bo (.inr (.inr (.inl c))); omega⟩
        have AO2 := (unhide HAO).keep o2 (fun c => nbo.1 (.inl c))
        have on2 := (unhide HW).2.1.trans o2 (fun k _ c => (unhide HW).1.lo k (.inl (.inl c)))
        have ht := (unhide HW).2.2
        have CK := playReal_any W2.rx (by simp [Gnd.mark]) ok oa ob oc os ot ht
        unfold opX at CK
        have CK := hide CK
        have oA2 : Only (fun b => q.A b ∨ K b) w1 w2 := o2.mono (fun b _ c => .inl (.inl c))
        have HW2 := hide (And.intro W2 (And.intro on2 (And.intro ht oA2)))
        have HM := hide (And.intro (unhide HW).1.rx.mu (unhide HW).1.rx.muk)
        have z2 := AO2.lt
        have HA2 := hide AO2
        have s2 := o2.size
        have z1 := (unhide HAO).lt
        have Hnbo := hide nbo
        have c0 : w2.cell? ⟨bo, 0, none⟩ = some (.int .i64 ok) := AO2.cell 0
        have c1 : w2.cell? ⟨bo, 1, none⟩ = some (.int .i64 oa) := AO2.cell 1
        have c2 : w2.cell? ⟨bo, 2, none⟩ = some (.int .i64 ob) := AO2.cell 2
        have c3 : w2.cell? ⟨bo, 3, none⟩ = some (.int .i64 oc) := AO2.cell 3
        have c4 : w2.cell? ⟨bo, 4, none⟩ = some (.string os) := AO2.cell 4
        have c5 : w2.cell? ⟨bo, 5, none⟩ = some (.string ot) := AO2.cell 5
        clear hd2 o2 W2 on2 ht AO2 HAO oA2 nbo
        go_wp2_with fail
        refine (unhide CK).mono ?_
        intro e w3 h3
        obtain ⟨M', an, am, q3, K3, rfl, hop, mid, hK3, hq3, o3'⟩ := (unhide HW2).1.real rfl rfl h3
        clear h3 CK
        have o13 : Only (fun b => q.A b ∨ K b) w1 w3 := (unhide HW2).2.2.2.trans o3' (fun b hb c => by
          rcases c with c | c
          · rcases Gnd.mark_A c with d | d
            · exact .inl d
            · omega
          · exact .inr c)
        have o4 : Only (fun _ => False) w3 (w3.alloc (.cells (anC am an) 54)) := (Only.refl _ _).alloc _
        have N4 := Has.new w3 (anC am an) 54
        have mid4 := mid.quiet o4
        have o14 := o13.trans (o4.mono (T := fun b => q.A b ∨ K b) (fun _ _ e => e.elim)) (fun _ _ e => e)
        have on4 := ((unhide HW).2.1.trans o14 (fun b _ c => (unhide HW).1.lo b (c.elim .inl (fun d => .inr (.inr (.inl d))))))
        have A4 := ((unhide HA2).keep o3' (fun c => by
          rcases c with c | c
          · rcases Gnd.mark_A c with d | d
            · exact (unhide Hnbo).1 d
            · omega
          · exact (unhide Hnbo).2 c)).keep o4 (fun e => e)
        obtain ⟨p1, p2, hp⟩ := mid.at_.row.shape
        obtain ⟨r1, r2, hr⟩ := ownsRow_shape mid.at_.own
        obtain ⟨t1, t2, ht⟩ := mid.at_.col.shape
        obtain ⟨v1, v2, hv⟩ := ownsRow_shape mid.at_.nms
        obtain ⟨ln, hln⟩ : ∃ k, an.row.length = k := ⟨_, rfl⟩
        obtain ⟨ls, hls⟩ : ∃ k, am.Z.length = k := ⟨_, rfl⟩
        obtain ⟨lc, hlc⟩ : ∃ k, an.cols.length = k := ⟨_, rfl⟩
        obtain ⟨lm, hlm⟩ : ∃ k, an.names.length = k := ⟨_, rfl⟩
        rw [hln] at hp
        rw [hls] at hr
        rw [hlc] at ht
        rw [hlm] at hv
        obtain ⟨rn3, hrn3⟩ : ∃ r, q3.recs.length = r := ⟨_, rfl⟩
        have Hrn3 := hide hrn3
        have Hba := hide (show ¬ q3.A w3.heap.size from fun c => by have := mid.kb.ltA _ (.inl c); omega)
        have HM4 := hide (And.intro mid4 (And.intro o14 (And.intro on4 hop)))
        have Hq3 := hide (show ∀ b, q3.A b → b < w1.heap.size → q.A b from fun b c hb => by
          rcases hq3 b c with d | d
          · rcases Gnd.mark_A d with d' | d'
            · exact d'
            · omega
          · have := (unhide HW2).2.2.2.size; omega)
        have HSh := hide (And.intro (And.intro hp hr) (And.intro ht hv))
        unfold anC at N4 HM4 A4
        rw [hp, hr, ht, hv] at N4 HM4 A4
        have HN4 := hide N4
        have HA4 := hide A4
        unfold anC
        rw [hp, hr, ht, hv]
        have z1' := (unhide HA4).lt
        clear c0 c1 c2 c3 c4 c5 HW2 HA2 mid mid4 on4 o3' o4 o13 o14 A4 N4 hK3 hq3 hp hr ht hv hln hls hlc hlm z2 s2 hop hrn3
        go_upto_region 18 with fail
        generalize w3.alloc (.cells #[.int .i64 an.e, .int .i64 an.n, .slice p1 ln p2, .slice r1 ls r2, .string an.nm, .slice t1 lc t2, .int .i64 an.pk, .int .i64 an.ix, .slice v1 lm v2] 54) = w4 at *
        generalize w3.heap.size = ba at *
        have kx := (unhide HM4).1.kb.bx
        unfold jbC at kx
        have b0 : w4.cell? ⟨kb, 0, none⟩ = some (.pointer (some ⟨q3.d, 0, none⟩)) := kx.cell 0
        have b1 : w4.cell? ⟨kb, 1, none⟩ = some (.pointer (some ⟨x, 0, none⟩)) := kx.cell 1
        have kbl := kx.lt
        clear kx
        have CS := xlsteps_any x (unhide HM4).1.kb.rx.dk
        unfold jbV jbC at CS
        rw [unhide Hrn3] at CS
        have CS := hide CS
        go_wp2_with fail
        refine (unhide CS).mono ?_
        rintro e w5 ⟨rfl, o5⟩
        clear CS b0 b1 kbl
        have mid5 := (unhide HM4).1.quiet o5
        have CL := hide (xllook_any mid5.kb.rx)
        have HA5 := hide ((unhide HA4).keep o5 (fun e => e))
        have HN5 := hide ((unhide HN4).keep o5 (fun e => e))
        have HM5 := hide (And.intro mid5 (And.intro ((unhide HM4).2.1.trans (o5.mono (T := fun b => q.A b ∨ K b) (fun _ _ e => e.elim)) (fun _ _ e => e)) (And.intro ((unhide HM4).2.2.1.trans (o5.mono (fun _ _ e => e.elim)) (fun _ _ e => e)) (unhide HM4).2.2.2)))
        have s5 := o5.size
        clear o5 mid5 HA4 HN4 HM4
        go_wp2_with fail
        refine (unhide CL).mono ?_
        rintro e w6 ⟨k2, rfl, hk2, sh6, R6, o6⟩
        have mid6 := (unhide HM5).1.obs R6 o6
        have boS : ¬ q3.S bo := fun c => (unhide Hnbo).1 (unhide Hq3 bo (Gnd.S_A c) (by omega))
        have baS : ¬ q3.S ba := fun c => unhide Hba (Gnd.S_A c)
        have o16 : Only (fun b => q.A b ∨ K b) w1 w6 := (unhide HM5).2.1.trans o6 (fun b hb c => .inl (unhide Hq3 b (Gnd.S_A c) hb))
        have sp6 : Sht l1 w6 k1 M := (unhide HS1).1.keepB o16 (fun b hb _ c => c.elim ((unhide HS1).2.2 b hb).1 ((unhide HS1).2.2 b hb).2.2)
        have on6 := (unhide HM5).2.2.1.trans o6 (fun b _ c => (unhide HM5).1.kb.lo b (.inl (Gnd.S_A c)))
        have ltA5 := (unhide HM5).1.kb.ltA
        have l15 : l1 ≤ w5.heap.size := by
          obtain ⟨S1, g1, _⟩ := (unhide HS1).1
          have h1 := g1.new k1 (.inl rfl)
          have h2 := g1.lt
          have h3 := (unhide HM5).2.1.size
          omega
        have HA6 := hide ((unhide HA5).keep o6 boS)
        have HN6 := hide ((unhide HN5).keep o6 baS)
        have HM6 := hide (And.intro mid6 (And.intro on6 (And.intro ltA5 (And.intro hk2 (unhide HM5).2.2.2))))
        have HP6 := hide (And.intro sp6 (And.intro sh6 l15))
        have hne : k1 ≠ k2 := by
          have h1 := (unhide Hk1)
          have h3 := (unhide HM5).2.1.size
          omega
        clear CL R6 o6 o16 sp6 sh6 on6 mid6 boS baS ltA5 hk2 l15 HA5 HN5
        have kx := (unhide HM6).1.kb.bx
        unfold jbC at kx
        have b0 : w6.cell? ⟨kb, 0, none⟩ = some (.pointer (some ⟨q3.d, 0, none⟩)) := kx.cell 0
        have b1 : w6.cell? ⟨kb, 1, none⟩ = some (.pointer (some ⟨x, 0, none⟩)) := kx.cell 1
        have kbl := kx.lt
        clear kx
        have CS := xlsteps_any x (unhide HM6).1.kb.rx.dk
        unfold jbV jbC at CS
        rw [unhide Hrn3] at CS
        have CS := hide CS
        go_wp2_with fail
        refine (unhide CS).mono ?_
        rintro e w7 ⟨rfl, o7⟩
        clear CS b0 b1 kbl
        have r0 : ((rn3 : Int) != (rn3 : Int)) = false := by simp
        have okN := (unhide HM6).1.kb.rx.mu
        have mkN := (unhide HM6).1.kb.rx.muk
        have CY := hide (xlsmall_any ((unhide HP6).2.1.quiet o7) okN.mub (okN.mus mkN.1 mkN.2))
        have HoN := hide (And.intro okN mkN)
        have HO7 := hide o7
        clear o7 okN mkN
        go_wp2_with fail
        refine (unhide CY).mono ?_
        rintro e w8 ⟨rfl, o8⟩
        have o78 := (unhide HO7).trans o8 (fun _ _ e => e)
        have sp8 := (unhide HP6).1.quiet o78
        have sh8 := (unhide HP6).2.1.quiet o78
        have mid8 := (unhide HM6).1.quiet o78
        have CT := xlstep_any sp8 (sh8.mono (unhide HP6).2.2) sh8 mid8.at_ ok oa ob oc os ot (unhide HW).2.2 hne (unhide HM).1 (unhide HoN).1 (unhide HM).2.1 (unhide HoN).2.1 (unhide HM).2.2 (unhide HoN).2.2 (unhide HM6).2.2.2.2
        unfold anC opX at CT
        rw [(unhide HSh).1.1, (unhide HSh).1.2, (unhide HSh).2.1, (unhide HSh).2.2] at CT
        have CT := hide CT
        have A8 := (unhide HA6).keep o78 (fun e => e)
        have N8 := (unhide HN6).keep o78 (fun e => e)
        have c0 : w8.cell? ⟨bo, 0, none⟩ = some (.int .i64 ok) := A8.cell 0
        have c1 : w8.cell? ⟨bo, 1, none⟩ = some (.int .i64 oa) := A8.cell 1
        have c2 : w8.cell? ⟨bo, 2, none⟩ = some (.int .i64 ob) := A8.cell 2
        have c3 : w8.cell? ⟨bo, 3, none⟩ = some (.int .i64 oc) := A8.cell 3
        have c4 : w8.cell? ⟨bo, 4, none⟩ = some (.string os) := A8.cell 4
        have c5 : w8.cell? ⟨bo, 5, none⟩ = some (.string ot) := A8.cell 5
        have e0 : w8.cell? ⟨ba, 0, none⟩ = some (.int .i64 an.e) := N8.cell 0
        have e1 : w8.cell? ⟨ba, 1, none⟩ = some (.int .i64 an.n) := N8.cell 1
        have e2 : w8.cell? ⟨ba, 2, none⟩ = some (.slice p1 ln p2) := N8.cell 2
        have e3 : w8.cell? ⟨ba, 3, none⟩ = some (.slice r1 ls r2) := N8.cell 3
        have e4 : w8.cell? ⟨ba, 4, none⟩ = some (.string an.nm) := N8.cell 4
        have e5 : w8.cell? ⟨ba, 5, none⟩ = some (.slice t1 lc t2) := N8.cell 5
        have e6 : w8.cell? ⟨ba, 6, none⟩ = some (.int .i64 an.pk) := N8.cell 6
        have e7 : w8.cell? ⟨ba, 7, none⟩ = some (.int .i64 an.ix) := N8.cell 7
        have e8 : w8.cell? ⟨ba, 8, none⟩ = some (.slice v1 lm v2) := N8.cell 8
        have z8 := A8.lt
        have z9 := N8.lt
        have H8 := hide (And.intro sp8 (And.intro sh8 (And.intro mid8 o78)))
        clear CY o8 o78 sp8 sh8 mid8 A8 N8 HO7
        go_wp2_with fail
        refine (unhide CT).mono ?_
        rintro e w9 ⟨rfl, sh9, o9⟩
        have HL := hide (show KWL w kb (.pointer (some ⟨g, 0, none⟩)) (.int .i64 (rn3 : Int)) (.pointer (some ⟨k2, 0, none⟩)) (.pointer (some ⟨k1, 0, none⟩)) w9 from by
          obtain ⟨sp8, sh8, mid8, o78⟩ := unhide H8
          obtain ⟨mid6, on6, ltA5, hk2, hop⟩ := unhide HM6
          have far2 : ∀ b, w5.heap.size ≤ b → ¬ q3.A b ∧ b ≠ x ∧ ¬ K3 b ∧ b ≠ kb := fun b hb => ⟨fun c => (by have := ltA5 b (.inl c); omega), fun c => (by have := ltA5 b (.inr (.inl c)); omega), fun c => (by have := ltA5 b (.inr (.inr (.inl c))); omega), fun c => (by have := ltA5 b (.inr (.inr (.inr c))); omega)⟩
          refine ⟨q3, g, x, M', K3, M, k1, k2, l1, w5.heap.size, rfl, by rw [unhide Hrn3], rfl, rfl, mid8.kb.keep o9 (fun b hb c => ?_), sp8.keepK (sh8.mono (unhide HP6).2.2) hne o9, (unhide HM).1, (unhide HS1).2.1, sh9, ltA5 kb (.inr (.inr (.inr rfl))), fun b hb => ⟨(far2 b hb).1, (far2 b hb).2.1, (far2 b hb).2.2.1⟩, (on6.trans (o78.mono (fun _ _ e => e.elim)) (fun _ _ e => e)).trans o9 (fun b _ c => ?_)⟩
          · have c' : b = k2 := c
            have f := far2 b (by omega)
            rcases hb with d | d | d | d
            · exact f.1 d
            · exact f.2.1 d
            · exact f.2.2.1 d
            · exact f.2.2.2 d
          · have c' : b = k2 := c
            have h1 := mid6.kb.lo kb (.inr (.inr (.inr rfl)))
            have h2 := ltA5 kb (.inr (.inr (.inr rfl)))
            omega)
        clear CT sh9 o9 c0 c1 c2 c3 c4 c5 e0 e1 e2 e3 e4 e5 e6 e7 e8 H8 HM6 HP6 HA6 HN6 z8 z9 r0
        go_wp2_with fail
        go_roundw
        case rel => exact ⟨kk + 1, by omega, by go_num, unhide HL⟩
        case measure => simp [intOf]; omega
    · have hkI : decide ((kk : Int) < (len : Int)) = false := by simp; omega
      clear B oW sh0 ok0 hl0 sh1 hl1 far
      go_wp2_with fail
      go_ret
      exact ⟨rfl, hbel⟩
end Go.Proofs.Qxb6500414aGreat
