/-
  OWN WORK. THE TABLE LAW: KeepsUpTo, Keeps (written by tools/gen_jk6.py).
-/
import Derived.Test.Qxb6500413aGreatJK5
import Derived.Test.Qxb6500413aGreatOpsDef2
import Derived.Deep.DeepCutAuto
namespace Go.Proofs.Qxb6500413aGreat
open Go.RowKit Go.PlainAid
set_option linter.unusedSimpArgs false
set_option linter.unusedVariables false

/-- The walk's state, seen from its variables. -/
def TWL (w0 : World) (kb g : Nat) (xv nv wv : Value) (w : World) : Prop :=
  ∃ q x op S C T TC cv mv cl ml wl DW, xv = .pointer (some ⟨x, 0, none⟩) ∧ nv = .int .i64 (q.recs.length : Int) ∧ TW w0.heap.size w kb q x g op S C T TC cv mv cl ml wv wl DW ∧ Only (fun k => w0.heap.size ≤ k) w0 w
theorem TWL.mk {w0 w : World} {kb g x : Nat} {q : Gnd} {op : Bool} {S C : Vu} {T TC : List (Tb × Hd)} {cv mv wv : Value} {cl ml wl : List GE} {DW : Db} (K : TW w0.heap.size w kb q x g op S C T TC cv mv cl ml wv wl DW) (o : Only (fun k => w0.heap.size ≤ k) w0 w) : TWL w0 kb g (.pointer (some ⟨x, 0, none⟩)) (.int .i64 (q.recs.length : Int)) wv w := ⟨q, x, op, S, C, T, TC, cv, mv, cl, ml, wl, DW, rfl, rfl, K, o⟩
theorem GLa_nil {k : Nat} (h : GLa (.slice none 0 0) [] k) : False := by
  rcases h with (h | ⟨e, he, _⟩) | ⟨e, he, _⟩
  · simp [Value.ownBlock] at h
  · simp at he
  · simp at he
def g0 : Array Value := #[.slice none 0 0, .slice none 0 0, .bool false]
set_option maxRecDepth 100000 in
set_option maxHeartbeats 32000000 in
theorem jkeepsUpTo_any (ad : Option Addr) (len cap : Nat) (ops : List OpD) (w : World) (hops : OpsAt w ad len ops) (hlen : len ≤ 4398046511104) :
    Calls Tryz.prog 7 #[.slice ad len cap] w fun e w' => e = .returned (.int .i64 (-1)) ∧ Below w.heap.size w w' := by
  have C1 := hide (jground_any w)
  go_enter Tryz.func7, Tryz.ntmps7
  go_wp2_with fail
  refine (unhide C1).mono ?_
  rintro e w1 ⟨q, rs, rfl, A1, cf1, hb1, hr1, ci1, hk1, hlo1, o1⟩
  clear C1
  unfold jbV jbC
  have alt1 := A1.Alt
  have KB : Has (w1.alloc (.cells (jbC q.d q.f) 30)) w1.heap.size (jbC q.d q.f) 30 := Has.new w1 _ _
  have o2 : Only (fun _ => False) w1 (w1.alloc (.cells (jbC q.d q.f) 30)) := (Only.refl _ w1).alloc _
  have A2 := A1.quiet o2
  have nkb : ¬ q.A w1.heap.size := fun h => by have := alt1 _ h; omega
  have cu1 : CutX q.base q.recs (fun X => ComD X []) (fun X => ComD X []) := by
    rw [hb1, hr1]
    exact ci1.toX (by simp) A1.lcom ⟨_, comS_zero, .inr ⟨rfl, rfl⟩⟩ ⟨_, cf1.toS, .inr ⟨rfl, rfl⟩⟩
  have rc1 : q.recs.length ≤ 300 := by have := ci1.short; rw [hr1]; omega
  have C2 := hide (enew_any A2 cf1 (.inr ⟨rfl, rfl⟩) cu1 (by rw [hb1, hr1]; exact hk1) rc1)
  have HK2 := hide (And.intro KB (And.intro nkb (And.intro (o1.trans o2 (fun _ _ e => e)) hlo1)))
  have zw := o1.size
  unfold jbC at KB C2
  have y1 := KB.cell 1
  simp at y1
  clear A1 A2 cf1 hb1 hr1 ci1 hk1 o1 o2 KB nkb cu1 rc1 alt1 hlo1
  go_upto_region 2 with fail
  unfold jbC at HK2
  generalize w1.alloc (.cells #[.pointer (some ⟨q.d, 0, none⟩), .pointer (some ⟨q.f, 0, none⟩)] 30) = w2 at *
  generalize w1.heap.size = kb at *
  have y1 := (unhide HK2).1.cell 1
  simp at y1
  go_wp2_with fail
  refine (unhide C2).mono ?_
  rintro e w3 ⟨x, q', S', T', rfl, hx, st, la, hd, cf, cu, ed, ef, hA, o3⟩
  clear C2 y1
  have kb3 : Has w3 kb (jbC q'.d q'.f) 30 := by
    rw [ed, ef]
    exact (unhide HK2).1.keep o3 (fun h => (unhide HK2).2.1 (Gnd.D_A h))
  have zk := (unhide HK2).1.lt
  have nk3 : ¬ q'.A kb := fun h => by
    rcases hA kb h with c | c
    · exact (unhide HK2).2.1 c
    · omega
  have qlo : ∀ k, q'.A k → w.heap.size ≤ k := fun k h => by
    rcases hA k h with c | c
    · exact (unhide HK2).2.2.2 k c
    · omega
  have on3 : Only (fun k => w.heap.size ≤ k) w w3 := ((unhide HK2).2.2.1.mono (fun _ _ e => e.elim)).trans o3 (fun k _ h => (unhide HK2).2.2.2 k (Gnd.D_A h))
  have HS := hide (And.intro st (And.intro la (And.intro hd (And.intro cf (And.intro cu (And.intro kb3 (And.intro nk3 (And.intro qlo on3))))))))
  have CS := hide (jsteps_any q'.f st.fv.dk)
  unfold jbV jbC at CS
  unfold jbC at kb3
  have y0 := kb3.cell 0
  have y1 := kb3.cell 1
  simp at y0 y1
  have xl3 := st.has.lt
  clear st la hd cf cu kb3 nk3 qlo on3 o3 hA HK2 ed ef
  go_wp2_with fail
  refine (unhide CS).mono ?_
  rintro e w4 ⟨rfl, o4⟩
  clear CS y0 y1
  have z34 := o4.size
  have o5 : Only (fun _ => False) w4 (w4.alloc (.cells g0 38)) := (Only.refl _ w4).alloc _
  have G5 : Has (w4.alloc (.cells g0 38)) w4.heap.size g0 38 := Has.new w4 _ _
  have o35 := o4.trans o5 (fun _ _ e => e)
  have K5 : TW w.heap.size (w4.alloc (.cells g0 38)) kb q' x w4.heap.size false S' S' T' T' (.slice none 0 0) (.slice none 0 0) [] [] (.slice none 0 0) [] (dbOf T') ∧ Only (fun k => w.heap.size ≤ k) w (w4.alloc (.cells g0 38)) := by
    obtain ⟨st, la, hd, cf, cu, kb3, nk3, qlo, on3⟩ := unhide HS
    have st4 := st.quiet o4
    have alt4 := st4.fv.Alt
    have xl4 := st4.has.lt
    have gh : GH (w4.alloc (.cells g0 38)) w4.heap.size (.slice none 0 0) [] (.slice none 0 0) [] false := ⟨G5, GL.nil _, GL.nil _, fun k h => (GLa_nil (.inl h)).elim⟩
    rw [← hd] at cu
    have K := TW.settled (lo := w.heap.size) (kb := kb) (q' := q') (x' := x) (S' := S') (T' := T') gh (by rw [hd]; exact GP.nil) rfl (kb3.keep o35 (fun e => e)) (st.quiet o35) la cf cu ⟨fun h => (by have := alt4 _ h; omega), by omega, by omega⟩ ⟨nk3, by omega⟩ (fun k h => (GLa_nil h).elim) (fun k h => (GLa_nil h).elim) qlo (by omega)
    exact ⟨K, on3.trans (o35.mono (fun _ _ e => e.elim)) (fun _ _ e => e)⟩
  have HK5 := hide K5
  unfold g0 at HK5 G5
  clear K5 G5 o4 o5 o35 HS hx zw zk xl3 z34
  go_upto_region 5 with fail
  generalize w4.alloc (.cells #[.slice none 0 0, .slice none 0 0, .bool false] 38) = w5 at *
  generalize w4.heap.size = g at *
  have z0 := (unhide HK5).1.j.gh.has.cell 0
  have z1 := (unhide HK5).1.j.gh.has.cell 1
  simp at z0 z1
  have CW := hide (jshown_any (unhide HK5).1.j.st (unhide HK5).1.j.la (unhide HK5).1.j.gh.cur (unhide HK5).1.j.sepC false)
  go_wp2_with fail
  refine (unhide CW).mono ?_
  rintro e w6 ⟨bb, rfl, hb, st6, o6⟩
  obtain rfl : bb = true := hb.mpr ⟨rfl, (unhide HK5).1.j.gc⟩
  have K6 := (unhide HK5).1.look st6 o6
  have oK6 := (unhide HK5).2.trans o6 (fun k _ h => (unhide HK5).1.j.qlo k (Gnd.S_A h))
  have CS := jsteps_any q'.f K6.j.st.fv.dk
  unfold jbV jbC at CS
  have CS := hide CS
  have kx := K6.bx
  unfold jbC at kx
  have y0 := kx.cell 0
  have y1 := kx.cell 1
  simp at y0 y1
  have HK6 := hide (And.intro K6 oK6)
  have dn : ((q'.recs.length : Int) != (q'.recs.length : Int)) = false := by simp
  have dnn : (q'.recs.length != q'.recs.length) = false := by simp
  clear hb st6 o6 K6 oK6 kx CW z0 z1 HK5
  go_wp2_with fail
  refine (unhide CS).mono ?_
  rintro e w7 ⟨rfl, o7⟩
  have HL := hide (show TWL w kb g (.pointer (some ⟨x, 0, none⟩)) (.int .i64 (q'.recs.length : Int)) (.slice none 0 0) w7 from TWL.mk ((unhide HK6).1.quiet o7) ((unhide HK6).2.trans (o7.mono (fun _ _ e => e.elim)) (fun _ _ e => e)))
  clear CS HK6 o7 y0 y1
  go_upto_region 11 with fail
  clear dn dnn
  go_loopw [4, 5, 7, 8, 9, 10, 11, 12] (fun xv nv wv iv ov rv av bv wr => ∃ kk : Nat, kk ≤ len ∧ iv = .int .i64 kk ∧ TWL w kb g xv nv wv wr) (fun _ _ _ iv _ _ _ _ _ => len - (intOf iv).toNat)
  case atStart => exact ⟨0, Nat.zero_le _, rfl, unhide HL⟩
  case round =>
    clear HL
    obtain ⟨kk, hk, rfl, HL⟩ := hrel
    obtain ⟨q, x, op, S, C, T, TC, cv, mv, cl, ml, wl, DW, rfl, rfl, K, oK⟩ := HL
    have hbel : Below w.heap.size w wr := Only.bel (Below.refl _ _) oK (fun _ h => h)
    by_cases hkl : kk < len
    · obtain ⟨hol, hoa⟩ := hops
      obtain ⟨ab, aoff, rfl, hcells⟩ := hoa (by omega)
      obtain ⟨y0, y1, y2, y3, y4, y5, hsz, hst⟩ := hcells kk (by omega)
      clear hcells hoa
      have hab : ab < w.heap.size := World.block_lt_of_cell? w ⟨ab, aoff + kk * 6, none⟩ y0
      rw [← hbel.cell (p := ⟨ab, aoff + kk * 6, none⟩) hab] at y0
      rw [← hbel.cell (p := ⟨ab, aoff + kk * 6 + 1, none⟩) hab] at y1
      rw [← hbel.cell (p := ⟨ab, aoff + kk * 6 + 2, none⟩) hab] at y2
      rw [← hbel.cell (p := ⟨ab, aoff + kk * 6 + 3, none⟩) hab] at y3
      rw [← hbel.cell (p := ⟨ab, aoff + kk * 6 + 4, none⟩) hab] at y4
      rw [← hbel.cell (p := ⟨ab, aoff + kk * 6 + 5, none⟩) hab] at y5
      generalize ops[kk]'(by omega) = oo at *
      obtain ⟨ok, oa, ob, oc, os, ot⟩ := oo
      simp only at y0 y1 y2 y3 y4 y5 hsz hst
      have hkI : (kk : Int) < (len : Int) := by omega
      have hkD : decide ((kk : Int) < (len : Int)) = true := decide_eq_true hkI
      have hkM : decide ((kk : Int) < 4398046511104) = true := by simp; omega
      have oo : Only (fun _ => False) wr (wr.alloc (.cells (opB ok oa ob oc os ot) 41)) := (Only.refl _ wr).alloc _
      have AO : Has (wr.alloc (.cells (opB ok oa ob oc os ot) 41)) wr.heap.size (opB ok oa ob oc os ot) 41 := Has.new wr _ _
      have alt := K.j.st.fv.Alt
      have nob : ¬ q.A wr.heap.size := fun h => by have := alt _ h; omega
      have HK := hide (And.intro (K.quiet oo) (And.intro (oK.trans (oo.mono (fun _ _ e => e.elim)) (fun _ _ e => e)) (And.intro AO (And.intro nob (And.intro hst (show wr.heap.size < (wr.alloc (.cells (opB ok oa ob oc os ot) 41)).heap.size from AO.lt))))))
      unfold opB at AO HK
      have a0 := AO.cell 0
      simp at a0
      have hbl : w.heap.size ≤ wr.heap.size := oK.size
      clear K oK hol hsz hst oo AO alt nob hbel
      by_cases hten : ok = 16
      · subst hten
        obtain ⟨wa, wcp, hwv⟩ := (unhide HK).1.wg.shape
        subst hwv
        go_upto_region 24 with fail
        generalize wr.alloc (.cells #[.int .i64 16, .int .i64 oa, .int .i64 ob, .int .i64 oc, .string os, .string ot] 41) = w1 at *
        generalize wr.heap.size = bo at *
        clear a0 y0 y1 y2 y3 y4 y5
        obtain ⟨X, D, lX, hX, hCD, hor, hfoot, hwork⟩ := (unhide HK).1.pick oa
        obtain ⟨Sx, hSx, hDx⟩ := id hCD
        have CA := jafter_any (R := fun X => ComD X D) q.f oa (unhide HK).1.j.st.fv.dk (unhide HK).1.cu lX hX hCD hSx
        unfold jbV jbC at CA
        have CA := hide CA
        have HD := hide (And.intro lX (And.intro hCD (And.intro hor (And.intro hfoot (And.intro hwork hDx)))))
        clear lX hX hCD hor hfoot hwork hSx hDx
        have a1 := (unhide HK).2.2.1.cell 1
        have kx := (unhide HK).1.bx
        unfold jbC at kx
        have b0 := kx.cell 0
        have b1 := kx.cell 1
        simp at a1 b0 b1
        have HTG := hide (unhide HK).1.tg
        have nkb := (unhide HK).1.kq
        have kbl := kx.lt
        have hne : bo ≠ kb := fun e => by
          have h1 := (unhide HK).2.2.1
          rw [e] at h1
          exact absurd (h1.inj kx).2 (by decide)
        clear kx
        go_wp2_with fail
        refine (unhide CA).mono ?_
        rintro e w2 ⟨q', D0, rs, rfl, A2, cf2, hb2, hr2, hc2, ci2, hk2, hlo2, o2⟩
        clear CA
        have hq2 : ComD q'.com D := ⟨Sx, cf2.toS, (unhide HD).2.2.2.2.2⟩
        obtain ⟨cu2, hblk2, hrc2⟩ := after_cu hb2 hr2 hc2 ci2 hk2 (unhide HD).1 A2.lcom (unhide HD).2.1 hq2
        have z12 := o2.size
        have k2 := (unhide HK).1.bx.keep o2 (fun e => e)
        have c0 := k2.cell 0
        have c1 := k2.cell 1
        have f0 := k2.free 0
        have f1 := k2.free 1
        simp [jbC] at c0 c1
        have o3 : Only (fun k => k = kb) w2 ((w2.setCell ⟨kb, 0, none⟩ (.pointer (some ⟨q'.d, 0, none⟩))).setCell ⟨kb, 1, none⟩ (.pointer (some ⟨q'.f, 0, none⟩))) := (only1 (p := kb) _ _).trans (only1 (p := kb) _ _) (fun _ _ h => h)
        have k3 : Has ((w2.setCell ⟨kb, 0, none⟩ (.pointer (some ⟨q'.d, 0, none⟩))).setCell ⟨kb, 1, none⟩ (.pointer (some ⟨q'.f, 0, none⟩))) kb (jbC q'.d q'.f) 30 := (k2.setCell 0 _).setCell 1 _
        have nk2 : ¬ q'.A kb := fun h => by have := hlo2 kb h; omega
        have A3 := A2.keep o3 (fun k hk e => nk2 (by rw [← e]; exact .inl hk)) (fun k hk e => nk2 (by rw [← e]; exact .inr (.inl hk))) (fun e => nk2 (.inr (.inr (.inl e.symm)))) (fun e => nk2 (.inr (.inr (.inr e.symm))))
        have TG3 := ((unhide HTG).keep o2 (fun _ _ _ e => e)).keep o3 (fun k _ h e => h e)
        have AO3 := ((unhide HK).2.2.1.keep o2 (fun e => e)).keep o3 hne
        have CO := hide (eopen_any A3 cf2 (unhide HD).2.2.2.2.2 cu2 hblk2 hrc2)
        have on3 := ((unhide HK).2.1.trans (o2.mono (fun _ _ e => e.elim)) (fun _ _ e => e)).trans o3 (fun k _ e => by rw [e]; exact nkb.2)
        have z23 := o3.size
        have H3 := hide (And.intro k3 (And.intro TG3 (And.intro AO3 (And.intro on3 (And.intro nk2 hlo2)))))
        clear A2 cf2 hb2 hr2 hc2 ci2 hk2 o2 hq2 cu2 hblk2 hrc2 k2 o3 k3 A3 TG3 AO3 on3 nk2 hlo2 a1 b0 b1 HTG
        go_upto_region 25 with fail
        generalize (w2.setCell ⟨kb, 0, none⟩ (.pointer (some ⟨q'.d, 0, none⟩))).setCell ⟨kb, 1, none⟩ (.pointer (some ⟨q'.f, 0, none⟩)) = w3 at *
        clear c0 c1 f0 f1
        have kx := (unhide H3).1
        unfold jbC at kx
        have b1 := kx.cell 1
        simp at b1
        clear kx
        go_wp2_with fail
        refine (unhide CO).mono ?_
        rintro e w4 ⟨x4, q4, S4, T4, rfl, hx4, st4, la4, hd4, cf4, cu4, ed4, ef4, hA4, o4⟩
        clear CO b1
        have z34 := o4.size
        have qlo4 : ∀ k, q4.A k → w1.heap.size ≤ k := fun k hk => by
          rcases hA4 k hk with c | c
          · exact (unhide H3).2.2.2.2.2 k c
          · omega
        have k4 : Has w4 kb (jbC q4.d q4.f) 30 := by
          rw [ed4, ef4]
          exact (unhide H3).1.keep o4 (fun h => (unhide H3).2.2.2.2.1 (Gnd.D_A h))
        have nD : ∀ k, k < w1.heap.size → ¬ q'.D k := fun k hk h => by have := (unhide H3).2.2.2.2.2 k (Gnd.D_A h); omega
        have bol := (unhide HK).2.2.2.2.2
        have TG4 := (unhide H3).2.1.keep o4 (fun k hk _ => nD k hk)
        have AO4 := (unhide H3).2.2.1.keep o4 (nD bo bol)
        have on4 := (unhide H3).2.2.2.1.trans o4 (fun k _ h => by have := (unhide H3).2.2.2.2.2 k (Gnd.D_A h); have := (unhide HK).2.1.size; omega)
        have zw1 := (unhide HK).2.1.size
        subst hd4
        have HS4 := hide (And.intro st4 (And.intro la4 (And.intro cf4 (And.intro cu4 (And.intro k4 (And.intro TG4 (And.intro AO4 (And.intro on4 (And.intro qlo4 (And.intro hx4 (And.intro z12 (And.intro z23 z34))))))))))))
        have CS := jsteps_any q4.f st4.fv.dk
        unfold jbV jbC at CS
        have CS := hide CS
        unfold jbC at k4
        have b0 := k4.cell 0
        have b1 := k4.cell 1
        simp at b0 b1
        clear st4 la4 cf4 cu4 k4 TG4 AO4 on4 qlo4 hx4 z34 o4 hA4 nD ed4 ef4 H3 z12 z23
        go_wp2_with fail
        refine (unhide CS).mono ?_
        rintro e w5 ⟨rfl, o5⟩
        clear CS b0 b1
        obtain ⟨st4, la4, cf4, cu4, k4, TG4, AO4, on4, qlo4, hx4, z12, z23, z34⟩ := unhide HS4
        have qS : ∀ k, k < w1.heap.size → ¬ q4.S k := fun k hk h => by have := qlo4 k (Gnd.S_A h); omega
        have CN := jshown_any (st4.quiet o5) la4 (TG4.wg.quiet o5) (fun k hk => qS k (TG4.bw k hk).1) false
        have CN := hide CN
        have HO5 := hide o5
        have HQS := hide qS
        clear st4 la4 cf4 cu4 k4 TG4 AO4 on4 qlo4 hx4 o5 qS z12 z23 z34
        go_wp2_with fail
        refine (unhide CN).mono ?_
        rintro e w6 ⟨bn, rfl, hbn, st6, o6⟩
        clear CN
        have TG6 := ((unhide HS4).2.2.2.2.2.1.keep (unhide HO5) (fun _ _ _ e => e)).keep o6 (fun k hk _ => unhide HQS k hk)
        have CL := jshown_any st6 (unhide HS4).2.1 TG6.gh.com (fun k hk => unhide HQS k (TG6.bm k hk).1) false
        have c1 := TG6.gh.has.cell 1
        simp at c1
        have CL := hide CL
        have o46 : Only q4.S w4 w6 := ((unhide HO5).mono (fun _ _ e => e.elim)).trans o6 (fun _ _ e => e)
        have H6 := hide (And.intro st6 (And.intro TG6 (And.intro o46 hbn)))
        clear st6 o6 TG6 o46 hbn HO5
        go_wp2_with fail
        refine (unhide CL).mono ?_
        rintro e w7 ⟨ba, rfl, hba, st7, o7⟩
        clear CL c1
        have TG7 := (unhide H6).2.1.keep o7 (fun k hk _ => unhide HQS k hk)
        have o47 : Only q4.S w4 w7 := (unhide H6).2.2.1.trans o7 (fun _ _ e => e)
        have CS := jsteps_any q4.f st7.fv.dk
        unfold jbV jbC at CS
        have CS := hide CS
        have nk4 : ¬ q4.A kb := fun h => by have := (unhide HS4).2.2.2.2.2.2.2.2.1 kb h; omega
        have k7 := (unhide HS4).2.2.2.2.1.keep o47 (fun h => nk4 (Gnd.S_A h))
        unfold jbC at k7
        have b0 := k7.cell 0
        have b1 := k7.cell 1
        simp at b0 b1
        have H7 := hide (And.intro st7 (And.intro TG7 (And.intro o47 (And.intro (unhide H6).2.2.2 (And.intro hba nk4)))))
        have dn : ((q4.recs.length : Int) != (q4.recs.length : Int)) = false := by simp
        have dnn : (q4.recs.length != q4.recs.length) = false := by simp
        clear st7 TG7 o7 o47 hba k7 nk4 H6
        go_wp2_with fail
        refine (unhide CS).mono ?_
        rintro e w8 ⟨rfl, o8⟩
        clear CS b0 b1
        obtain ⟨st7, TG7, o47, hbn, hba, nk4⟩ := unhide H7
        have GW := (unhide HK).1.wp
        have GM := (unhide HK).1.j.gm
        have fn : (oa ≤ 0 → bn = true) ∧ (bn = true ↔ GP (wl.map (·.t)) (dbOf T4)) := ⟨fun h => hbn.mpr ⟨rfl, by rw [(unhide HD).2.2.2.1 h]; exact GW⟩, ⟨fun h => (hbn.mp h).2, fun h => hbn.mpr ⟨rfl, h⟩⟩⟩
        have fa : ((q.recs.length : Int) ≤ oa → ba = true) ∧ (ba = true ↔ GP (ml.map (·.t)) (dbOf T4)) := ⟨fun h => hba.mpr ⟨rfl, by rw [(unhide HD).2.2.2.2.1 h]; exact GM⟩, ⟨fun h => (hba.mp h).2, fun h => hba.mpr ⟨rfl, h⟩⟩⟩
        have fo : bn = true ∨ ba = true := by
          rcases (unhide HD).2.2.1 with e | e
          · exact .inl (fn.2.mpr (by rw [e]; exact GW))
          · exact .inr (fa.2.mpr (by rw [e]; exact GM))
        have st8 := st7.quiet o8
        have TG8 := TG7.keep o8 (fun _ _ _ e => e)
        have o48 := o47.trans (o8.mono (fun _ _ e => e.elim)) (fun _ _ e => e)
        have AO8 := (unhide HS4).2.2.2.2.2.2.1.keep o48 (unhide HQS bo (unhide HK).2.2.2.2.2)
        have a1 := AO8.cell 1
        simp at a1
        have g1 := TG8.gh.has.cell 1
        have g1f := TG8.gh.has.free 1
        simp at g1
        obtain ⟨na, hna⟩ : ∃ na, (q.recs.length : Int) = na := ⟨_, rfl⟩
        rw [hna] at fa
        have H8 := hide (And.intro st8 (And.intro TG8 (And.intro o48 nk4)))
        have HF := hide (And.intro fn (And.intro fa fo))
        rw [hna]
        clear st7 TG7 o47 hbn hba nk4 GW GM fn fa fo st8 TG8 o48 AO8 o8 H7 dn dnn hna
        go_upto_region 31 with fail
        go_cut [112] (fun zv wx => zv = .bool false ∧ w8 = wx)
        case first =>
          cases bn with
          | true =>
            go_wp2_with fail
            go_meet
            exact ⟨rfl, rfl⟩
          | false =>
            obtain rfl : ba = true := (unhide HF).2.2.resolve_left (by simp)
            go_wp2_with fail
            go_meet
            exact ⟨rfl, rfl⟩
        case rest =>
        obtain ⟨rfl, rfl⟩ := hcut
        go_upto_region 33 with fail
        go_cut [120] (fun zv wx => zv = .bool false ∧ w8 = wx)
        case first =>
          by_cases h0 : oa ≤ 0
          · have d0 : decide (oa ≤ 0) = true := decide_eq_true h0
            obtain rfl : bn = true := (unhide HF).1.1 h0
            clear h0
            go_wp2_with fail
            go_meet
            exact ⟨rfl, rfl⟩
          · have d0 : decide (oa ≤ 0) = false := decide_eq_false h0
            clear h0
            go_wp2_with fail
            go_meet
            exact ⟨rfl, rfl⟩
        case rest =>
        obtain ⟨rfl, rfl⟩ := hcut
        go_upto_region 35 with fail
        go_cut [129] (fun zv wx => zv = .bool false ∧ w8 = wx)
        case first =>
          by_cases h0 : na ≤ oa
          · have d0 : decide (na ≤ oa) = true := decide_eq_true h0
            have d0' : decide (oa ≥ na) = true := decide_eq_true h0
            obtain rfl : ba = true := (unhide HF).2.1.1 h0
            clear h0
            go_wp2_with fail
            go_meet
            exact ⟨rfl, rfl⟩
          · have d0 : decide (na ≤ oa) = false := decide_eq_false h0
            have d0' : decide (oa ≥ na) = false := decide_eq_false h0
            clear h0
            go_wp2_with fail
            go_meet
            exact ⟨rfl, rfl⟩
        case rest =>
        obtain ⟨rfl, rfl⟩ := hcut
        clear a1
        cases ba with
        | true =>
          have HGM := hide ((unhide HF).2.1.2.mp rfl)
          have HGH := hide (unhide H8).2.1.gh
          have HB2 := hide (unhide H8).2.1.bm
          have HST := hide (And.intro (unhide H8).1 (And.intro ((unhide HS4).2.2.2.2.1.keep (unhide H8).2.2.1 (fun h => (unhide H8).2.2.2 (Gnd.S_A h))) ((unhide HS4).2.2.2.2.2.2.2.1.trans (unhide H8).2.2.1 (fun k _ h => by have := (unhide HS4).2.2.2.2.2.2.2.2.1 k (Gnd.S_A h); omega) : Only (fun k => w.heap.size ≤ k) w w8)))
          clear g1 g1f
          have CG := hide (jgclone_any (unhide HGH).com)
          have c1 := (unhide HGH).has.cell 1
          simp at c1
          go_wp2_with fail
          refine (unhide CG).mono ?_
          rintro e w9 ⟨nv, nl, rfl, GN, hnt, hnf, hni, o9⟩
          clear CG c1
          obtain ⟨va, vcp, hvs⟩ := GN.shape
          subst hvs
          obtain ⟨vn, hvn⟩ : ∃ vn, nl.length = vn := ⟨_, rfl⟩
          rw [hvn] at GN hnf ⊢
          clear hvn
          have GH9 := (unhide HGH).quiet o9
          have d0 := GH9.has.cell 0
          have d1 := GH9.has.cell 1
          have d2 := GH9.has.cell 2
          have e0 := GH9.has.free 0
          have e2 := GH9.has.free 2
          simp at d0 d1 d2
          have og : Only (fun k => k = g) w9 ((w9.setCell ⟨g, 0, none⟩ (.slice va vn vcp)).setCell ⟨g, 2, none⟩ (.bool false)) := (only1 (p := g) _ _).trans (only1 (p := g) _ _) (fun _ _ h => h)
          have GHf : GH ((w9.setCell ⟨g, 0, none⟩ (.slice va vn vcp)).setCell ⟨g, 2, none⟩ (.bool false)) g (.slice va vn vcp) nl mv ml false := GH9.lay og ((GH9.has.setCell 0 _).setCell 2 _) GN GH9.com (fun k hk hk' => by have := (unhide HGH).com.lt k (.inl hk'); have := hnf k hk; omega)
          have z9 := o9.size
          have st9 := (unhide HST).1.quiet o9
          have alt9 := (unhide HST).1.fv.Alt
          have xl9 := (unhide HST).1.has.lt
          have bg := (unhide H8).2.1.bg
          have qlo4 := (unhide HS4).2.2.2.2.2.2.2.2.1
          have hx4 : w1.heap.size ≤ x4 := by have h1 := (unhide HS4).2.2.2.2.2.2.2.2.2; omega
          have ngA : ¬ q4.A g := fun h => by have := qlo4 g h; omega
          have stf : ST q4 ((w9.setCell ⟨g, 0, none⟩ (.slice va vn vcp)).setCell ⟨g, 2, none⟩ (.bool false)) x4 false S4 := st9.keep og (fun k hk e => by
            rcases hk with hk | hk
            · exact ngA (by rw [← e]; exact hk)
            · omega)
          have HTW := hide (show TWL w kb g (.pointer (some ⟨x4, 0, none⟩)) (.int .i64 (q4.recs.length : Int)) mv ((w9.setCell ⟨g, 0, none⟩ (.slice va vn vcp)).setCell ⟨g, 2, none⟩ (.bool false)) from TWL.mk (TW.settled GHf (unhide HGM) hnt (((unhide HST).2.1.keep o9 (fun e => e)).keep og (fun e => bg.2.2 e.symm)) stf (unhide HS4).2.1 (unhide HS4).2.2.1 (unhide HS4).2.2.2.1 ⟨ngA, by omega, bg.2.1⟩ ⟨(unhide H8).2.2.2, nkb.2⟩ (fun k hk => by
            rcases hk with hk | hk
            · have h1 := hnf k hk
              exact ⟨fun h => (by have := alt9 k h; omega), by omega, by omega⟩
            · have h1 := unhide HB2 k (.inr (hni k hk))
              exact ⟨fun h => (by have := qlo4 k h; omega), by omega, h1.2.1⟩) (fun k hk => by
            have h1 := unhide HB2 k hk
            exact ⟨fun h => (by have := qlo4 k h; omega), by omega, h1.2.1⟩) (fun k hk => by have := qlo4 k hk; omega) (by omega)) (((unhide HST).2.2.trans (o9.mono (fun _ _ e => e.elim)) (fun _ _ e => e)).trans og (fun k _ e => by rw [e]; exact bg.2.1)))
          clear GN hnt hnf hni o9 GH9 og GHf z9 st9 alt9 xl9 qlo4 hx4 ngA stf HGH HB2 HGM HST
          go_wp2_with fail
          go_roundw
          case rel => exact ⟨kk + 1, by omega, by go_num, unhide HTW⟩
          case measure => simp [intOf]; omega
        | false =>
          have HGM := hide ((unhide HF).1.2.mp ((unhide HF).2.2.resolve_right (by simp)))
          have og1 : Only (fun k => k = g) w8 (w8.setCell ⟨g, 1, none⟩ (.slice wa wl.length wcp)) := only1 _ _
          have HGH := hide ((unhide H8).2.1.gh.lay og1 ((unhide H8).2.1.gh.has.setCell 1 _) (unhide H8).2.1.gh.cur (unhide H8).2.1.wg (unhide H8).2.1.wc)
          have HB2 := hide (unhide H8).2.1.bw
          have bgx := (unhide H8).2.1.bg
          have qlo5 := (unhide HS4).2.2.2.2.2.2.2.2.1
          have hx5 : w1.heap.size ≤ x4 := by have h1 := (unhide HS4).2.2.2.2.2.2.2.2.2; omega
          have HST := hide (And.intro ((unhide H8).1.keep og1 (fun k hk e => by
            rcases hk with hk | hk
            · have := qlo5 k hk; omega
            · omega)) (And.intro (((unhide HS4).2.2.2.2.1.keep (unhide H8).2.2.1 (fun h => (unhide H8).2.2.2 (Gnd.S_A h))).keep og1 (fun e => bgx.2.2 e.symm)) ((((unhide HS4).2.2.2.2.2.2.2.1.trans (unhide H8).2.2.1 (fun k _ h => by have := qlo5 k (Gnd.S_A h); omega)).trans og1 (fun k _ e => by rw [e]; exact bgx.2.1)) : Only (fun k => w.heap.size ≤ k) w (w8.setCell ⟨g, 1, none⟩ (.slice wa wl.length wcp)))))
          clear og1 qlo5 hx5 bgx
          go_upto_region 39 with fail
          generalize (w8.setCell ⟨g, 1, none⟩ (.slice wa wl.length wcp)) = wS at *
          clear g1 g1f
          have CG := hide (jgclone_any (unhide HGH).com)
          have c1 := (unhide HGH).has.cell 1
          simp at c1
          go_wp2_with fail
          refine (unhide CG).mono ?_
          rintro e w9 ⟨nv, nl, rfl, GN, hnt, hnf, hni, o9⟩
          clear CG c1
          obtain ⟨va, vcp, hvs⟩ := GN.shape
          subst hvs
          obtain ⟨vn, hvn⟩ : ∃ vn, nl.length = vn := ⟨_, rfl⟩
          rw [hvn] at GN hnf ⊢
          clear hvn
          have GH9 := (unhide HGH).quiet o9
          have d0 := GH9.has.cell 0
          have d1 := GH9.has.cell 1
          have d2 := GH9.has.cell 2
          have e0 := GH9.has.free 0
          have e2 := GH9.has.free 2
          simp at d0 d1 d2
          have og : Only (fun k => k = g) w9 ((w9.setCell ⟨g, 0, none⟩ (.slice va vn vcp)).setCell ⟨g, 2, none⟩ (.bool false)) := (only1 (p := g) _ _).trans (only1 (p := g) _ _) (fun _ _ h => h)
          have GHf : GH ((w9.setCell ⟨g, 0, none⟩ (.slice va vn vcp)).setCell ⟨g, 2, none⟩ (.bool false)) g (.slice va vn vcp) nl (.slice wa wl.length wcp) wl false := GH9.lay og ((GH9.has.setCell 0 _).setCell 2 _) GN GH9.com (fun k hk hk' => by have := (unhide HGH).com.lt k (.inl hk'); have := hnf k hk; omega)
          have z9 := o9.size
          have st9 := (unhide HST).1.quiet o9
          have alt9 := (unhide HST).1.fv.Alt
          have xl9 := (unhide HST).1.has.lt
          have bg := (unhide H8).2.1.bg
          have qlo4 := (unhide HS4).2.2.2.2.2.2.2.2.1
          have hx4 : w1.heap.size ≤ x4 := by have h1 := (unhide HS4).2.2.2.2.2.2.2.2.2; omega
          have ngA : ¬ q4.A g := fun h => by have := qlo4 g h; omega
          have stf : ST q4 ((w9.setCell ⟨g, 0, none⟩ (.slice va vn vcp)).setCell ⟨g, 2, none⟩ (.bool false)) x4 false S4 := st9.keep og (fun k hk e => by
            rcases hk with hk | hk
            · exact ngA (by rw [← e]; exact hk)
            · omega)
          have HTW := hide (show TWL w kb g (.pointer (some ⟨x4, 0, none⟩)) (.int .i64 (q4.recs.length : Int)) (.slice wa wl.length wcp) ((w9.setCell ⟨g, 0, none⟩ (.slice va vn vcp)).setCell ⟨g, 2, none⟩ (.bool false)) from TWL.mk (TW.settled GHf (unhide HGM) hnt (((unhide HST).2.1.keep o9 (fun e => e)).keep og (fun e => bg.2.2 e.symm)) stf (unhide HS4).2.1 (unhide HS4).2.2.1 (unhide HS4).2.2.2.1 ⟨ngA, by omega, bg.2.1⟩ ⟨(unhide H8).2.2.2, nkb.2⟩ (fun k hk => by
            rcases hk with hk | hk
            · have h1 := hnf k hk
              exact ⟨fun h => (by have := alt9 k h; omega), by omega, by omega⟩
            · have h1 := unhide HB2 k (.inr (hni k hk))
              exact ⟨fun h => (by have := qlo4 k h; omega), by omega, h1.2.1⟩) (fun k hk => by
            have h1 := unhide HB2 k hk
            exact ⟨fun h => (by have := qlo4 k h; omega), by omega, h1.2.1⟩) (fun k hk => by have := qlo4 k hk; omega) (by omega)) (((unhide HST).2.2.trans (o9.mono (fun _ _ e => e.elim)) (fun _ _ e => e)).trans og (fun k _ e => by rw [e]; exact bg.2.1)))
          clear GN hnt hnf hni o9 GH9 og GHf z9 st9 alt9 xl9 qlo4 hx4 ngA stf HGH HB2 HGM HST
          go_wp2_with fail
          go_roundw
          case rel => exact ⟨kk + 1, by omega, by go_num, unhide HTW⟩
          case measure => simp [intOf]; omega
      · have b16 : (ok != 16) = true := by simpa using hten
        clear hten
        go_upto_region 15 with fail
        generalize wr.alloc (.cells #[.int .i64 ok, .int .i64 oa, .int .i64 ob, .int .i64 oc, .string os, .string ot] 41) = w1 at *
        generalize wr.heap.size = bo at *
        clear a0 y0 y1 y2 y3 y4 y5 b16
        have CM := jmark_any q.f (unhide HK).1.j.st.fv.dk
        unfold jbV jbC at CM
        have CM := hide CM
        have kx := (unhide HK).1.bx
        unfold jbC at kx
        have b0 := kx.cell 0
        have b1 := kx.cell 1
        simp at b0 b1
        clear kx
        go_wp2_with fail
        refine (unhide CM).mono ?_
        rintro e w2 ⟨rfl, hd2, o2⟩
        clear CM b0 b1
        have K2 := (unhide HK).1.marked hd2 o2
        have on2 := (unhide HK).2.1.trans o2 (fun k _ h => (unhide HK).1.j.qlo k (.inl h))
        have AO2 := (unhide HK).2.2.1.keep o2 (fun h => (unhide HK).2.2.2.1 (.inl h))
        have ht := (unhide HK).2.2.2.2.1
        have CK := hide (jkeptStep_any K2.j (by simp [Gnd.mark]) ok oa ob oc os ot ht)
        have g1 := K2.j.gh.has.cell 1
        simp at g1
        have HM := hide (And.intro K2 on2)
        clear hd2 o2 K2 on2 ht HK
        have a0 := AO2.cell 0
        have a1 := AO2.cell 1
        have a2 := AO2.cell 2
        have a3 := AO2.cell 3
        have a4 := AO2.cell 4
        have a5 := AO2.cell 5
        simp at a0 a1 a2 a3 a4 a5
        clear AO2
        unfold opA at CK
        go_wp2_with fail
        refine (unhide CK).mono ?_
        rintro e w3 h3
        obtain ⟨q3, op3, S3, C3, T3, TC3, cv3, mv3, cl3, ml3, K3, o3⟩ := (unhide HM).1.step rfl rfl h3
        have on3 := (unhide HM).2.trans o3 (fun _ _ h => h)
        obtain ⟨rfl, _⟩ := h3
        clear CK g1 a0 a1 a2 a3 a4 a5 HM o3
        have CS := jsteps_any q3.f K3.j.st.fv.dk
        unfold jbV jbC at CS
        have CS := hide CS
        have kx := K3.bx
        unfold jbC at kx
        have b0 := kx.cell 0
        have b1 := kx.cell 1
        simp at b0 b1
        have H3 := hide (And.intro K3 on3)
        clear K3 on3 kx
        go_wp2_with fail
        refine (unhide CS).mono ?_
        rintro e w4 ⟨rfl, o4⟩
        have H4 := hide (And.intro ((unhide H3).1.quiet o4) ((unhide H3).2.trans (o4.mono (fun _ _ e => e.elim)) (fun _ _ e => e)))
        clear CS o4 H3 b0 b1
        have CW := jshown_any ((unhide H4).1.j.st.quiet ((Only.refl (fun _ => False) w4).drew)) (unhide H4).1.j.la ((unhide H4).1.j.gh.cur.quiet ((Only.refl (fun _ => False) w4).drew)) (unhide H4).1.j.sepC op3
        have c0 := (unhide H4).1.j.gh.has.cell 0
        have c2 := (unhide H4).1.j.gh.has.cell 2
        simp at c0 c2
        have CW := hide CW
        have ngS := fun h => (unhide H4).1.j.sg.1 (Gnd.S_A h)
        go_upto_region 20 with fail
        go_cut [77] (fun zv wx => zv = .bool false ∧ ST q3 wx x op3 S3 ∧ Only q3.S w4 wx)
        case first =>
          refine wp_region_held_drew (S := (fun w' => w'.cell? ⟨g, 0, none⟩ = some cv3 ∧ w'.cell? ⟨g, 2, none⟩ = some (.bool op3))) (by kernel_rfl) ⟨c0, c2⟩ (fun hH0 => ?_)
          refine takeH 0 67 (v := ?vs1) rfl rfl (by kernel_rfl) (by kernel_rfl) (by kernel_rfl) (fun _ _ _ h => h) (Or.inl ⟨by rfl, ?hs1⟩) hH0 ?rs1
          case hs1 => (intro w hSw; clear hSw; go_simp; (try with_reducible rfl))
          case rs1 =>
          try simp only [Act.put, List.setIfInBounds_toArray, List.set_cons_zero, List.set_cons_succ]
          refine takeH 1 68 (v := ?vs2) rfl rfl (by kernel_rfl) (by kernel_rfl) (by kernel_rfl) (fun _ _ _ h => h) (Or.inl ⟨by rfl, ?hs2⟩) hH0 ?rs2
          case hs2 => (intro w hSw; clear hSw; go_simp; (try with_reducible rfl))
          case rs2 =>
          try simp only [Act.put, List.setIfInBounds_toArray, List.set_cons_zero, List.set_cons_succ]
          refine takeH 2 69 (v := ?vs3) rfl rfl (by kernel_rfl) (by kernel_rfl) (by kernel_rfl) (fun _ _ _ h => h) (Or.inl ⟨by rfl, ?hs3⟩) hH0 ?rs3
          case hs3 => (intro w hSw; clear hSw; go_simp; (try with_reducible rfl))
          case rs3 =>
          try simp only [Act.put, List.setIfInBounds_toArray, List.set_cons_zero, List.set_cons_succ]
          refine takeH 3 70 (v := ?vs4) rfl rfl (by kernel_rfl) (by kernel_rfl) (by kernel_rfl) (fun _ _ _ h => h) (Or.inl ⟨by rfl, ?hs4⟩) hH0 ?rs4
          case hs4 => (intro w hSw; clear hSw; go_simp; (try with_reducible rfl))
          case rs4 =>
          try simp only [Act.put, List.setIfInBounds_toArray, List.set_cons_zero, List.set_cons_succ]
          refine takeH 4 71 (v := ?vs5) rfl rfl (by kernel_rfl) (by kernel_rfl) (by kernel_rfl) (fun _ _ _ h => h) (Or.inl ⟨by rfl, ?hs5⟩) hH0 ?rs5
          case hs5 => (intro w hSw; obtain ⟨s0, s1⟩ := hSw; go_simp; (try with_reducible rfl))
          case rs5 =>
          try simp only [Act.put, List.setIfInBounds_toArray, List.set_cons_zero, List.set_cons_succ]
          refine takeH 5 72 (v := ?vs6) rfl rfl (by kernel_rfl) (by kernel_rfl) (by kernel_rfl) (fun _ _ _ h => h) (Or.inl ⟨by rfl, ?hs6⟩) hH0 ?rs6
          case hs6 => (intro w hSw; clear hSw; go_simp; (try with_reducible rfl))
          case rs6 =>
          try simp only [Act.put, List.setIfInBounds_toArray, List.set_cons_zero, List.set_cons_succ]
          refine takeH 6 73 (v := ?vs7) rfl rfl (by kernel_rfl) (by kernel_rfl) (by kernel_rfl) (fun _ _ _ h => h) (Or.inl ⟨by rfl, ?hs7⟩) hH0 ?rs7
          case hs7 => (intro w hSw; clear hSw; go_simp; (try with_reducible rfl))
          case rs7 =>
          try simp only [Act.put, List.setIfInBounds_toArray, List.set_cons_zero, List.set_cons_succ]
          refine takeH 7 74 (v := ?vs8) rfl rfl (by kernel_rfl) (by kernel_rfl) (by kernel_rfl) (fun _ _ _ h => h) (Or.inl ⟨by rfl, ?hs8⟩) hH0 ?rs8
          case hs8 => (intro w hSw; clear hSw; go_simp; (try with_reducible rfl))
          case rs8 =>
          try simp only [Act.put, List.setIfInBounds_toArray, List.set_cons_zero, List.set_cons_succ]
          refine takeH 8 75 (v := ?vs9) rfl rfl (by kernel_rfl) (by kernel_rfl) (by kernel_rfl) (fun _ _ _ h => h) (Or.inl ⟨by rfl, ?hs9⟩) hH0 ?rs9
          case hs9 => (intro w hSw; obtain ⟨s0, s1⟩ := hSw; go_simp; (try with_reducible rfl))
          case rs9 =>
          try simp only [Act.put, List.setIfInBounds_toArray, List.set_cons_zero, List.set_cons_succ]
          refine callH 9 (by kernel_rfl) rfl 76 rfl rfl 13 Tryz.func13 (by kernel_rfl) (by kernel_rfl) #[.tmp 67, .tmp 71, .tmp 75] #[32, 36, 4] rfl #[.pointer (some ⟨x, 0, none⟩), cv3, .bool op3] (by simp [Act.eval]) (R := fun v w' => ∃ bk : Bool, v = .bool bk ∧ ShX cl3 (dbOf T3) op3 op3 bk ∧ ST q3 w' x op3 S3 ∧ Only q3.S w4.drew w') ((unhide CW).mono (by rintro en w' ⟨bk, rfl, hb, hs, o⟩; exact ⟨_, rfl, bk, rfl, hb, hs, o⟩)) ?ks
          case ks =>
          rintro _ w6 ⟨bk, rfl, hb, hs, oq⟩
          have S6 : w6.cell? ⟨g, 0, none⟩ = some cv3 ∧ w6.cell? ⟨g, 2, none⟩ = some (.bool op3) := ⟨cell_keep hH0.1 oq ngS, cell_keep hH0.2 oq ngS⟩
          refine ⟨S6, ?_⟩
          try simp only [Act.put, List.setIfInBounds_toArray, List.set_cons_zero, List.set_cons_succ]
          refine takeH 10 77 (v := ?vs10) rfl rfl (by kernel_rfl) (by kernel_rfl) (by kernel_rfl) (fun _ _ _ h => h) (Or.inl ⟨by rfl, ?hs10⟩) S6 ?rs10
          case hs10 => (intro w hSw; clear hSw; go_simp; (try with_reducible rfl))
          case rs10 =>
          try simp only [Act.put, List.setIfInBounds_toArray, List.set_cons_zero, List.set_cons_succ]
          refine wpAnyH_done (by kernel_rfl) ?_ _
          have HF := hide (And.intro hs ((((Only.refl (fun _ => False) w4).drew).mono (fun _ _ e => e.elim)).trans oq (fun _ _ e => e) : Only q3.S w4 w6))
          clear hH0 S6 oq hs
          obtain rfl : bk = true := hb.mpr ⟨rfl, (unhide H4).1.j.gc⟩
          clear hb
          go_wp2_with fail
          go_meet
          exact ⟨rfl, (unhide HF).1, (unhide HF).2⟩
        case rest =>
        obtain ⟨rfl, st5, o5⟩ := hcut
        generalize wc = w5 at *
        have K5 := (unhide H4).1.look st5 o5
        have on5 := (unhide H4).2.trans o5 (fun k _ h => (unhide H4).1.j.qlo k (Gnd.S_A h))
        clear st5 o5 CW c0 c2 ngS
        have CS := jsteps_any q3.f K5.j.st.fv.dk
        unfold jbV jbC at CS
        have CS := hide CS
        have kx := K5.bx
        unfold jbC at kx
        have b0 := kx.cell 0
        have b1 := kx.cell 1
        simp at b0 b1
        have H5 := hide (And.intro K5 on5)
        clear K5 on5 kx H4
        have dn : ((q3.recs.length : Int) != (q3.recs.length : Int)) = false := by simp
        have dnn : (q3.recs.length != q3.recs.length) = false := by simp
        go_wp2_with fail
        refine (unhide CS).mono ?_
        rintro e w6 ⟨rfl, o6⟩
        have HTW := hide (TWL.mk ((unhide H5).1.quiet o6) ((unhide H5).2.trans (o6.mono (fun _ _ e => e.elim)) (fun _ _ e => e)))
        clear CS o6 H5 b0 b1
        go_wp2_with fail
        go_roundw
        case rel => exact ⟨kk + 1, by omega, by go_num, unhide HTW⟩
        case measure => simp [intOf]; omega
    · have hkI : decide ((kk : Int) < (len : Int)) = false := by simp; omega
      clear K oK
      go_wp2_with fail
      go_ret
      exact ⟨rfl, hbel⟩
theorem jkeeps_any (ad : Option Addr) (len cap : Nat) (ops : List OpD) (w : World) (hops : OpsAt w ad len ops) (hlen : len ≤ 4398046511104) :
    Calls Tryz.prog 3 #[.slice ad len cap] w fun e w' => e = .returned (.bool true) ∧ Below w.heap.size w w' := by
  go_enter Tryz.func3, Tryz.ntmps3
  go_wp2_with fail
  refine (jkeepsUpTo_any ad len cap ops _ hops hlen).mono ?_
  rintro e w' ⟨rfl, hb⟩
  go_wp2_with fail
  go_ret
  exact ⟨rfl, hb⟩
end Go.Proofs.Qxb6500413aGreat
