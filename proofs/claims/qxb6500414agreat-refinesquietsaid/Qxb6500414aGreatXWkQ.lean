/-
  OWN WORK. THE TXN LAW: walk. (tools/gen_xwk.py writes it.)
-/
import Derived.Test.Qxb6500414aGreatXR4
import Derived.Test.Qxb6500414aGreatXG9
import Derived.Deep.DeepCutAuto
namespace Go.Proofs.Qxb6500414aGreat
open Go.RowKit Go.PlainAid
set_option linter.unusedSimpArgs false
set_option linter.unusedVariables false

set_option maxRecDepth 100000 in
set_option maxHeartbeats 32000000 in
theorem xwalkQ_any (ad : Option Addr) (len cap : Nat) (ops : List OpD) (w : World) (hops : OpsAt w ad len ops) (hlen : len ≤ 4398046511104) :
    Calls Tryz.prog 10 #[.slice ad len cap, .bool false, .bool true] w fun e w' => (∃ n : Int, e = .returned (.tuple #[.int .i64 (-1), .int .i64 n])) ∧ Below w.heap.size w w' := by
  have C1 := hide (xlground_any w)
  go_enter Tryz.func10, Tryz.ntmps10
  go_wp2_with fail
  refine (unhide C1).mono ?_
  rintro e w1 ⟨q, x, S, T, rfl, st, la, hd, cf, cu, hlo, o1⟩
  clear C1
  unfold jbV jbC
  have KB : Has (w1.alloc (.cells (jbC q.d x) 30)) w1.heap.size (jbC q.d x) 30 := Has.new w1 _ _
  have o2 : Only (fun _ => False) w1 (w1.alloc (.cells (jbC q.d x) 30)) := (Only.refl _ w1).alloc _
  have alt := st.fv.Alt
  have xl := st.has.lt
  have s1 := o1.size
  have HS := hide (And.intro (st.quiet o2) (And.intro la (And.intro hd (And.intro cf (And.intro cu (And.intro hlo (And.intro (o1.trans o2 (fun _ _ e => e)) (And.intro alt (And.intro xl s1)))))))))
  have HBX := hide KB
  unfold jbC at HBX HS
  clear st la hd cf cu hlo o1 o2 KB alt xl s1
  go_upto_region 2 with fail
  generalize w1.alloc (.cells #[.pointer (some ⟨q.d, 0, none⟩), .pointer (some ⟨x, 0, none⟩)] 30) = w2 at *
  generalize hkb : w1.heap.size = kb at *
  have HKB := hide hkb
  clear hkb
  have b1 : w2.cell? ⟨kb, 1, none⟩ = some (.pointer (some ⟨x, 0, none⟩)) := (unhide HBX).cell 1
  have kbl := (unhide HBX).lt
  have C2 := hide (xnew_any x w2)
  go_wp2_with fail
  refine (unhide C2).mono ?_
  rintro e w3 ⟨g, rfl, hg, xm, o3⟩
  clear C2 b1
  have s3 := o3.size
  have HRX := hide (show RX q w3 g x (Mu0 []) (fun k => k = g) from by
    obtain ⟨st, la, hd, cf, cu, hlo, o12, alt, xl, s1⟩ := unhide HS
    have rx := RX.new (st.quiet o3) la cf xm ⟨fun c => (by have := alt g c; have := unhide HKB; omega), by have := unhide HKB; omega⟩
    rw [hd] at rx
    exact rx)
  have HON := hide (show Only (fun k => w.heap.size ≤ k) w w3 from ((unhide HS).2.2.2.2.2.2.1.trans o3 (fun _ _ e => e)).mono (fun _ _ e => e.elim))
  have HBX := hide ((unhide HBX).keep o3 (fun e => e))
  have hg2 : w2.heap.size ≤ g := hg
  clear xm o3
  have C3 := hide (xnnew_any w3)
  go_wp2_with fail
  refine (unhide C3).mono ?_
  rintro e w4 ⟨m, H0, rfl, n4, hH0, o4⟩
  have hm := n4.hm
  have C4 := hide (xnmark_any n4)
  clear C3 n4
  go_wp2_with fail
  refine (unhide C4).mono ?_
  rintro e w5 ⟨rfl, n5, o5⟩
  have n5 : NX w5 m (Mu0 []) [] none (Ext H0 w4 w5) := n5
  have C5 := hide (xnclone_any n5)
  clear C4
  go_wp2_with fail
  refine (unhide C5).mono ?_
  rintro e w6 ⟨mb, Hb, rfl, n6, hHb, o6⟩
  clear C5
  have hmw := hH0 m hm
  have s4 := o4.size
  have HBX := hide ((((unhide HBX).keep o4 (fun e => e)).keep o5 (fun e => by have e' : kb = m := e; omega)).keep o6 (fun e => e))
  have HON := hide ((((unhide HON).trans (o4.mono (T := fun k => w.heap.size ≤ k) (fun _ _ e => e.elim)) (fun _ _ e => e)).trans o5 (fun k _ e => by have e' : k = m := e; have := (unhide HON).size; omega)).trans (o6.mono (T := fun k => w.heap.size ≤ k) (fun _ _ e => e.elim)) (fun _ _ e => e))
  have HW : Hid (WB w.heap.size w6 q g x (Mu0 []) (fun k => k = g) m (Mu0 []) [] none (Ext H0 w4 w5) mb (Mu0 []) [] Hb (fun b => b = kb)) := hide (by
    obtain ⟨st, la, hd, cf, cu, hlo, o12, alt, xl, s1⟩ := unhide HS
    have hkb := unhide HKB
    have z12 := o12.size
    refine WB.start (unhide HRX) cu (fun k hk => ?_) (by omega) hH0 hm o4 n5 o5 n6 hHb o6 (fun b hb => ?_)
    · rcases hk with c | c | c
      · exact hlo k (.inl c)
      · exact hlo k (.inr c)
      · omega
    · subst hb
      exact ⟨fun c => (by have := alt _ c; omega), by omega, by omega, by omega, by omega⟩)
  clear HRX HS n5 n6 hH0 hm hHb o4 o5 o6 hmw hg hg2 s3 s4 kbl HKB
  have oG : Only (fun _ => False) w6 (w6.alloc (.cells #[.slice none 0 0, .slice none 0 0, .slice none 0 0, .slice none 0 0, .slice none 0 0, .bool false, .bool false, .bool false, .bool false] 42)) := (Only.refl _ w6).alloc _
  have HW := hide ((unhide HW).add (E' := fun b => b = kb ∨ False) oG (fun b hb => hb.imp id (fun c => c.elim)))
  have HBX := hide ((unhide HBX).keep oG (fun e => e))
  have HON := hide ((unhide HON).trans (oG.mono (T := fun k => w.heap.size ≤ k) (fun _ _ e => e.elim)) (fun _ _ e => e))
  clear oG 
  go_upto_region 7 with fail
  generalize w6.alloc (.cells #[.slice none 0 0, .slice none 0 0, .slice none 0 0, .slice none 0 0, .slice none 0 0, .bool false, .bool false, .bool false, .bool false] 42) = w7 at *
  generalize w6.heap.size = kG at *
  have c0 : w7.cell? ⟨kb, 0, none⟩ = some (.pointer (some ⟨q.d, 0, none⟩)) := (unhide HBX).cell 0
  have c1 : w7.cell? ⟨kb, 1, none⟩ = some (.pointer (some ⟨x, 0, none⟩)) := (unhide HBX).cell 1
  have cl := (unhide HBX).lt
  have CT := xlsteps_any x (unhide HW).rx.dk
  unfold jbV jbC at CT
  have CT := hide CT
  go_wp2_with fail
  refine (unhide CT).mono ?_
  rintro e w8 ⟨rfl, oT⟩
  have HBX := hide ((unhide HBX).keep oT (fun e => e))
  have HW := hide ((unhide HW).quiet oT)
  have HON := hide ((unhide HON).trans (oT.mono (T := fun k => w.heap.size ≤ k) (fun _ _ e => e.elim)) (fun _ _ e => e))
  clear c0 c1 cl
  clear CT oT
  have c0 : w8.cell? ⟨kb, 0, none⟩ = some (.pointer (some ⟨q.d, 0, none⟩)) := (unhide HBX).cell 0
  have c1 : w8.cell? ⟨kb, 1, none⟩ = some (.pointer (some ⟨x, 0, none⟩)) := (unhide HBX).cell 1
  have cl := (unhide HBX).lt
  have CT := xlbracket_any q.d (unhide HW).rx
  unfold jbV jbC at CT
  have CT := hide CT
  go_wp2_with fail
  refine (unhide CT).mono ?_
  rintro e w9 ⟨rfl, oT⟩
  have HBX := hide ((unhide HBX).keep oT (fun e => e))
  have HW := hide ((unhide HW).quiet oT)
  have HON := hide ((unhide HON).trans (oT.mono (T := fun k => w.heap.size ≤ k) (fun _ _ e => e.elim)) (fun _ _ e => e))
  clear c0 c1 cl
  clear CT oT
  have HZ := hide (show LQ w kb (.pointer (some ⟨g, 0, none⟩)) (.pointer (some ⟨m, 0, none⟩)) (.pointer (some ⟨mb, 0, none⟩)) w9 from ⟨q, g, x, _, _, m, _, _, _, mb, _, _, _, rfl, rfl, rfl, unhide HBX, (unhide HW).sub (fun b hb => hb), unhide HON⟩)
  clear HBX HW HON
  go_upto_region 18 with fail
  go_loopw [9, 10, 11, 12, 14, 15, 16, 17, 18, 19, 20, 21, 22, 23, 24, 25, 26] (fun tv mv bv gv iv _ _ _ _ _ _ _ _ _ _ _ _ wr => ∃ kk : Nat, kk ≤ len ∧ iv = .int .i64 kk ∧ LQ w kb tv mv bv wr) (fun _ _ _ _ iv _ _ _ _ _ _ _ _ _ _ _ _ _ => len - (intOf iv).toNat)
  case atStart => exact ⟨0, Nat.zero_le _, rfl, unhide HZ⟩
  case round =>
    clear HZ
    obtain ⟨kk, hk, rfl, q, g, x, M, K, m, U, hist, H, mb, Mb, Ub, Hb, rfl, rfl, rfl, BX, WW, ON⟩ := hrel
    have hbel : Below w.heap.size w wr := Only.bel (Below.refl _ _) ON (fun _ h => h)
    by_cases hkl : kk < len
    · obtain ⟨hol, hoa⟩ := hops
      obtain ⟨ab, aoff, rfl, hcells⟩ := hoa (by omega)
      obtain ⟨y0, y1, y2, y3, y4, y5, hsz, hst⟩ := hcells kk (by omega)
      clear hcells hoa
      have hab : ab < w.heap.size := World.block_lt_of_cell? w ⟨ab, aoff + kk * 6, none⟩ y0
      rw [← hbel.cell (p := ⟨ab, aoff + kk * 6, none⟩) hab] at y0
      rw [← hbel.cell (p := ⟨ab, aoff + kk * 6 + 1, none⟩) hab] at y1
      rw [← hbel.cell (p := ⟨ab, aoff + kk * 6 + 2, none⟩) hab] at y2
      rw [← hbel.cell (p := ⟨ab, aoff + kk * 6 + 3, none⟩) hab] at y3
      rw [← hbel.cell (p := ⟨ab, aoff + kk * 6 + 4, none⟩) hab] at y4
      rw [← hbel.cell (p := ⟨ab, aoff + kk * 6 + 5, none⟩) hab] at y5
      generalize ops[kk]'(by omega) = oo at *
      obtain ⟨ok, oa, ob, oc, os, ot⟩ := oo
      simp only at y0 y1 y2 y3 y4 y5 hsz hst
      have hkI : (kk : Int) < (len : Int) := by omega
      have hkD : decide ((kk : Int) < (len : Int)) = true := decide_eq_true hkI
      have hkM : decide ((kk : Int) < 4398046511104) = true := by simp; omega
      have HST := hide hst
      have oo : Only (fun _ => False) wr (wr.alloc (.cells #[.int .i64 ok, .int .i64 oa, .int .i64 ob, .int .i64 oc, .string os, .string ot] 44)) := (Only.refl _ wr).alloc _
      have HOB := hide (Has.new wr #[.int .i64 ok, .int .i64 oa, .int .i64 ob, .int .i64 oc, .string os, .string ot] 44)
      have HW := hide (WW.add (E' := fun b => (fun b => b = kb ∨ False) b ∨ b = wr.heap.size) oo (fun b hb => hb.imp id (fun c => ⟨by omega, by rw [c]; simp⟩)))
      have ogkb : kb < wr.heap.size := BX.lt
      have BX := BX.keep oo (fun e => e)
      unfold jbC at BX
      have HBX := hide BX
      have HON := hide (ON.trans (oo.mono (T := fun k => w.heap.size ≤ k) (fun _ _ e => e.elim)) (fun _ _ e => e))
      clear WW ON BX hol hsz hst hbel oo
      go_upto_region 21 with fail
      generalize wr.alloc (.cells #[.int .i64 ok, .int .i64 oa, .int .i64 ob, .int .i64 oc, .string os, .string ot] 44) = wa at *
      generalize wr.heap.size = og at *
      clear y0 y1 y2 y3 y4 y5
      by_cases hcut : ok = 18
      · subst hcut
        have k0 : wa.cell? ⟨og, 0, none⟩ = some (.int .i64 18) := (unhide HOB).cell 0
        have k1 : wa.cell? ⟨og, 1, none⟩ = some (.int .i64 oa) := (unhide HOB).cell 1
        have k2 : wa.cell? ⟨og, 2, none⟩ = some (.int .i64 ob) := (unhide HOB).cell 2
        have k3 : wa.cell? ⟨og, 3, none⟩ = some (.int .i64 oc) := (unhide HOB).cell 3
        have k4 : wa.cell? ⟨og, 4, none⟩ = some (.string os) := (unhide HOB).cell 4
        have k5 : wa.cell? ⟨og, 5, none⟩ = some (.string ot) := (unhide HOB).cell 5
        have kl := (unhide HOB).lt
        have c0 : wa.cell? ⟨kb, 0, none⟩ = some (.pointer (some ⟨q.d, 0, none⟩)) := (unhide HBX).cell 0
        have c1 : wa.cell? ⟨kb, 1, none⟩ = some (.pointer (some ⟨x, 0, none⟩)) := (unhide HBX).cell 1
        have cl := (unhide HBX).lt
        have CT := xlsteps_any x (unhide HW).rx.dk
        unfold jbV jbC at CT
        have CT := hide CT
        go_wp2_with fail
        refine (unhide CT).mono ?_
        rintro e wb ⟨rfl, oT⟩
        have HBX := hide ((unhide HBX).keep oT (fun e => e))
        have HOB := hide ((unhide HOB).keep oT (fun e => e))
        have HW := hide ((unhide HW).quiet oT)
        have HON := hide ((unhide HON).trans (oT.mono (T := fun k => w.heap.size ≤ k) (fun _ _ e => e.elim)) (fun _ _ e => e))
        clear c0 c1 cl
        clear k0 k1 k2 k3 k4 k5 kl
        clear CT oT
        have kbk0 := (unhide HBX).lt
        have c0 : wb.cell? ⟨kb, 0, none⟩ = some (.pointer (some ⟨q.d, 0, none⟩)) := (unhide HBX).cell 0
        have c1 : wb.cell? ⟨kb, 1, none⟩ = some (.pointer (some ⟨x, 0, none⟩)) := (unhide HBX).cell 1
        have cl := (unhide HBX).lt
        have oo : Only (fun _ => False) wb (wb.alloc (.cells #[.pointer (some ⟨q.d, 0, none⟩), .pointer (some ⟨x, 0, none⟩)] 30)) := (Only.refl _ wb).alloc _
        have HB0 := hide (Has.new wb #[.pointer (some ⟨q.d, 0, none⟩), .pointer (some ⟨x, 0, none⟩)] 30)
        have HW := hide ((unhide HW).add (E' := fun b => (b = kb ∨ b = og) ∨ b = wb.heap.size) oo (fun b hb => by
          rcases hb with (c | c) | c
          · exact .inl (.inl (.inl c))
          · exact .inl (.inr c)
          · exact .inr ⟨by omega, by rw [c]; simp⟩))
        have HBX := hide ((unhide HBX).keep oo (fun e => e))
        have HOB := hide ((unhide HOB).keep oo (fun e => e))
        have HON := hide ((unhide HON).trans (oo.mono (T := fun k => w.heap.size ≤ k) (fun _ _ e => e.elim)) (fun _ _ e => e))
        go_upto_region 48 with fail
        generalize wb.alloc (.cells #[.pointer (some ⟨q.d, 0, none⟩), .pointer (some ⟨x, 0, none⟩)] 30) = wd at *
        generalize wb.heap.size = k0b at *
        clear c0 c1 cl
        clear oo
        obtain ⟨X, D, lX, hX, hCD, hor, hfoot, hwork⟩ := (unhide HW).pick oa
        obtain ⟨Sx, hSx, hDx⟩ := id hCD
        have HX := hide (And.intro lX (And.intro hX (And.intro hCD (And.intro hSx hDx))))
        have HV := hide (And.intro hor (And.intro hfoot hwork))
        clear lX hX hCD hor hfoot hwork hSx hDx
        have HD := HW
        have HSZ := hide (Nat.le_refl wd.heap.size)
        have hbb := ((unhide HD).ex kb (.inl (.inl rfl))).2.2.2.2.2.1
        have hog := ((unhide HD).ex og (.inl (.inr rfl))).2.2.2.2.2.1
        have hg0 := ((unhide HD).ex k0b (.inr rfl)).2.2.2.2.2.1
        have hlo0 := (unhide HD).los
        have nkb : kb < wd.heap.size := hbb
        have nog : og ≠ kb := fun e => by have := ogkb; omega
        have nb0 : k0b ≠ kb := by omega
        have CA := xlafter_any x oa (unhide HW).rx.dk (unhide HW).cu (unhide HX).1 (unhide HX).2.1 (unhide HX).2.2.1 (unhide HX).2.2.2.1 (unhide HX).2.2.2.2
        unfold jbV jbC at CA
        have CA := hide CA
        have z0 : wd.cell? ⟨k0b, 0, none⟩ = some (.pointer (some ⟨q.d, 0, none⟩)) := (unhide HB0).cell 0
        have z1 : wd.cell? ⟨k0b, 1, none⟩ = some (.pointer (some ⟨x, 0, none⟩)) := (unhide HB0).cell 1
        have zl := (unhide HB0).lt
        have k1 : wd.cell? ⟨og, 1, none⟩ = some (.int .i64 oa) := (unhide HOB).cell 1
        have kl := (unhide HOB).lt
        go_wp2_with fail
        refine (unhide CA).mono ?_
        rintro e we ⟨wq, wx, wS, wT, rfl, st2, la2, hd2, cf2, cu2, hlo2, oe⟩
        clear CA z0 z1 zl k1 kl
        have HW := hide ((unhide HW).quiet oe)
        have HBX := hide ((unhide HBX).keep oe (fun e => e))
        have HOB := hide ((unhide HOB).keep oe (fun e => e))
        have HB0 := hide ((unhide HB0).keep oe (fun e => e))
        have HON := hide ((unhide HON).trans (oe.mono (T := fun k => w.heap.size ≤ k) (fun _ _ e => e.elim)) (fun _ _ e => e))
        have HSZ := hide (Nat.le_trans (unhide HSZ) oe.size)
        have c0 := (unhide HBX).cell 0
        have c1 := (unhide HBX).cell 1
        have f0 := (unhide HBX).free 0
        have f1 := (unhide HBX).free 1
        have cl := (unhide HBX).lt
        simp [jbC] at c0 c1
        have oo2 : Only (fun k => k = kb) we ((we.setCell ⟨kb, 0, none⟩ (.pointer (some ⟨wq.d, 0, none⟩))).setCell ⟨kb, 1, none⟩ (.pointer (some ⟨wx, 0, none⟩))) := (only1 (p := kb) _ _).trans (only1 (p := kb) _ _) (fun _ _ h => h)
        have HBX := hide (show Has ((we.setCell ⟨kb, 0, none⟩ (.pointer (some ⟨wq.d, 0, none⟩))).setCell ⟨kb, 1, none⟩ (.pointer (some ⟨wx, 0, none⟩))) kb #[.pointer (some ⟨wq.d, 0, none⟩), .pointer (some ⟨wx, 0, none⟩)] 30 from ((unhide HBX).setCell 0 _).setCell 1 _)
        have HOB := hide ((unhide HOB).keep oo2 (fun e => nog e))
        have HB0 := hide ((unhide HB0).keep oo2 (fun e => nb0 e))
        have HW := hide ((unhide HW).own oo2 (fun b c => .inl (.inl c)))
        have HSZ := hide (Nat.le_trans (unhide HSZ) oo2.size)
        have HON := hide ((unhide HON).trans oo2 (fun k _ c => by have c' : k = kb := c; rw [c']; exact ((unhide HD).ex kb (.inl (.inl rfl))).2.2.2.2.2.2))
        have wz := oe.size
        have st3 := st2.keep oo2 (fun k hk c => by have c' : k = kb := c; have := hlo2 k hk; omega)
        have HS2 := hide (And.intro st3 (And.intro la2 (And.intro hd2 (And.intro cf2 (And.intro cu2 (And.intro hlo2 (And.intro st2.fv.Alt st2.has.lt)))))))
        have wz2 := oo2.size
        unfold jbV jbC
        clear st2 st3 la2 hd2 cf2 cu2 hlo2 oe oo2
        go_upto_region 49 with fail
        generalize (we.setCell ⟨kb, 0, none⟩ (.pointer (some ⟨wq.d, 0, none⟩))).setCell ⟨kb, 1, none⟩ (.pointer (some ⟨wx, 0, none⟩)) = wf at *
        clear c0 c1 f0 f1 cl
        have c1 : wf.cell? ⟨kb, 1, none⟩ = some (.pointer (some ⟨wx, 0, none⟩)) := (unhide HBX).cell 1
        have cl := (unhide HBX).lt
        have C3 := hide (xopen_any wx wf)
        go_wp2_with fail
        refine (unhide C3).mono ?_
        rintro e wg ⟨wp, rfl, whp, xm3, o4⟩
        clear C3 c1 cl
        have wz4 := o4.size
        have rx4 := RX.new ((unhide HS2).1.quiet o4) (unhide HS2).2.1 (unhide HS2).2.2.2.1 xm3 ⟨fun c => (by have := (unhide HS2).2.2.2.2.2.2.1 _ c; omega), by have := (unhide HS2).2.2.2.2.2.2.2; omega⟩
        rw [(unhide HS2).2.2.1] at rx4
        have wpl := xm3.lt wp (.inl rfl)
        have wA : ∀ k, wq.A k ∨ k = wx ∨ k = wp → wd.heap.size ≤ k := fun k hk => by
          rcases hk with c | c | c
          · exact (unhide HS2).2.2.2.2.2.1 k (.inl c)
          · exact (unhide HS2).2.2.2.2.2.1 k (.inr c)
          · omega
        have HR2 := hide rx4
        have HCU := hide (unhide HS2).2.2.2.2.1
        have HW := hide ((unhide HW).quiet o4)
        have HBX := hide ((unhide HBX).keep o4 (fun e => e))
        have HOB := hide ((unhide HOB).keep o4 (fun e => e))
        have HB0 := hide ((unhide HB0).keep o4 (fun e => e))
        have HON := hide ((unhide HON).trans (o4.mono (T := fun k => w.heap.size ≤ k) (fun _ _ e => e.elim)) (fun _ _ e => e))
        have HSZ := hide (Nat.le_trans (unhide HSZ) o4.size)
        clear rx4 xm3 o4 HS2
        have qS1 : ∀ k, wq.S k → wd.heap.size ≤ k := fun k hk => wA k (.inl (Gnd.S_A hk))
        have c0 : wg.cell? ⟨kb, 0, none⟩ = some (.pointer (some ⟨wq.d, 0, none⟩)) := (unhide HBX).cell 0
        have c1 : wg.cell? ⟨kb, 1, none⟩ = some (.pointer (some ⟨wx, 0, none⟩)) := (unhide HBX).cell 1
        have cl := (unhide HBX).lt
        have CT := xlsteps_any wx (unhide HR2).dk
        unfold jbV jbC at CT
        have CT := hide CT
        go_wp2_with fail
        refine (unhide CT).mono ?_
        rintro e wh ⟨rfl, oT⟩
        have HW := hide ((unhide HW).quiet oT)
        have HBX := hide ((unhide HBX).keep oT (fun e => e))
        have HOB := hide ((unhide HOB).keep oT (fun e => e))
        have HB0 := hide ((unhide HB0).keep oT (fun e => e))
        have HON := hide ((unhide HON).trans (oT.mono (T := fun k => w.heap.size ≤ k) (fun _ _ e => e.elim)) (fun _ _ e => e))
        have HSZ := hide (Nat.le_trans (unhide HSZ) oT.size)
        have HR2 := hide ((unhide HR2).quiet oT)
        clear c0 c1 cl
        clear CT oT
        have c0 : wh.cell? ⟨kb, 0, none⟩ = some (.pointer (some ⟨wq.d, 0, none⟩)) := (unhide HBX).cell 0
        have c1 : wh.cell? ⟨kb, 1, none⟩ = some (.pointer (some ⟨wx, 0, none⟩)) := (unhide HBX).cell 1
        have cl := (unhide HBX).lt
        have CT := xlbracket_any wq.d (unhide HR2)
        unfold jbV jbC at CT
        have CT := hide CT
        go_wp2_with fail
        refine (unhide CT).mono ?_
        rintro e wi ⟨rfl, oT⟩
        have HW := hide ((unhide HW).quiet oT)
        have HBX := hide ((unhide HBX).keep oT (fun e => e))
        have HOB := hide ((unhide HOB).keep oT (fun e => e))
        have HB0 := hide ((unhide HB0).keep oT (fun e => e))
        have HON := hide ((unhide HON).trans (oT.mono (T := fun k => w.heap.size ≤ k) (fun _ _ e => e.elim)) (fun _ _ e => e))
        have HSZ := hide (Nat.le_trans (unhide HSZ) oT.size)
        have HR2 := hide ((unhide HR2).quiet oT)
        clear c0 c1 cl
        clear CT oT
        have CT := hide (rcheck_any (unhide HR2))
        go_wp2_with fail
        refine (unhide CT).mono ?_
        rintro e wj ⟨rfl, rT, oT⟩
        have HW := hide ((unhide HD).far (unhide HW) oT qS1)
        have HBX := hide ((unhide HBX).keep oT (fun c => by have := qS1 kb c; omega))
        have HOB := hide ((unhide HOB).keep oT (fun c => by have := qS1 og c; omega))
        have HB0 := hide ((unhide HB0).keep oT (fun c => by have := qS1 k0b c; omega))
        have HON := hide ((unhide HON).trans oT (fun k _ c => by have := qS1 k c; omega))
        have HSZ := hide (Nat.le_trans (unhide HSZ) oT.size)
        have HR2 := hide rT
        clear CT oT rT
        have CB := xncrashed_any (unhide HW).nb
        have eT : lastY none Ub = Ub := rfl
        rw [eT] at CB
        clear eT
        have CB := hide CB
        go_wp2_with fail
        refine (unhide CB).mono ?_
        rintro e wk ⟨mc, Hc, rfl, nmc, hmc, oB⟩
        have smc := (unhide HON).size
        have zmc := unhide HSZ
        have szmc := (unhide HR2).Alt
        have HW := hide ((unhide HW).quiet oB)
        have HBX := hide ((unhide HBX).keep oB (fun e => e))
        have HOB := hide ((unhide HOB).keep oB (fun e => e))
        have HB0 := hide ((unhide HB0).keep oB (fun e => e))
        have HON := hide ((unhide HON).trans (oB.mono (T := fun k => w.heap.size ≤ k) (fun _ _ e => e.elim)) (fun _ _ e => e))
        have HSZ := hide (Nat.le_trans (unhide HSZ) oB.size)
        have HR2b := HR2
        have HR2 := hide ((unhide HR2).quiet oB)
        have apmc : Apt wq wx (fun k => k = wp) Hc wk := ⟨fun b hb => by
          have h1 := hmc b hb
          exact ⟨fun c => by have := (unhide HR2b).Alt.1 b c; omega, fun c => by have := (unhide HR2b).Alt.2; omega, fun c => by have := ((unhide HR2b).kA b c).2.2; omega⟩, fun b hb => by
          rcases hb with c | c | c
          · exact (unhide HR2).Alt.1 b c
          · rw [c]; exact (unhide HR2).Alt.2
          · exact ((unhide HR2).kA b c).2.2, nmc.lt⟩
        have lwmc : ∀ b, Hc b → wd.heap.size ≤ b := fun b hb => by have := hmc b hb; omega
        have CT := hide (xlalike_any (⟨unhide HR2, nmc, Only.refl _ _⟩ : AL wq wp wx mc (Mu0 D) (Mu0 Ub) (fun k => k = wp) Hc Ub none wk wk) apmc nmc.dok.len)
        have HMM := hide (And.intro nmc.hm (And.intro lwmc nmc.dok))
        clear CB oB hmc zmc smc szmc HR2b apmc lwmc nmc
        go_wp2_with fail
        refine (unhide CT).mono ?_
        rintro e wl ⟨b1, rfl, hb1, aT⟩
        have hBb1 : ∀ k, (wq.S k ∨ k = mc) → wd.heap.size ≤ k := fun k c => c.elim (qS1 k) (fun c => by rw [c]; exact (unhide HMM).2.1 _ (unhide HMM).1)
        have HW := hide ((unhide HD).far (unhide HW) aT.on hBb1)
        have HBX := hide ((unhide HBX).keep aT.on (fun c => by have := hBb1 kb c; omega))
        have HOB := hide ((unhide HOB).keep aT.on (fun c => by have := hBb1 og c; omega))
        have HB0 := hide ((unhide HB0).keep aT.on (fun c => by have := hBb1 k0b c; omega))
        have HON := hide ((unhide HON).trans aT.on (fun k _ c => by have := hBb1 k c; omega))
        have HSZ := hide (Nat.le_trans (unhide HSZ) aT.on.size)
        have HB1 := hide (show b1 = true ↔ D = Ub from hb1.trans ⟨fun h => Obs.mu0 aT.rx.dg.1 (unhide HMM).2.2 h, fun h => by rw [h]; exact Obs.refl _⟩)
        have HR2 := hide aT.rx
        clear CT aT hb1 hBb1 HMM
        have CB := xncrashed_any (unhide HW).nm
        rw [(unhide HW).ul] at CB
        have CB := hide CB
        go_wp2_with fail
        refine (unhide CB).mono ?_
        rintro e wm ⟨md, Hd, rfl, nmd, hmd, oB⟩
        have smd := (unhide HON).size
        have zmd := unhide HSZ
        have szmd := (unhide HR2).Alt
        have HW := hide ((unhide HW).quiet oB)
        have HBX := hide ((unhide HBX).keep oB (fun e => e))
        have HOB := hide ((unhide HOB).keep oB (fun e => e))
        have HB0 := hide ((unhide HB0).keep oB (fun e => e))
        have HON := hide ((unhide HON).trans (oB.mono (T := fun k => w.heap.size ≤ k) (fun _ _ e => e.elim)) (fun _ _ e => e))
        have HSZ := hide (Nat.le_trans (unhide HSZ) oB.size)
        have HR2b := HR2
        have HR2 := hide ((unhide HR2).quiet oB)
        have apmd : Apt wq wx (fun k => k = wp) Hd wm := ⟨fun b hb => by
          have h1 := hmd b hb
          exact ⟨fun c => by have := (unhide HR2b).Alt.1 b c; omega, fun c => by have := (unhide HR2b).Alt.2; omega, fun c => by have := ((unhide HR2b).kA b c).2.2; omega⟩, fun b hb => by
          rcases hb with c | c | c
          · exact (unhide HR2).Alt.1 b c
          · rw [c]; exact (unhide HR2).Alt.2
          · exact ((unhide HR2).kA b c).2.2, nmd.lt⟩
        have lwmd : ∀ b, Hd b → wd.heap.size ≤ b := fun b hb => by have := hmd b hb; omega
        have CT := hide (xlalike_any (⟨unhide HR2, nmd, Only.refl _ _⟩ : AL wq wp wx md (Mu0 D) (Mu0 M.com) (fun k => k = wp) Hd M.com none wm wm) apmd nmd.dok.len)
        have HMM := hide (And.intro nmd.hm (And.intro lwmd nmd.dok))
        clear CB oB hmd zmd smd szmd HR2b apmd lwmd nmd
        go_wp2_with fail
        refine (unhide CT).mono ?_
        rintro e wn ⟨b2, rfl, hb2, aT⟩
        have hBb2 : ∀ k, (wq.S k ∨ k = md) → wd.heap.size ≤ k := fun k c => c.elim (qS1 k) (fun c => by rw [c]; exact (unhide HMM).2.1 _ (unhide HMM).1)
        have HW := hide ((unhide HD).far (unhide HW) aT.on hBb2)
        have HBX := hide ((unhide HBX).keep aT.on (fun c => by have := hBb2 kb c; omega))
        have HOB := hide ((unhide HOB).keep aT.on (fun c => by have := hBb2 og c; omega))
        have HB0 := hide ((unhide HB0).keep aT.on (fun c => by have := hBb2 k0b c; omega))
        have HON := hide ((unhide HON).trans aT.on (fun k _ c => by have := hBb2 k c; omega))
        have HSZ := hide (Nat.le_trans (unhide HSZ) aT.on.size)
        have HB2 := hide (show b2 = true ↔ D = M.com from hb2.trans ⟨fun h => Obs.mu0 aT.rx.dg.1 (unhide HMM).2.2 h, fun h => by rw [h]; exact Obs.refl _⟩)
        have HR2 := hide aT.rx
        clear CT aT hb2 hBb2 HMM
        have wnd := unhide HSZ
        have C4 : Calls Tryz.prog 18 #[.pointer (some ⟨wp, 0, none⟩), .int .i64 0] wn (SoW wq wn wp wx (Mu0 D) (fun k => k = wp) D) := shadowOf_any (s := 0) (unhide HR2) (by omega) rfl rfl
        have C4 := hide C4
        have HGD := hide (show DOk D from ⟨(unhide HR2).dg.1.tb, (unhide HR2).dg.1.srt, (unhide HR2).dg.1.len⟩)
        have HRl := hide (show ∀ b, wq.A b ∨ b = wx ∨ b = wp → b < wn.heap.size from fun b hb => by
          rcases hb with c | c | c
          · exact (unhide HR2).Alt.1 b c
          · rw [c]; exact (unhide HR2).Alt.2
          · exact ((unhide HR2).kA b c).2.2)
        go_wp2_with fail
        refine (unhide C4).mono ?_
        rintro e wo ⟨tv, l5, rfl, hM5, ht5, hn5, rx5, o5⟩
        have HW := hide ((unhide HD).far (unhide HW) o5 qS1)
        have HBX := hide ((unhide HBX).keep o5 (fun c => by have := qS1 kb c; omega))
        have HOB := hide ((unhide HOB).keep o5 (fun c => by have := qS1 og c; omega))
        have HB0 := hide ((unhide HB0).keep o5 (fun c => by have := qS1 k0b c; omega))
        have HON := hide ((unhide HON).trans o5 (fun k _ c => by have := qS1 k c; omega))
        have HSZ := hide (Nat.le_trans (unhide HSZ) o5.size)
        have wnz := (unhide HON).size
        have woz := o5.size
        have gh := GhAt.new hM5 ht5 (unhide HGD)
        have oB : Only (fun _ => False) wo (wo.alloc (.cells (ghC (GhM.z tv l5)) 42)) := (Only.refl _ _).alloc _
        have HR2 := hide (rx5.quiet oB)
        have HW := hide ((unhide HW).quiet oB)
        have HBX := hide ((unhide HBX).keep oB (fun e => e))
        have HOB := hide ((unhide HOB).keep oB (fun e => e))
        have HB0 := hide ((unhide HB0).keep oB (fun e => e))
        have HON := hide ((unhide HON).trans (oB.mono (T := fun k => w.heap.size ≤ k) (fun _ _ e => e.elim)) (fun _ _ e => e))
        have HSZ := hide (Nat.le_trans (unhide HSZ) oB.size)
        obtain ⟨ta, tc, htv⟩ := hM5.shape
        obtain ⟨tn, htn⟩ : ∃ k, l5.length = k := ⟨_, rfl⟩
        rw [htn] at htv
        rw [ghz_cells] at HR2 HW HBX HOB HB0 HON HSZ
        rw [htv] at HR2 HW HBX HOB HB0 HON HSZ ⊢
        have wtz := hide (And.intro (unhide HSZ) trivial)
        clear hM5 ht5 hn5 rx5 o5 gh oB htv htn C4 HGD
        go_upto_region 59 with fail
        generalize wo.alloc (.cells #[.slice ta tn tc, .slice none 0 0, .slice none 0 0, .slice none 0 0, .slice none 0 0, .bool false, .bool false, .bool false, .bool false] 42) = wt at *
        generalize wo.heap.size = kG2 at *
        have HSZ := hide (unhide wtz).1
        have c0 : wt.cell? ⟨kb, 0, none⟩ = some (.pointer (some ⟨wq.d, 0, none⟩)) := (unhide HBX).cell 0
        have c1 : wt.cell? ⟨kb, 1, none⟩ = some (.pointer (some ⟨wx, 0, none⟩)) := (unhide HBX).cell 1
        have cl := (unhide HBX).lt
        have CT := xlsteps_any wx (unhide HR2).dk
        unfold jbV jbC at CT
        have CT := hide CT
        have b9 : ((wq.recs.length : Int) != (wq.recs.length : Int)) = false := by simp
        have b9n : (wq.recs.length != wq.recs.length) = false := by simp
        go_wp2_with fail
        refine (unhide CT).mono ?_
        rintro e wv ⟨rfl, oT⟩
        have HW := hide ((unhide HW).quiet oT)
        have HBX := hide ((unhide HBX).keep oT (fun e => e))
        have HOB := hide ((unhide HOB).keep oT (fun e => e))
        have HB0 := hide ((unhide HB0).keep oT (fun e => e))
        have HON := hide ((unhide HON).trans (oT.mono (T := fun k => w.heap.size ≤ k) (fun _ _ e => e.elim)) (fun _ _ e => e))
        have HSZ := hide (Nat.le_trans (unhide HSZ) oT.size)
        have HR2 := hide ((unhide HR2).quiet oT)
        clear c0 c1 cl
        clear CT oT
        have H12 := hide (show b1 = true ∨ b2 = true from (unhide HV).1.imp (unhide HB1).mpr (unhide HB2).mpr)
        have H0 := hide (show oa ≤ 0 → b1 = true from fun h => (unhide HB1).mpr ((unhide HV).2.1 h))
        have HNN := hide (show (q.recs.length : Int) ≤ oa → b2 = true from fun h => (unhide HB2).mpr ((unhide HV).2.2 h))
        have k1 : wv.cell? ⟨og, 1, none⟩ = some (.int .i64 oa) := (unhide HOB).cell 1
        have kl := (unhide HOB).lt
        go_upto_region 61 with fail
        clear b9 b9n
        go_cut [189] from 184 to 189 (fun v wy => v = .bool false ∧ wv = wy)
        case first =>
          rcases unhide H12 with h | h
          · subst h
            go_wp2_with fail
            go_meet
            exact ⟨rfl, rfl⟩
          · subst h
            cases b1
            · go_wp2_with fail
              go_meet
              exact ⟨rfl, rfl⟩
            · go_wp2_with fail
              go_meet
              exact ⟨rfl, rfl⟩
        case rest =>
        obtain ⟨rfl, rfl⟩ := hcut
        go_upto_region 63 with fail
        go_cut [198] from 192 to 198 (fun v wy => v = .bool false ∧ wv = wy)
        case first =>
          by_cases h0 : oa ≤ 0
          · have h0b := unhide H0 h0
            subst h0b
            have h0c : decide (oa ≤ 0) = true := by simpa using h0
            go_wp2_with fail
            go_meet
            exact ⟨rfl, rfl⟩
          · have h0b : decide (oa ≤ 0) = false := by simpa using h0
            go_wp2_with fail
            go_meet
            exact ⟨rfl, rfl⟩
        case rest =>
        obtain ⟨rfl, rfl⟩ := hcut
        go_upto_region 65 with fail
        go_cut [208] from 201 to 208 (fun v wy => v = .bool false ∧ wv = wy)
        case first =>
          by_cases h0 : (q.recs.length : Int) ≤ oa
          · have h0b := unhide HNN h0
            subst h0b
            have h0c : decide ((q.recs.length : Int) ≤ oa) = true := by simpa using h0
            have h0d : decide (oa ≥ (q.recs.length : Int)) = true := by simpa using h0
            go_wp2_with fail
            go_meet
            exact ⟨rfl, rfl⟩
          · have h0b : decide ((q.recs.length : Int) ≤ oa) = false := by simpa using h0
            have h0d : decide (oa ≥ (q.recs.length : Int)) = false := by simpa using h0
            go_wp2_with fail
            go_meet
            exact ⟨rfl, rfl⟩
        case rest =>
        obtain ⟨rfl, rfl⟩ := hcut
        as_aux_lemma =>
        have hwv := (unhide HON).size
        clear k1 kl
        go_upto_if 211 with fail
        go_cut [10] from 212 to 215 (fun mv wy => ∃ (m2 : Nat) (H2 : Nat → Prop), mv = .pointer (some ⟨m2, 0, none⟩) ∧ NX wy m2 (Mu0 D) D none H2 ∧ (∀ b, H2 b → wv.heap.size ≤ b) ∧ Only (fun _ => False) wv wy)
        case first =>
          cases b2 with
          | true =>
            refine wp_cond_true rfl ?_
            have CX : Calls Tryz.prog 34 #[.pointer (some ⟨m, 0, none⟩)] wv (NcP wv (Mu0 D) D) := by
              have h1 := xncrashed_any (unhide HW).nm
              rw [(unhide HW).ul, ← (unhide HB2).mp rfl] at h1
              exact h1
            have CX := hide CX
            go_wp2_with fail
            refine (unhide CX).mono ?_
            rintro e wy ⟨m2, H2, rfl, nc, hc, oc'⟩
            have FF := hide (And.intro nc (And.intro hc oc'))
            clear nc hc oc' CX
            go_wp2_with fail
            go_meet
            exact ⟨m2, H2, rfl, unhide FF⟩
          | false =>
            refine wp_cond_false rfl ?_
            have CX : Calls Tryz.prog 34 #[.pointer (some ⟨mb, 0, none⟩)] wv (NcP wv (Mu0 D) D) := by
              have h1 := xncrashed_any (unhide HW).nb
              have e1 : D = Ub := by
                rcases (unhide HV).1 with c | c
                · exact c
                · have := (unhide HB2).mpr c; cases this
              have e2 : lastY none Ub = D := e1.symm
              rw [e2] at h1
              exact h1
            have CX := hide CX
            go_wp2_with fail
            refine (unhide CX).mono ?_
            rintro e wy ⟨m2, H2, rfl, nc, hc, oc'⟩
            have FF := hide (And.intro nc (And.intro hc oc'))
            clear nc hc oc' CX
            go_wp2_with fail
            go_meet
            exact ⟨m2, H2, rfl, unhide FF⟩
        case rest =>
        obtain ⟨m2, H2, rfl, n4, hH2, o4⟩ := hcut
        generalize wc = wy at *
        as_aux_lemma =>
        have hm2 := n4.hm
        have C4 := hide (xnmark_any n4)
        clear H12 H0 HNN HB1 HB2
        go_wp2_with fail
        refine (unhide C4).mono ?_
        rintro e w5 ⟨rfl, n5, o5⟩
        have n5 : NX w5 m2 (Mu0 D) D none (Ext H2 wy w5) := n5
        have C5 := hide (xnclone_any n5)
        clear C4
        go_wp2_with fail
        refine (unhide C5).mono ?_
        rintro e w6 ⟨mb2, Hb2, rfl, n6, hHb2, o6⟩
        clear C5
        have hmw := hH2 m2 hm2
        have hRl := unhide HRl
        have wvd : wd.heap.size ≤ wv.heap.size := unhide HSZ
        have kwv : kb < wv.heap.size := (unhide HBX).lt
        have hB5 : ∀ k, k = m2 → wd.heap.size ≤ k := fun k e => by rw [e]; omega
        have WN := WB.start (lo := w.heap.size) (E := (fun b => (b = kb ∨ b = og) ∨ b = k0b)) (unhide HR2) (unhide HCU) (fun k hk => by have := wA k hk; omega) hwv hH2 hm2 o4 n5 o5 n6 hHb2 o6 (fun b hb => by
          have k := (unhide HD).ex b hb
          exact ⟨fun c => by have := wA b (.inl c); omega, fun c => by have := wA b (.inr (.inl c)); omega, fun c => by have := wA b (.inr (.inr c)); omega, by omega, k.2.2.2.2.2.2⟩)
        have HW := hide ((unhide HD).far (unhide HW) (o4.mono (T := fun k => wd.heap.size ≤ k) (fun _ _ e => e.elim)) (fun k h => h))
        have HBX := hide ((unhide HBX).keep (o4.mono (T := fun k => wd.heap.size ≤ k) (fun _ _ e => e.elim)) (fun c => by have := (fun k h => h) kb c; omega))
        have HOB := hide ((unhide HOB).keep (o4.mono (T := fun k => wd.heap.size ≤ k) (fun _ _ e => e.elim)) (fun c => by have := (fun k h => h) og c; omega))
        have HB0 := hide ((unhide HB0).keep (o4.mono (T := fun k => wd.heap.size ≤ k) (fun _ _ e => e.elim)) (fun c => by have := (fun k h => h) k0b c; omega))
        have HON := hide ((unhide HON).trans (o4.mono (T := fun k => wd.heap.size ≤ k) (fun _ _ e => e.elim)) (fun k _ c => by have := (fun k h => h) k c; omega))
        have HSZ := hide (Nat.le_trans (unhide HSZ) (o4.mono (T := fun k => wd.heap.size ≤ k) (fun _ _ e => e.elim)).size)
        have HW := hide ((unhide HD).far (unhide HW) o5 hB5)
        have HBX := hide ((unhide HBX).keep o5 (fun c => by have := hB5 kb c; omega))
        have HOB := hide ((unhide HOB).keep o5 (fun c => by have := hB5 og c; omega))
        have HB0 := hide ((unhide HB0).keep o5 (fun c => by have := hB5 k0b c; omega))
        have HON := hide ((unhide HON).trans o5 (fun k _ c => by have := hB5 k c; omega))
        have HSZ := hide (Nat.le_trans (unhide HSZ) o5.size)
        have HW := hide ((unhide HD).far (unhide HW) (o6.mono (T := fun k => wd.heap.size ≤ k) (fun _ _ e => e.elim)) (fun k h => h))
        have HBX := hide ((unhide HBX).keep (o6.mono (T := fun k => wd.heap.size ≤ k) (fun _ _ e => e.elim)) (fun c => by have := (fun k h => h) kb c; omega))
        have HOB := hide ((unhide HOB).keep (o6.mono (T := fun k => wd.heap.size ≤ k) (fun _ _ e => e.elim)) (fun c => by have := (fun k h => h) og c; omega))
        have HB0 := hide ((unhide HB0).keep (o6.mono (T := fun k => wd.heap.size ≤ k) (fun _ _ e => e.elim)) (fun c => by have := (fun k h => h) k0b c; omega))
        have HON := hide ((unhide HON).trans (o6.mono (T := fun k => wd.heap.size ≤ k) (fun _ _ e => e.elim)) (fun k _ c => by have := (fun k h => h) k c; omega))
        have HSZ := hide (Nat.le_trans (unhide HSZ) (o6.mono (T := fun k => wd.heap.size ≤ k) (fun _ _ e => e.elim)).size)
        have HWN := hide WN
        clear WN n4 n5 n6 hH2 hm2 hHb2 o4 o5 o6 HR2 HCU HV HRl hRl hB5
        as_aux_lemma =>
        have HDN := HWN
        have w6d : wd.heap.size ≤ w6.heap.size := unhide HSZ
        have CA := xlafter_any x oa (unhide HW).rx.dk (unhide HW).cu (unhide HX).1 (unhide HX).2.1 (unhide HX).2.2.1 (unhide HX).2.2.2.1 (unhide HX).2.2.2.2
        unfold jbV jbC at CA
        have CA := hide CA
        have z0 : w6.cell? ⟨k0b, 0, none⟩ = some (.pointer (some ⟨q.d, 0, none⟩)) := (unhide HB0).cell 0
        have z1 : w6.cell? ⟨k0b, 1, none⟩ = some (.pointer (some ⟨x, 0, none⟩)) := (unhide HB0).cell 1
        have zl := (unhide HB0).lt
        have k1 : w6.cell? ⟨og, 1, none⟩ = some (.int .i64 oa) := (unhide HOB).cell 1
        have kl := (unhide HOB).lt
        go_wp2_with fail
        refine (unhide CA).mono ?_
        rintro e xe ⟨xq, xx, xS, xT, rfl, st2, la2, hd2, cf2, cu2, hlo2, oe⟩
        clear CA z0 z1 zl k1 kl
        have HW := hide ((unhide HW).quiet oe)
        have HWN := hide ((unhide HWN).quiet oe)
        have HBX := hide ((unhide HBX).keep oe (fun e => e))
        have HOB := hide ((unhide HOB).keep oe (fun e => e))
        have HB0 := hide ((unhide HB0).keep oe (fun e => e))
        have HON := hide ((unhide HON).trans (oe.mono (T := fun k => w.heap.size ≤ k) (fun _ _ e => e.elim)) (fun _ _ e => e))
        have HSZ := hide (Nat.le_trans (unhide HSZ) oe.size)
        have c0 := (unhide HBX).cell 0
        have c1 := (unhide HBX).cell 1
        have f0 := (unhide HBX).free 0
        have f1 := (unhide HBX).free 1
        have cl := (unhide HBX).lt
        simp [jbC] at c0 c1
        have oo2 : Only (fun k => k = kb) xe ((xe.setCell ⟨kb, 0, none⟩ (.pointer (some ⟨xq.d, 0, none⟩))).setCell ⟨kb, 1, none⟩ (.pointer (some ⟨xx, 0, none⟩))) := (only1 (p := kb) _ _).trans (only1 (p := kb) _ _) (fun _ _ h => h)
        have HBX := hide (show Has ((xe.setCell ⟨kb, 0, none⟩ (.pointer (some ⟨xq.d, 0, none⟩))).setCell ⟨kb, 1, none⟩ (.pointer (some ⟨xx, 0, none⟩))) kb #[.pointer (some ⟨xq.d, 0, none⟩), .pointer (some ⟨xx, 0, none⟩)] 30 from ((unhide HBX).setCell 0 _).setCell 1 _)
        have HOB := hide ((unhide HOB).keep oo2 (fun e => nog e))
        have HB0 := hide ((unhide HB0).keep oo2 (fun e => nb0 e))
        have HW := hide ((unhide HW).own oo2 (fun b c => .inl (.inl c)))
        have HWN := hide ((unhide HWN).own oo2 (fun b c => .inl (.inl c)))
        have HSZ := hide (Nat.le_trans (unhide HSZ) oo2.size)
        have HON := hide ((unhide HON).trans oo2 (fun k _ c => by have c' : k = kb := c; rw [c']; exact ((unhide HD).ex kb (.inl (.inl rfl))).2.2.2.2.2.2))
        have xz := oe.size
        have st3 := st2.keep oo2 (fun k hk c => by have c' : k = kb := c; have := hlo2 k hk; omega)
        have HS2 := hide (And.intro st3 (And.intro la2 (And.intro hd2 (And.intro cf2 (And.intro cu2 (And.intro hlo2 (And.intro st2.fv.Alt st2.has.lt)))))))
        have xz2 := oo2.size
        unfold jbV jbC
        clear st2 st3 la2 hd2 cf2 cu2 hlo2 oe oo2
        go_upto_region 74 with fail
        generalize (xe.setCell ⟨kb, 0, none⟩ (.pointer (some ⟨xq.d, 0, none⟩))).setCell ⟨kb, 1, none⟩ (.pointer (some ⟨xx, 0, none⟩)) = xf at *
        clear c0 c1 f0 f1 cl
        have c1 : xf.cell? ⟨kb, 1, none⟩ = some (.pointer (some ⟨xx, 0, none⟩)) := (unhide HBX).cell 1
        have cl := (unhide HBX).lt
        have C3 := hide (xopen_any xx xf)
        go_wp2_with fail
        refine (unhide C3).mono ?_
        rintro e xg ⟨xp, rfl, xhp, xm3, o4⟩
        clear C3 c1 cl
        have xz4 := o4.size
        have rx4 := RX.new ((unhide HS2).1.quiet o4) (unhide HS2).2.1 (unhide HS2).2.2.2.1 xm3 ⟨fun c => (by have := (unhide HS2).2.2.2.2.2.2.1 _ c; omega), by have := (unhide HS2).2.2.2.2.2.2.2; omega⟩
        rw [(unhide HS2).2.2.1] at rx4
        have xpl := xm3.lt xp (.inl rfl)
        have xA : ∀ k, xq.A k ∨ k = xx ∨ k = xp → w6.heap.size ≤ k := fun k hk => by
          rcases hk with c | c | c
          · exact (unhide HS2).2.2.2.2.2.1 k (.inl c)
          · exact (unhide HS2).2.2.2.2.2.1 k (.inr c)
          · omega
        have HR2 := hide rx4
        have HCU := hide (unhide HS2).2.2.2.2.1
        have HW := hide ((unhide HW).quiet o4)
        have HWN := hide ((unhide HWN).quiet o4)
        have HBX := hide ((unhide HBX).keep o4 (fun e => e))
        have HOB := hide ((unhide HOB).keep o4 (fun e => e))
        have HB0 := hide ((unhide HB0).keep o4 (fun e => e))
        have HON := hide ((unhide HON).trans (o4.mono (T := fun k => w.heap.size ≤ k) (fun _ _ e => e.elim)) (fun _ _ e => e))
        have HSZ := hide (Nat.le_trans (unhide HSZ) o4.size)
        clear rx4 xm3 o4 HS2
        have HW := hide ((unhide HDN).swap (unhide HWN) (unhide HR2) (unhide HCU) xA)
        clear HWN HDN HR2 HCU HD HX HOB HB0
        have HZ := hide (show LQ w kb (.pointer (some ⟨xp, 0, none⟩)) (.pointer (some ⟨m2, 0, none⟩)) (.pointer (some ⟨mb2, 0, none⟩)) xg from ⟨xq, xp, xx, _, _, m2, _, _, _, mb2, _, _, _, rfl, rfl, rfl, unhide HBX, (unhide HW).sub (fun b hb => .inl (.inl (hb.elim id (fun e => e.elim)))), unhide HON⟩)
        clear HBX HW HON
        go_wp2_with fail
        go_roundw
        case rel => exact ⟨kk + 1, by omega, by go_num, unhide HZ⟩
        case measure => simp [intOf]; omega
      · have b18 : (ok != 18) = true := by simpa using hcut
        clear hcut ogkb
        have k0 : wa.cell? ⟨og, 0, none⟩ = some (.int .i64 ok) := (unhide HOB).cell 0
        have k1 : wa.cell? ⟨og, 1, none⟩ = some (.int .i64 oa) := (unhide HOB).cell 1
        have k2 : wa.cell? ⟨og, 2, none⟩ = some (.int .i64 ob) := (unhide HOB).cell 2
        have k3 : wa.cell? ⟨og, 3, none⟩ = some (.int .i64 oc) := (unhide HOB).cell 3
        have k4 : wa.cell? ⟨og, 4, none⟩ = some (.string os) := (unhide HOB).cell 4
        have k5 : wa.cell? ⟨og, 5, none⟩ = some (.string ot) := (unhide HOB).cell 5
        have kl := (unhide HOB).lt
        have c0 : wa.cell? ⟨kb, 0, none⟩ = some (.pointer (some ⟨q.d, 0, none⟩)) := (unhide HBX).cell 0
        have c1 : wa.cell? ⟨kb, 1, none⟩ = some (.pointer (some ⟨x, 0, none⟩)) := (unhide HBX).cell 1
        have cl := (unhide HBX).lt
        have CM := xlmark_any x (unhide HW).rx.dk
        unfold jbV jbC at CM
        have CM := hide CM
        go_wp2_with fail
        refine (unhide CM).mono ?_
        rintro e w1 ⟨rfl, hd1, o1⟩
        clear c0 c1 cl
        clear k0 k1 k2 k3 k4 k5 kl
        clear CM b18
        have HW0 := HW
        have HBX := hide ((unhide HBX).keep o1 (fun c => ((unhide HW).ex _ (.inl (.inl rfl))).1 (.inl c)))
        have HOB := hide ((unhide HOB).keep o1 (fun c => ((unhide HW).ex _ (.inr rfl)).1 (.inl c)))
        have HON := hide ((unhide HON).trans o1 (fun k _ c => (unhide HW).lr k (.inl (.inl c))))
        have n1 := (unhide HW).nm.keep o1 (fun b hb c => ((unhide HW).sm b hb).1 (.inl c))
        have C2 := hide (xnmark_any n1)
        clear n1
        go_wp2_with fail
        refine (unhide C2).mono ?_
        rintro e w2 ⟨rfl, n2, o2⟩
        have HBX := hide ((unhide HBX).keep o2 (fun c => ((unhide HW).ex _ (.inl (.inl rfl))).2.2.2.1 (by have c2 : _ = m := c; rw [c2]; exact (unhide HW).nm.hm)))
        have HOB := hide ((unhide HOB).keep o2 (fun c => ((unhide HW).ex _ (.inr rfl)).2.2.2.1 (by have c2 : _ = m := c; rw [c2]; exact (unhide HW).nm.hm)))
        have HON := hide ((unhide HON).trans o2 (fun k _ c => by have c' : k = m := c; rw [c']; exact ((unhide HW).sm m (unhide HW).nm.hm).2.2.2))
        have C3 := hide (xnclone_any n2)
        clear C2
        go_wp2_with fail
        refine (unhide C3).mono ?_
        rintro e w3 ⟨mb', Hb', rfl, n3, hn3, o3⟩
        have HBX := hide ((unhide HBX).keep o3 (fun e => e))
        have HOB := hide ((unhide HOB).keep o3 (fun e => e))
        have HON := hide ((unhide HON).trans (o3.mono (T := fun k => w.heap.size ≤ k) (fun _ _ e => e.elim)) (fun _ _ e => e))
        have W3 := (unhide HW).marked hd1 o1 n2 o2 n3 hn3 o3
        have W3b : (q.mark wa w1).base = (q.mark wa w1).blk ∧ (q.mark wa w1).recs = [] ∧ (q.mark wa w1).d = q.d := ⟨rfl, rfl, rfl⟩
        generalize q.mark wa w1 = qm at *
        generalize Ext H w1 w2 = Hm at *
        have HBX := unhide HBX
        rw [← W3b.2.2] at HBX
        have HBX := hide HBX
        have HQM := hide W3b
        have HW := hide W3
        clear C3 n2 n3 hn3 o1 o2 o3 hd1 W3 W3b HW0
        have CK := playReal_any (unhide HW).rx (by rw [(unhide HQM).2.1]; simp) ok oa ob oc os ot (unhide HST)
        unfold opX at CK
        have CK := hide CK
        have HOK := hide (unhide HW).rx.mu
        have k0 : w3.cell? ⟨og, 0, none⟩ = some (.int .i64 ok) := (unhide HOB).cell 0
        have k1 : w3.cell? ⟨og, 1, none⟩ = some (.int .i64 oa) := (unhide HOB).cell 1
        have k2 : w3.cell? ⟨og, 2, none⟩ = some (.int .i64 ob) := (unhide HOB).cell 2
        have k3 : w3.cell? ⟨og, 3, none⟩ = some (.int .i64 oc) := (unhide HOB).cell 3
        have k4 : w3.cell? ⟨og, 4, none⟩ = some (.string os) := (unhide HOB).cell 4
        have k5 : w3.cell? ⟨og, 5, none⟩ = some (.string ot) := (unhide HOB).cell 5
        have kl := (unhide HOB).lt
        go_wp2_with fail
        refine (unhide CK).mono ?_
        intro e w4 h4
        obtain ⟨M', an, am, q', K', rfl, hop, hA4, W4, hqd, hrec, o4, hAb4⟩ := (unhide HW).real (unhide HQM).1 (unhide HQM).2.1 h4
        clear hAb4
        clear k0 k1 k2 k3 k4 k5 kl
        clear CK h4
        have HBX := hide ((unhide HBX).keep o4 (fun c => c.elim ((unhide HW).ex _ (.inl (.inl rfl))).1 ((unhide HW).ex _ (.inl (.inl rfl))).2.2.1))
        have HOB := hide ((unhide HOB).keep o4 (fun c => c.elim ((unhide HW).ex _ (.inr rfl)).1 ((unhide HW).ex _ (.inr rfl)).2.2.1))
        have HON := hide ((unhide HON).trans o4 (fun k _ c => c.elim (fun c => (unhide HW).lr k (.inl c)) (fun c => (unhide HW).lr k (.inr (.inr c)))))
        have HOP := hide hop
        have HREC := hide hrec
        have HBX := unhide HBX
        rw [← hqd] at HBX
        have HBX := hide HBX
        have o5 : Only (fun _ => False) w4 (w4.alloc (.cells (anC am an) 54)) := (Only.refl _ _).alloc _
        have N5 := Has.new w4 (anC am an) 54
        have W5 := W4.add (E' := fun b => ((fun b => b = kb ∨ False) b ∨ b = og) ∨ AnB am b ∨ b = w4.heap.size) o5 (fun b hb => by
          rcases hb with c | c | c
          · exact .inl (.inl c)
          · exact .inl (.inr c)
          · exact .inr ⟨by omega, by rw [c]; simp⟩)
        have A5 := hA4.quiet o5
        have HBX := hide ((unhide HBX).keep o5 (fun e => e))
        have HOB := hide ((unhide HOB).keep o5 (fun e => e))
        have HON := hide ((unhide HON).trans (o5.mono (T := fun k => w.heap.size ≤ k) (fun _ _ e => e.elim)) (fun _ _ e => e))
        have HAA := hide hA4
        obtain ⟨p1, p2, hp⟩ := hA4.row.shape
        obtain ⟨r1, r2, hr⟩ := ownsRow_shape hA4.own
        obtain ⟨t1, t2, ht⟩ := hA4.col.shape
        obtain ⟨v1, v2, hv⟩ := ownsRow_shape hA4.nms
        obtain ⟨ln, hln⟩ : ∃ k, an.row.length = k := ⟨_, rfl⟩
        obtain ⟨ls, hls⟩ : ∃ k, am.Z.length = k := ⟨_, rfl⟩
        obtain ⟨lc, hlc⟩ : ∃ k, an.cols.length = k := ⟨_, rfl⟩
        obtain ⟨lm, hlm⟩ : ∃ k, an.names.length = k := ⟨_, rfl⟩
        rw [hln] at hp
        rw [hls] at hr
        rw [hlc] at ht
        rw [hlm] at hv
        have HAE := hide (show anC am an = #[.int .i64 an.e, .int .i64 an.n, .slice p1 ln p2, .slice r1 ls r2, .string an.nm, .slice t1 lc t2, .int .i64 an.pk, .int .i64 an.ix, .slice v1 lm v2] from by unfold anC; rw [hp, hr, ht, hv])
        rw [unhide HAE] at N5 W5 A5 ⊢
        rw [unhide HAE] at HBX HOB HON
        have HW := hide W5
        have HA := hide A5
        have HAB := hide N5
        clear hp hr ht hv hln hls hlc hlm W4 W5 A5 N5 hA4 HAA o4 o5 hop hrec hqd
        go_upto_region 26 with fail
        generalize w4.alloc (.cells #[.int .i64 an.e, .int .i64 an.n, .slice p1 ln p2, .slice r1 ls r2, .string an.nm, .slice t1 lc t2, .int .i64 an.pk, .int .i64 an.ix, .slice v1 lm v2] 54) = w5 at *
        generalize w4.heap.size = ab2 at *
        have c0 : w5.cell? ⟨kb, 0, none⟩ = some (.pointer (some ⟨q'.d, 0, none⟩)) := (unhide HBX).cell 0
        have c1 : w5.cell? ⟨kb, 1, none⟩ = some (.pointer (some ⟨x, 0, none⟩)) := (unhide HBX).cell 1
        have cl := (unhide HBX).lt
        have CT := xlsteps_any x (unhide HW).rx.dk
        unfold jbV jbC at CT
        have CT := hide CT
        go_wp2_with fail
        refine (unhide CT).mono ?_
        rintro e w6 ⟨rfl, oT⟩
        have HBX := hide ((unhide HBX).keep oT (fun e => e))
        have HOB := hide ((unhide HOB).keep oT (fun e => e))
        have HAB := hide ((unhide HAB).keep oT (fun e => e))
        have HA := hide ((unhide HA).keep oT (fun _ _ e => e))
        have HW := hide ((unhide HW).quiet oT)
        have HON := hide ((unhide HON).trans (oT.mono (T := fun k => w.heap.size ≤ k) (fun _ _ e => e.elim)) (fun _ _ e => e))
        clear c0 c1 cl
        clear CT oT
        have k0 : w6.cell? ⟨og, 0, none⟩ = some (.int .i64 ok) := (unhide HOB).cell 0
        have k1 : w6.cell? ⟨og, 1, none⟩ = some (.int .i64 oa) := (unhide HOB).cell 1
        have k2 : w6.cell? ⟨og, 2, none⟩ = some (.int .i64 ob) := (unhide HOB).cell 2
        have k3 : w6.cell? ⟨og, 3, none⟩ = some (.int .i64 oc) := (unhide HOB).cell 3
        have k4 : w6.cell? ⟨og, 4, none⟩ = some (.string os) := (unhide HOB).cell 4
        have k5 : w6.cell? ⟨og, 5, none⟩ = some (.string ot) := (unhide HOB).cell 5
        have kl := (unhide HOB).lt
        have CP := playModel_any (unhide HW).nm (unhide HOK) ok oa ob oc os ot (unhide HST)
        unfold opX at CP
        have CP := hide CP
        go_wp2_with fail
        refine (unhide CP).mono ?_
        intro e w7 h7
        obtain ⟨am2, hist', H', rfl, hA7, hAb7, W7, o7⟩ := (unhide HW).model (unhide HOP) h7
        clear k0 k1 k2 k3 k4 k5 kl
        clear CP h7
        have HBX := hide ((unhide HBX).keep o7 (fun c => ((unhide HW).ex _ (.inl (.inl (.inl rfl)))).2.2.2.1 c))
        have HOB := hide ((unhide HOB).keep o7 (fun c => ((unhide HW).ex _ (.inl (.inr rfl))).2.2.2.1 c))
        have HAB := hide ((unhide HAB).keep o7 (fun c => ((unhide HW).ex _ (.inr (.inr rfl))).2.2.2.1 c))
        have HA := hide ((unhide HA).keep o7 (fun k hk c => ((unhide HW).ex _ (.inr (.inl hk))).2.2.2.1 c))
        have HON := hide ((unhide HON).trans o7 (fun k _ c => ((unhide HW).sm k c).2.2.2))
        have HW := hide W7
        have o8 : Only (fun _ => False) w7 (w7.alloc (.cells (anC am2 an) 54)) := (Only.refl _ _).alloc _
        have N8 := Has.new w7 (anC am2 an) 54
        have HA8 := hide (hA7.quiet o8)
        have HBX := hide ((unhide HBX).keep o8 (fun e => e))
        have HOB := hide ((unhide HOB).keep o8 (fun e => e))
        have HAB := hide ((unhide HAB).keep o8 (fun e => e))
        have HA := hide ((unhide HA).keep o8 (fun _ _ e => e))
        have HW := hide ((unhide HW).quiet o8)
        have HON := hide ((unhide HON).trans (o8.mono (T := fun k => w.heap.size ≤ k) (fun _ _ e => e.elim)) (fun _ _ e => e))
        obtain ⟨j1, j2, hp⟩ := hA7.row.shape
        obtain ⟨i1, i2, hr⟩ := ownsRow_shape hA7.own
        obtain ⟨f1, f2, ht⟩ := hA7.col.shape
        obtain ⟨d1, d2, hv⟩ := ownsRow_shape hA7.nms
        obtain ⟨xn, hln⟩ : ∃ k, an.row.length = k := ⟨_, rfl⟩
        obtain ⟨xs, hls⟩ : ∃ k, am2.Z.length = k := ⟨_, rfl⟩
        obtain ⟨xc, hlc⟩ : ∃ k, an.cols.length = k := ⟨_, rfl⟩
        obtain ⟨xm, hlm⟩ : ∃ k, an.names.length = k := ⟨_, rfl⟩
        rw [hln] at hp
        rw [hls] at hr
        rw [hlc] at ht
        rw [hlm] at hv
        have HAE2 := hide (show anC am2 an = #[.int .i64 an.e, .int .i64 an.n, .slice j1 xn j2, .slice i1 xs i2, .string an.nm, .slice f1 xc f2, .int .i64 an.pk, .int .i64 an.ix, .slice d1 xm d2] from by unfold anC; rw [hp, hr, ht, hv])
        have CS := sameAns_any (unhide HA) (unhide HA8)
        rw [unhide HAE, unhide HAE2] at CS
        rw [unhide HAE2] at N8 HA8 HW HBX HOB HAB HA HON ⊢
        have CS := hide CS
        have HN8 := hide N8
        clear hp hr ht hv hln hls hlc hlm W7 N8 hA7 hAb7 o7 o8
        go_upto_region 28 with fail
        generalize w7.alloc (.cells #[.int .i64 an.e, .int .i64 an.n, .slice j1 xn j2, .slice i1 xs i2, .string an.nm, .slice f1 xc f2, .int .i64 an.pk, .int .i64 an.ix, .slice d1 xm d2] 54) = w8 at *
        generalize w7.heap.size = ab3 at *
        have e0 : w8.cell? ⟨ab2, 0, none⟩ = some (.int .i64 an.e) := (unhide HAB).cell 0
        have e1 : w8.cell? ⟨ab2, 1, none⟩ = some (.int .i64 an.n) := (unhide HAB).cell 1
        have e2 : w8.cell? ⟨ab2, 2, none⟩ = some (.slice p1 ln p2) := (unhide HAB).cell 2
        have e3 : w8.cell? ⟨ab2, 3, none⟩ = some (.slice r1 ls r2) := (unhide HAB).cell 3
        have e4 : w8.cell? ⟨ab2, 4, none⟩ = some (.string an.nm) := (unhide HAB).cell 4
        have e5 : w8.cell? ⟨ab2, 5, none⟩ = some (.slice t1 lc t2) := (unhide HAB).cell 5
        have e6 : w8.cell? ⟨ab2, 6, none⟩ = some (.int .i64 an.pk) := (unhide HAB).cell 6
        have e7 : w8.cell? ⟨ab2, 7, none⟩ = some (.int .i64 an.ix) := (unhide HAB).cell 7
        have e8 : w8.cell? ⟨ab2, 8, none⟩ = some (.slice v1 lm v2) := (unhide HAB).cell 8
        have el := (unhide HAB).lt
        have z0 : w8.cell? ⟨ab3, 0, none⟩ = some (.int .i64 an.e) := (unhide HN8).cell 0
        have z1 : w8.cell? ⟨ab3, 1, none⟩ = some (.int .i64 an.n) := (unhide HN8).cell 1
        have z2 : w8.cell? ⟨ab3, 2, none⟩ = some (.slice j1 xn j2) := (unhide HN8).cell 2
        have z3 : w8.cell? ⟨ab3, 3, none⟩ = some (.slice i1 xs i2) := (unhide HN8).cell 3
        have z4 : w8.cell? ⟨ab3, 4, none⟩ = some (.string an.nm) := (unhide HN8).cell 4
        have z5 : w8.cell? ⟨ab3, 5, none⟩ = some (.slice f1 xc f2) := (unhide HN8).cell 5
        have z6 : w8.cell? ⟨ab3, 6, none⟩ = some (.int .i64 an.pk) := (unhide HN8).cell 6
        have z7 : w8.cell? ⟨ab3, 7, none⟩ = some (.int .i64 an.ix) := (unhide HN8).cell 7
        have z8 : w8.cell? ⟨ab3, 8, none⟩ = some (.slice d1 xm d2) := (unhide HN8).cell 8
        have zl := (unhide HN8).lt
        go_wp2_with fail
        refine (unhide CS).mono ?_
        rintro e w9 ⟨rfl, oS⟩
        clear e0 e1 e2 e3 e4 e5 e6 e7 e8 el
        clear z0 z1 z2 z3 z4 z5 z6 z7 z8 zl CS HN8 HA8 HAE2
        have HBX := hide ((unhide HBX).keep oS (fun e => e))
        have HOB := hide ((unhide HOB).keep oS (fun e => e))
        have HAB := hide ((unhide HAB).keep oS (fun e => e))
        have HA := hide ((unhide HA).keep oS (fun _ _ e => e))
        have HW := hide ((unhide HW).quiet oS)
        have HON := hide ((unhide HON).trans (oS.mono (T := fun k => w.heap.size ≤ k) (fun _ _ e => e.elim)) (fun _ _ e => e))
        clear oS
        have k0 : w9.cell? ⟨og, 0, none⟩ = some (.int .i64 ok) := (unhide HOB).cell 0
        have k1 : w9.cell? ⟨og, 1, none⟩ = some (.int .i64 oa) := (unhide HOB).cell 1
        have k2 : w9.cell? ⟨og, 2, none⟩ = some (.int .i64 ob) := (unhide HOB).cell 2
        have k3 : w9.cell? ⟨og, 3, none⟩ = some (.int .i64 oc) := (unhide HOB).cell 3
        have k4 : w9.cell? ⟨og, 4, none⟩ = some (.string os) := (unhide HOB).cell 4
        have k5 : w9.cell? ⟨og, 5, none⟩ = some (.string ot) := (unhide HOB).cell 5
        have kl := (unhide HOB).lt
        have e0 : w9.cell? ⟨ab2, 0, none⟩ = some (.int .i64 an.e) := (unhide HAB).cell 0
        have e1 : w9.cell? ⟨ab2, 1, none⟩ = some (.int .i64 an.n) := (unhide HAB).cell 1
        have e2 : w9.cell? ⟨ab2, 2, none⟩ = some (.slice p1 ln p2) := (unhide HAB).cell 2
        have e3 : w9.cell? ⟨ab2, 3, none⟩ = some (.slice r1 ls r2) := (unhide HAB).cell 3
        have e4 : w9.cell? ⟨ab2, 4, none⟩ = some (.string an.nm) := (unhide HAB).cell 4
        have e5 : w9.cell? ⟨ab2, 5, none⟩ = some (.slice t1 lc t2) := (unhide HAB).cell 5
        have e6 : w9.cell? ⟨ab2, 6, none⟩ = some (.int .i64 an.pk) := (unhide HAB).cell 6
        have e7 : w9.cell? ⟨ab2, 7, none⟩ = some (.int .i64 an.ix) := (unhide HAB).cell 7
        have e8 : w9.cell? ⟨ab2, 8, none⟩ = some (.slice v1 lm v2) := (unhide HAB).cell 8
        have el := (unhide HAB).lt
        have CO1 := hide (xloneStep_any q'.recs.length ok oa ob oc os ot an.e (unhide HREC) w9)
        go_wp2_with fail
        refine (unhide CO1).mono ?_
        rintro e wA ⟨rfl, oO⟩
        clear k0 k1 k2 k3 k4 k5 kl
        clear e0 e1 e2 e3 e4 e5 e6 e7 e8 el
        have HBX := hide ((unhide HBX).keep oO (fun e => e))
        have HOB := hide ((unhide HOB).keep oO (fun e => e))
        have HAB := hide ((unhide HAB).keep oO (fun e => e))
        have HA := hide ((unhide HA).keep oO (fun _ _ e => e))
        have HW := hide ((unhide HW).quiet oO)
        have HON := hide ((unhide HON).trans (oO.mono (T := fun k => w.heap.size ≤ k) (fun _ _ e => e.elim)) (fun _ _ e => e))
        clear oO CO1
        have c0 : wA.cell? ⟨kb, 0, none⟩ = some (.pointer (some ⟨q'.d, 0, none⟩)) := (unhide HBX).cell 0
        have c1 : wA.cell? ⟨kb, 1, none⟩ = some (.pointer (some ⟨x, 0, none⟩)) := (unhide HBX).cell 1
        have cl := (unhide HBX).lt
        have CT := xlbracket_any q'.d (unhide HW).rx
        unfold jbV jbC at CT
        have CT := hide CT
        go_wp2_with fail
        refine (unhide CT).mono ?_
        rintro e wB ⟨rfl, oT⟩
        have HBX := hide ((unhide HBX).keep oT (fun e => e))
        have HOB := hide ((unhide HOB).keep oT (fun e => e))
        have HAB := hide ((unhide HAB).keep oT (fun e => e))
        have HA := hide ((unhide HA).keep oT (fun _ _ e => e))
        have HW := hide ((unhide HW).quiet oT)
        have HON := hide ((unhide HON).trans (oT.mono (T := fun k => w.heap.size ≤ k) (fun _ _ e => e.elim)) (fun _ _ e => e))
        clear c0 c1 cl
        clear CT oT
        have HZ := hide (show LQ w kb (.pointer (some ⟨g, 0, none⟩)) (.pointer (some ⟨m, 0, none⟩)) (.pointer (some ⟨mb', 0, none⟩)) wB from ⟨q', g, x, _, _, m, _, _, _, mb', _, _, _, rfl, rfl, rfl, unhide HBX, (unhide HW).sub (fun b hb => .inl (.inl hb)), unhide HON⟩)
        clear HBX HW HON HOB HAB HA HREC HOP HOK
        go_wp2_with fail
        go_roundw
        case rel => exact ⟨kk + 1, by omega, by go_num, unhide HZ⟩
        case measure => simp [intOf]; omega
    · have hkI : decide ((kk : Int) < (len : Int)) = false := by simp; omega
      clear BX WW ON 
      by_cases hM : len < 4398046511104
      · have hM1 : decide ((len : Int) < 4398046511104) = true := by simp; omega
        go_wp2_with fail
        go_ret2
        exact ⟨⟨_, rfl⟩, hbel⟩
      · have hM1 : decide ((len : Int) < 4398046511104) = false := by simp; omega
        go_wp2_with fail
        go_ret2
        exact ⟨⟨_, rfl⟩, hbel⟩
end Go.Proofs.Qxb6500414aGreat
