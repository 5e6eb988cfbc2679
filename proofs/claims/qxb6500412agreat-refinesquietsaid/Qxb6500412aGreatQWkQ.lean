/-
  OWN WORK. QUERY's LAW: walk. (tools/gen_qwk.py writes it.)
-/
import Derived.Test.Qxb6500412aGreatQL13
import Derived.Test.Qxb6500412aGreatOpsDef2
import Derived.Deep.DeepCutAuto
namespace Go.Proofs.Qxb6500412aGreat
open Go.RowKit Go.PlainAid
set_option linter.unusedSimpArgs false
set_option linter.unusedVariables false

set_option maxRecDepth 100000 in
set_option maxHeartbeats 32000000 in
theorem qwalkQ_any (ad : Option Addr) (len cap : Nat) (ops : List OpD) (w : World) (hops : OpsAt w ad len ops) (hlen : len ≤ 4398046511104) :
    Calls Tryz.prog 9 #[.slice ad len cap, .bool false, .bool true] w fun e w' => (∃ n : Int, e = .returned (.tuple #[.int .i64 (-1), .int .i64 n])) ∧ Below w.heap.size w w' := by
  have C1 := hide (xlground_any w)
  go_enter Tryz.func9, Tryz.ntmps9
  go_wp2_with fail
  refine (unhide C1).mono ?_
  rintro e w1 ⟨p, x, g, rfl, rx, cu, hlo, o1⟩
  clear C1
  unfold jbV jbC
  have o2 : Only (fun _ => False) w1 (w1.alloc (.cells #[.pointer (some ⟨p.d, 0, none⟩), .pointer (some ⟨g, 0, none⟩)] 30)) := (Only.refl _ w1).alloc _
  have HBX := hide (Has.new w1 #[.pointer (some ⟨p.d, 0, none⟩), .pointer (some ⟨g, 0, none⟩)] 30)
  have HS := hide (show RX p (w1.alloc (.cells #[.pointer (some ⟨p.d, 0, none⟩), .pointer (some ⟨g, 0, none⟩)] 30)) g x (Mu0 []) (fun b => b = g) ∧ CutX p.base p.recs (fun X => ComD X []) (fun X => ComD X []) ∧ (∀ b, p.A b ∨ b = x ∨ b = g → w.heap.size ≤ b ∧ b < w1.heap.size) ∧ Only (fun _ => False) w (w1.alloc (.cells #[.pointer (some ⟨p.d, 0, none⟩), .pointer (some ⟨g, 0, none⟩)] 30)) ∧ w.heap.size ≤ w1.heap.size from ⟨rx.quiet o2, cu, fun b hb => ⟨hlo b hb, by
    rcases hb with c | c | c
    · exact rx.Alt.1 b c
    · rw [c]; exact rx.Alt.2
    · exact (rx.kA b c).2.2⟩, o1.trans o2 (fun _ _ e => e), o1.size⟩)
  clear rx cu hlo o1 o2
  go_upto_region 2 with fail
  generalize w1.alloc (.cells #[.pointer (some ⟨p.d, 0, none⟩), .pointer (some ⟨g, 0, none⟩)] 30) = w2 at *
  generalize hkw : w1.heap.size = kw at *
  clear hkw
  have b1 : w2.cell? ⟨kw, 1, none⟩ = some (.pointer (some ⟨g, 0, none⟩)) := (unhide HBX).cell 1
  have kwl := (unhide HBX).lt
  have C2 := hide (sqnew_any (f := 11) (w := w2) g (.inl rfl))
  go_wp2_with fail
  refine (unhide C2).mono ?_
  rintro e w3 ⟨rfl, hE3, o3⟩
  have Q3 := QR.new (unhide HS).1 hE3 (Nat.le_refl _) o3
  have HQ := hide (show QR p w3 w2.heap.size g x (Mu0 []) (fun b => b = g) 0 ∧ Only (fun _ => False) w w3 ∧ kw < w2.heap.size ∧ w2.heap.size < w3.heap.size from ⟨Q3, (unhide HS).2.2.2.1.trans o3 (fun _ _ e => e), kwl, hE3.lt⟩)
  have HBX := hide ((unhide HBX).keep o3 (fun e => e))
  clear C2 b1 hE3 Q3 o3
  generalize w2.heap.size = k at *
  have C3 := hide (smnew_any w3)
  go_wp2_with fail
  refine (unhide C3).mono ?_
  rintro e w4 ⟨k2, q2, H, rfl, n4, hk2, hH, o4⟩
  have C4 := hide (smclone_any n4)
  have HBX := hide ((unhide HBX).keep o4 (fun e => e))
  have H4 := hide (And.intro n4 (And.intro hk2 (And.intro hH o4)))
  clear C3 n4 hk2 hH o4
  go_wp2_with fail
  refine (unhide C4).mono ?_
  rintro e w5 ⟨kb, qb, Hb, rfl, n5, hkb, hHb, o5⟩
  have HBX := hide ((unhide HBX).keep o5 (fun e => e))
  have HW : Hid (WQ w.heap.size w5 p k g x (Mu0 []) (fun b => b = g) 0 k2 q2 (Mu0 []) H kb qb (Mu0 []) Hb (fun b => b = kw)) := hide (by
    obtain ⟨n4, hk2, hH, o4⟩ := unhide H4
    have h1 := (unhide HS).2.2.1
    have h2 := (unhide HS).2.2.2.2
    have h3 := (unhide HQ).2.2
    refine WQ.start (unhide HQ).1 (unhide HS).2.1 (fun b hb => ?_) (unhide HQ).2.1.size n4 hk2 hH o4 n5 hkb hHb o5 (fun b hb => ?_)
    · rcases hb with c | c | c | c
      · exact (h1 b (.inl c)).1
      · exact (h1 b (.inr (.inl c))).1
      · exact (h1 b (.inr (.inr c))).1
      · omega
    · subst hb
      refine ⟨fun c => ?_, by omega, by omega⟩
      rcases c with c | c | c | c
      · have := (h1 _ (.inl c)).2; omega
      · have := (h1 _ (.inr (.inl c))).2; omega
      · have := (h1 _ (.inr (.inr c))).2; omega
      · omega)
  have HON := hide (show Only (fun b => w.heap.size ≤ b) w w5 from (((unhide HQ).2.1.trans (unhide H4).2.2.2 (fun _ _ e => e)).trans o5 (fun _ _ e => e)).mono (fun _ _ e => e.elim))
  clear C4 n5 hkb hHb o5 H4 HS HQ kwl
  have oK : Only (fun _ => False) w5 (w5.alloc (.cells #[.int .i64 0, .int .i64 0, .slice none 0 0, .slice none 0 0, .int .i64 0, .int .i64 0, .slice none 0 0, .slice none 0 0] 54)) := (Only.refl _ _).alloc _
  obtain ⟨B, hB⟩ : ∃ B : Nat → Prop, B = (fun _ => False) := ⟨_, rfl⟩
  have HKp := hide (show KpQ (w5.alloc (.cells #[.int .i64 0, .int .i64 0, .slice none 0 0, .slice none 0 0, .int .i64 0, .int .i64 0, .slice none 0 0, .slice none 0 0] 54)) w5.heap.size (Rs.err 0) B from by rw [hB]; exact KpQ.new w5)
  have HKW := hide (show ¬ (kw = w5.heap.size ∨ B kw) from fun c => c.elim (fun c => by have := (unhide HBX).lt; omega) (fun c => by rw [hB] at c; exact c))
  have HW := hide ((unhide HW).add (E' := fun b => b = kw ∨ b = w5.heap.size ∨ B b) oK (fun b hb => by
    rcases hb with c | c | c
    · exact .inl c
    · exact .inr ⟨by omega, by rw [c]; simp⟩
    · rw [hB] at c; exact c.elim))
  have HBX := hide ((unhide HBX).keep oK (fun e => e))
  have HON := hide ((unhide HON).trans (oK.mono (T := fun b => w.heap.size ≤ b) (fun _ _ e => e.elim)) (fun _ _ e => e))
  clear oK hB
  go_upto_region 7 with fail
  generalize w5.alloc (.cells #[.int .i64 0, .int .i64 0, .slice none 0 0, .slice none 0 0, .int .i64 0, .int .i64 0, .slice none 0 0, .slice none 0 0] 54) = w6 at *
  generalize w5.heap.size = kk at *
  generalize (fun b => b = g) = K at *
  have c0 : w6.cell? ⟨kw, 0, none⟩ = some (.pointer (some ⟨p.d, 0, none⟩)) := (unhide HBX).cell 0
  have c1 : w6.cell? ⟨kw, 1, none⟩ = some (.pointer (some ⟨g, 0, none⟩)) := (unhide HBX).cell 1
  have cl := (unhide HBX).lt
  have CT := xlsteps_any g (unhide HW).qr.rx.dk
  unfold jbV jbC at CT
  have CT := hide CT
  go_wp2_with fail
  refine (unhide CT).mono ?_
  rintro e w7 ⟨rfl, oT⟩
  have HBX := hide ((unhide HBX).keep oT (fun e => e))
  have HKp := hide ((unhide HKp).quiet oT)
  have HW := hide ((unhide HW).quiet oT)
  have HON := hide ((unhide HON).trans (oT.mono (T := fun b => w.heap.size ≤ b) (fun _ _ e => e.elim)) (fun _ _ e => e))
  clear c0 c1 cl
  clear CT oT
  have HZ := hide (show LW w kw kk (.pointer (some ⟨k, 0, none⟩)) (.pointer (some ⟨k2, 0, none⟩)) (.pointer (some ⟨kb, 0, none⟩)) (.int .i64 0) w7 from ⟨_, _, _, _, _, _, _, _, _, _, _, _, _, _, _, _, rfl, rfl, rfl, rfl, unhide HBX, unhide HKp, (unhide HW).sub (fun b hb => hb), (unhide HKW), unhide HON⟩)
  clear HBX HW HON HKp HKW
  go_upto_region 16 with fail
  go_loopw [9, 10, 11, 12, 15, 16, 17, 18, 19, 20, 21, 22, 23, 24, 25, 26, 27, 28] (fun xv mv bv pv iv _ _ _ _ _ _ _ _ _ _ _ _ _ wr => ∃ kn : Nat, kn ≤ len ∧ iv = .int .i64 kn ∧ LW w kw kk xv mv bv pv wr) (fun _ _ _ _ iv _ _ _ _ _ _ _ _ _ _ _ _ _ _ => len - (intOf iv).toNat)
  case atStart => exact ⟨0, Nat.zero_le _, rfl, unhide HZ⟩
  case round =>
    clear HZ
    obtain ⟨kn, hk, rfl, p, k, g, x, M, K, pl, k2, q2, H, kb, qb, Mb, Hb, R, B, rfl, rfl, rfl, rfl, BX, KP, WW, KW, ON⟩ := hrel
    have hbel : Below w.heap.size w wr := Only.bel (Below.refl _ _) ON (fun _ h => h)
    by_cases hkl : kn < len
    · obtain ⟨hol, hoa⟩ := hops
      obtain ⟨ab, aoff, rfl, hcells⟩ := hoa (by omega)
      obtain ⟨y0, y1, y2, y3, y4, y5, hsz, hst⟩ := hcells kn (by omega)
      clear hcells hoa
      have hab : ab < w.heap.size := World.block_lt_of_cell? w ⟨ab, aoff + kn * 6, none⟩ y0
      rw [← hbel.cell (p := ⟨ab, aoff + kn * 6, none⟩) hab] at y0
      rw [← hbel.cell (p := ⟨ab, aoff + kn * 6 + 1, none⟩) hab] at y1
      rw [← hbel.cell (p := ⟨ab, aoff + kn * 6 + 2, none⟩) hab] at y2
      rw [← hbel.cell (p := ⟨ab, aoff + kn * 6 + 3, none⟩) hab] at y3
      rw [← hbel.cell (p := ⟨ab, aoff + kn * 6 + 4, none⟩) hab] at y4
      rw [← hbel.cell (p := ⟨ab, aoff + kn * 6 + 5, none⟩) hab] at y5
      generalize ops[kn]'(by omega) = oo at *
      obtain ⟨ok, oa, ob, oc, os, ot⟩ := oo
      simp only at y0 y1 y2 y3 y4 y5 hsz hst
      have hkI : (kn : Int) < (len : Int) := by omega
      have hkD : decide ((kn : Int) < (len : Int)) = true := decide_eq_true hkI
      have hkM : decide ((kn : Int) < 4398046511104) = true := by simp; omega
      have oo : Only (fun _ => False) wr (wr.alloc (.cells #[.int .i64 ok, .int .i64 oa, .int .i64 ob, .int .i64 oc, .string os, .string ot] 38)) := (Only.refl _ wr).alloc _
      have HOB := hide (Has.new wr #[.int .i64 ok, .int .i64 oa, .int .i64 ob, .int .i64 oc, .string os, .string ot] 38)
      have HW := hide (WW.add (E' := fun b => (b = kw ∨ b = kk ∨ B b) ∨ b = wr.heap.size) oo (fun b hb => hb.imp id (fun c => ⟨by omega, by rw [c]; simp⟩)))
      have HOG := hide (show ∀ b, (b = kw ∨ b = kk ∨ B b) → b ≠ wr.heap.size from fun b hb => Nat.ne_of_lt (WW.ex b hb).2.2.2.1)
      have BX := BX.keep oo (fun e => e)
      unfold jbC at BX
      have HBX := hide BX
      have HKp := hide (KP.quiet oo)
      have HKW := hide KW
      have HON := hide (ON.trans (oo.mono (T := fun b => w.heap.size ≤ b) (fun _ _ e => e.elim)) (fun _ _ e => e))
      clear WW ON BX KP KW hol hsz hst hbel oo
      go_upto_region 19 with fail
      generalize wr.alloc (.cells #[.int .i64 ok, .int .i64 oa, .int .i64 ob, .int .i64 oc, .string os, .string ot] 38) = wa at *
      generalize wr.heap.size = og at *
      clear y0 y1 y2 y3 y4 y5
      by_cases hcut : ok = 9
      · subst hcut
        have k0 : wa.cell? ⟨og, 0, none⟩ = some (.int .i64 9) := (unhide HOB).cell 0
        have k1 : wa.cell? ⟨og, 1, none⟩ = some (.int .i64 oa) := (unhide HOB).cell 1
        have k2 : wa.cell? ⟨og, 2, none⟩ = some (.int .i64 ob) := (unhide HOB).cell 2
        have k3 : wa.cell? ⟨og, 3, none⟩ = some (.int .i64 oc) := (unhide HOB).cell 3
        have k4 : wa.cell? ⟨og, 4, none⟩ = some (.string os) := (unhide HOB).cell 4
        have k5 : wa.cell? ⟨og, 5, none⟩ = some (.string ot) := (unhide HOB).cell 5
        have kl := (unhide HOB).lt
        have c0 : wa.cell? ⟨kw, 0, none⟩ = some (.pointer (some ⟨p.d, 0, none⟩)) := (unhide HBX).cell 0
        have c1 : wa.cell? ⟨kw, 1, none⟩ = some (.pointer (some ⟨g, 0, none⟩)) := (unhide HBX).cell 1
        have cl := (unhide HBX).lt
        have CT := xlsteps_any g (unhide HW).qr.rx.dk
        unfold jbV jbC at CT
        have CT := hide CT
        go_wp2_with fail
        refine (unhide CT).mono ?_
        rintro e wb ⟨rfl, oT⟩
        have HBX := hide ((unhide HBX).keep oT (fun e => e))
        have HOB := hide ((unhide HOB).keep oT (fun e => e))
        have HKp := hide ((unhide HKp).quiet oT)
        have HW := hide ((unhide HW).quiet oT)
        have HON := hide ((unhide HON).trans (oT.mono (T := fun b => w.heap.size ≤ b) (fun _ _ e => e.elim)) (fun _ _ e => e))
        clear c0 c1 cl
        clear CT oT
        clear k0 k1 k2 k3 k4 k5 kl
        have c0 : wb.cell? ⟨kw, 0, none⟩ = some (.pointer (some ⟨p.d, 0, none⟩)) := (unhide HBX).cell 0
        have c1 : wb.cell? ⟨kw, 1, none⟩ = some (.pointer (some ⟨g, 0, none⟩)) := (unhide HBX).cell 1
        have cl := (unhide HBX).lt
        have oo : Only (fun _ => False) wb (wb.alloc (.cells #[.pointer (some ⟨p.d, 0, none⟩), .pointer (some ⟨g, 0, none⟩)] 30)) := (Only.refl _ wb).alloc _
        have HB0 := hide (Has.new wb #[.pointer (some ⟨p.d, 0, none⟩), .pointer (some ⟨g, 0, none⟩)] 30)
        have HW := hide ((unhide HW).add (E' := fun b => ((b = kw ∨ b = kk ∨ B b) ∨ b = og) ∨ b = wb.heap.size) oo (fun b hb => hb.imp id (fun c => ⟨by omega, by rw [c]; simp⟩)))
        have HNB := hide (show wb.heap.size ≠ kw from fun e => by have := (unhide HBX).lt; omega)
        have HBX := hide ((unhide HBX).keep oo (fun e => e))
        have HOB := hide ((unhide HOB).keep oo (fun e => e))
        have HKp := hide ((unhide HKp).quiet oo)
        have HON := hide ((unhide HON).trans (oo.mono (T := fun b => w.heap.size ≤ b) (fun _ _ e => e.elim)) (fun _ _ e => e))
        go_upto_region 41 with fail
        generalize wb.alloc (.cells #[.pointer (some ⟨p.d, 0, none⟩), .pointer (some ⟨g, 0, none⟩)] 30) = wd at *
        generalize wb.heap.size = k0b at *
        clear c0 c1 cl
        clear oo
        obtain ⟨X, D, lX, hX, hCD, hor, hfoot, hwork⟩ := (unhide HW).pick oa
        obtain ⟨Sx, hSx, hDx⟩ := id hCD
        have HX := hide (And.intro lX (And.intro hX (And.intro hCD (And.intro hSx hDx))))
        have HV := hide (And.intro hor (And.intro hfoot hwork))
        clear lX hX hCD hor hfoot hwork hSx hDx
        have HD := HW
        have HSZ := hide (Nat.le_refl wd.heap.size)
        have HLT := hide (show (∀ b, (b = kw ∨ b = og ∨ b = k0b) → b < wd.heap.size) ∧ (∀ b, B b ∨ b = kk → b < wd.heap.size) from ⟨fun b hb => by
          rcases hb with c | c | c
          · exact ((unhide HD).ex b (.inl (.inl (.inl c)))).2.2.2.1
          · exact ((unhide HD).ex b (.inl (.inr c))).2.2.2.1
          · exact ((unhide HD).ex b (.inr c)).2.2.2.1, fun b hb => ((unhide HD).ex b (.inl (.inl (hb.elim (fun h => .inr (.inr h)) (fun h => .inr (.inl h)))))).2.2.2.1⟩)
        have hlo0 := (unhide HD).los
        have nog : og ≠ kw := fun e => unhide HOG kw (.inl rfl) e.symm
        have nb0 : k0b ≠ kw := unhide HNB
        have HKk := hide (show ∀ b, B b ∨ b = kk → b ≠ kw from fun b hb e => unhide HKW (by rw [← e]; exact hb.elim .inr .inl))
        have CA := xlafter_any g oa (unhide HW).qr.rx.dk (unhide HW).cu (unhide HX).1 (unhide HX).2.1 (unhide HX).2.2.1 (unhide HX).2.2.2.1 (unhide HX).2.2.2.2
        unfold jbV jbC at CA
        have CA := hide CA
        have z0 : wd.cell? ⟨k0b, 0, none⟩ = some (.pointer (some ⟨p.d, 0, none⟩)) := (unhide HB0).cell 0
        have z1 : wd.cell? ⟨k0b, 1, none⟩ = some (.pointer (some ⟨g, 0, none⟩)) := (unhide HB0).cell 1
        have zl := (unhide HB0).lt
        have k1 : wd.cell? ⟨og, 1, none⟩ = some (.int .i64 oa) := (unhide HOB).cell 1
        have kl := (unhide HOB).lt
        go_wp2_with fail
        refine (unhide CA).mono ?_
        rintro e we ⟨wq, wx, wg, rfl, rx2, cu2, hlo2, oe⟩
        clear CA z0 z1 zl k1 kl
        have HW := hide ((unhide HW).quiet oe)
        have HBX := hide ((unhide HBX).keep oe (fun e => e))
        have HOB := hide ((unhide HOB).keep oe (fun e => e))
        have HB0 := hide ((unhide HB0).keep oe (fun e => e))
        have HKp := hide ((unhide HKp).quiet oe)
        have HON := hide ((unhide HON).trans (oe.mono (T := fun b => w.heap.size ≤ b) (fun _ _ e => e.elim)) (fun _ _ e => e))
        replace HSZ := hide (Nat.le_trans (unhide HSZ) oe.size)
        have c0 := (unhide HBX).cell 0
        have c1 := (unhide HBX).cell 1
        have f0 := (unhide HBX).free 0
        have f1 := (unhide HBX).free 1
        have cl := (unhide HBX).lt
        simp [jbC] at c0 c1
        have oo2 : Only (fun b => b = kw) we ((we.setCell ⟨kw, 0, none⟩ (.pointer (some ⟨wq.d, 0, none⟩))).setCell ⟨kw, 1, none⟩ (.pointer (some ⟨wg, 0, none⟩))) := (only1 (p := kw) _ _).trans (only1 (p := kw) _ _) (fun _ _ h => h)
        have HBX := hide (show Has ((we.setCell ⟨kw, 0, none⟩ (.pointer (some ⟨wq.d, 0, none⟩))).setCell ⟨kw, 1, none⟩ (.pointer (some ⟨wg, 0, none⟩))) kw #[.pointer (some ⟨wq.d, 0, none⟩), .pointer (some ⟨wg, 0, none⟩)] 30 from ((unhide HBX).setCell 0 _).setCell 1 _)
        have HOB := hide ((unhide HOB).keep oo2 (fun e => nog e))
        have HB0 := hide ((unhide HB0).keep oo2 (fun e => nb0 e))
        have HKp := hide ((unhide HKp).keep oo2 (fun b hb e => unhide HKk b hb e))
        have HW := hide ((unhide HW).own oo2 (fun b c => .inl (.inl (.inl c))))
        replace HSZ := hide (Nat.le_trans (unhide HSZ) oo2.size)
        have HON := hide ((unhide HON).trans oo2 (fun b _ c => by have c' : b = kw := c; rw [c']; exact ((unhide HD).ex kw (.inl (.inl (.inl rfl)))).2.2.2.2))
        have wz := oe.size
        have rx3 := rx2.keep oo2 (fun b hb c => by have c' : b = kw := c; have := hlo2 b hb; have := (unhide HLT).1 kw (.inl rfl); have := Nat.le_refl wd.heap.size; omega)
        have HS2 := hide (And.intro rx3 (And.intro cu2 hlo2))
        have wz2 := oo2.size
        unfold jbV jbC
        clear rx2 rx3 cu2 hlo2 oe oo2
        go_upto_region 42 with fail
        generalize (we.setCell ⟨kw, 0, none⟩ (.pointer (some ⟨wq.d, 0, none⟩))).setCell ⟨kw, 1, none⟩ (.pointer (some ⟨wg, 0, none⟩)) = wf at *
        clear c0 c1 f0 f1 cl
        have c1 : wf.cell? ⟨kw, 1, none⟩ = some (.pointer (some ⟨wg, 0, none⟩)) := (unhide HBX).cell 1
        have cl := (unhide HBX).lt
        have C3 := hide (sqnew_any (f := 15) (w := wf) wg (.inr rfl))
        go_wp2_with fail
        refine (unhide C3).mono ?_
        rintro e wh ⟨rfl, hE3, o4⟩
        clear C3 c1 cl
        have HQ2 := hide (QR.new (unhide HS2).1 hE3 (Nat.le_refl _) o4)
        have wA : ∀ b, RSb wq wx wf.heap.size (fun b => b = wg) b → wd.heap.size ≤ b := fun b hb => by
          rcases hb with c | c | c | c
          · exact (unhide HS2).2.2 b (.inl c)
          · exact (unhide HS2).2.2 b (.inr (.inl c))
          · exact (unhide HS2).2.2 b (.inr (.inr c))
          · omega
        have HCU := hide (unhide HS2).2.1
        have HW := hide ((unhide HW).quiet o4)
        have HBX := hide ((unhide HBX).keep o4 (fun e => e))
        have HOB := hide ((unhide HOB).keep o4 (fun e => e))
        have HB0 := hide ((unhide HB0).keep o4 (fun e => e))
        have HKp := hide ((unhide HKp).quiet o4)
        have HON := hide ((unhide HON).trans (o4.mono (T := fun b => w.heap.size ≤ b) (fun _ _ e => e.elim)) (fun _ _ e => e))
        replace HSZ := hide (Nat.le_trans (unhide HSZ) o4.size)
        clear hE3 o4 HS2
        generalize wf.heap.size = wk at *
        have qS1 : ∀ b, wq.S b → wd.heap.size ≤ b := fun b hb => wA b (.inl (Gnd.S_A hb))
        have c0 : wh.cell? ⟨kw, 0, none⟩ = some (.pointer (some ⟨wq.d, 0, none⟩)) := (unhide HBX).cell 0
        have c1 : wh.cell? ⟨kw, 1, none⟩ = some (.pointer (some ⟨wg, 0, none⟩)) := (unhide HBX).cell 1
        have cl := (unhide HBX).lt
        have CT := xlsteps_any wg (unhide HQ2).rx.dk
        unfold jbV jbC at CT
        have CT := hide CT
        go_wp2_with fail
        refine (unhide CT).mono ?_
        rintro e wj ⟨rfl, oT⟩
        have HW := hide ((unhide HW).quiet oT)
        have HBX := hide ((unhide HBX).keep oT (fun e => e))
        have HOB := hide ((unhide HOB).keep oT (fun e => e))
        have HB0 := hide ((unhide HB0).keep oT (fun e => e))
        have HKp := hide ((unhide HKp).quiet oT)
        have HON := hide ((unhide HON).trans (oT.mono (T := fun b => w.heap.size ≤ b) (fun _ _ e => e.elim)) (fun _ _ e => e))
        replace HSZ := hide (Nat.le_trans (unhide HSZ) oT.size)
        have HQ2 := hide ((unhide HQ2).quiet oT)
        clear c0 c1 cl
        clear CT oT
        have CB := hide (smcrashed_any (unhide HW).mb)
        go_wp2_with fail
        refine (unhide CB).mono ?_
        rintro e wl ⟨mc, mcq, mcH, rfl, nmc, hkmc, hHmc, oB⟩
        have HQb := HQ2
        have HW := hide ((unhide HW).quiet oB)
        have HBX := hide ((unhide HBX).keep oB (fun e => e))
        have HOB := hide ((unhide HOB).keep oB (fun e => e))
        have HB0 := hide ((unhide HB0).keep oB (fun e => e))
        have HKp := hide ((unhide HKp).quiet oB)
        have HON := hide ((unhide HON).trans (oB.mono (T := fun b => w.heap.size ≤ b) (fun _ _ e => e.elim)) (fun _ _ e => e))
        replace HSZ := hide (Nat.le_trans (unhide HSZ) oB.size)
        have HQ2 := hide ((unhide HQ2).quiet oB)
        have mlmc : ∀ b, mcH b ∨ b = mc → wj.heap.size ≤ b := fun b hb => hb.elim (hHmc b) (fun e => by rw [e]; exact hkmc)
        have rltmc : ∀ b, RSb wq wx wk (fun b => b = wg) b → b < wj.heap.size := fun b hb => by
          obtain ⟨h1, h2, h3, h4⟩ := (unhide HQb).lts
          rcases hb with c | c | c | c
          · exact h1 b c
          · rw [c]; exact h2
          · exact h3 b c
          · rw [c]; exact h4
        have zmc := oB.size
        have apmc : ApQ wq wx wk mc (fun b => b = wg) mcH wl := ⟨fun b hb => (show Apa wq wx wk (fun b => b = wg) b from apa_iff.mpr (fun d => by have := rltmc b d; have := mlmc b hb; omega)), fun b hb => by have := rltmc b hb; omega, nmc.lt⟩
        have CT := hide (slalike_any (⟨unhide HQ2, nmc, Only.refl _ _⟩ : AQ wq wk wg wx mc mcq (Mu0 D) (Mu0 Mb.com) (fun b => b = wg) mcH 0 wl wl) apmc (by omega) (by omega) nmc.dgd.len)
        have HMM := hide (show DGd Mb.com from nmc.dgd)
        clear CB oB hkmc hHmc HQb mlmc rltmc zmc apmc nmc
        go_wp2_with fail
        refine (unhide CT).mono ?_
        rintro e wm ⟨b1, rfl, hb1, aT⟩
        have HW := hide ((unhide HD).far (unhide HW) aT.on qS1)
        have HBX := hide ((unhide HBX).keep aT.on (fun c => by have := qS1 kw c; have := (unhide HLT).1 kw (.inl rfl); omega))
        have HOB := hide ((unhide HOB).keep aT.on (fun c => by have := qS1 og c; have := (unhide HLT).1 og (.inr (.inl rfl)); omega))
        have HB0 := hide ((unhide HB0).keep aT.on (fun c => by have := qS1 k0b c; have := (unhide HLT).1 k0b (.inr (.inr rfl)); omega))
        have HKp := hide ((unhide HKp).keep aT.on (fun b hb c => by have := qS1 b c; have := (unhide HLT).2 b hb; omega))
        have HON := hide ((unhide HON).trans aT.on (fun b _ c => by have := qS1 b c; have := (unhide HD).los; omega))
        replace HSZ := hide (Nat.le_trans (unhide HSZ) aT.on.size)
        have HB1 := hide (show b1 = true ↔ D = Mb.com from hb1.trans ⟨fun h => Obs.mu0 aT.qr.rx.dg.1 (unhide HMM) h, fun h => by rw [h]; exact Obs.refl _⟩)
        have HQ2 := hide aT.qr
        clear CT aT hb1 HMM
        have CB := hide (smcrashed_any (unhide HW).me)
        go_wp2_with fail
        refine (unhide CB).mono ?_
        rintro e wn ⟨md, mdq, mdH, rfl, nmd, hkmd, hHmd, oB⟩
        have HQb := HQ2
        have HW := hide ((unhide HW).quiet oB)
        have HBX := hide ((unhide HBX).keep oB (fun e => e))
        have HOB := hide ((unhide HOB).keep oB (fun e => e))
        have HB0 := hide ((unhide HB0).keep oB (fun e => e))
        have HKp := hide ((unhide HKp).quiet oB)
        have HON := hide ((unhide HON).trans (oB.mono (T := fun b => w.heap.size ≤ b) (fun _ _ e => e.elim)) (fun _ _ e => e))
        replace HSZ := hide (Nat.le_trans (unhide HSZ) oB.size)
        have HQ2 := hide ((unhide HQ2).quiet oB)
        have mlmd : ∀ b, mdH b ∨ b = md → wm.heap.size ≤ b := fun b hb => hb.elim (hHmd b) (fun e => by rw [e]; exact hkmd)
        have rltmd : ∀ b, RSb wq wx wk (fun b => b = wg) b → b < wm.heap.size := fun b hb => by
          obtain ⟨h1, h2, h3, h4⟩ := (unhide HQb).lts
          rcases hb with c | c | c | c
          · exact h1 b c
          · rw [c]; exact h2
          · exact h3 b c
          · rw [c]; exact h4
        have zmd := oB.size
        have apmd : ApQ wq wx wk md (fun b => b = wg) mdH wn := ⟨fun b hb => (show Apa wq wx wk (fun b => b = wg) b from apa_iff.mpr (fun d => by have := rltmd b d; have := mlmd b hb; omega)), fun b hb => by have := rltmd b hb; omega, nmd.lt⟩
        have CT := hide (slalike_any (⟨unhide HQ2, nmd, Only.refl _ _⟩ : AQ wq wk wg wx md mdq (Mu0 D) (Mu0 M.com) (fun b => b = wg) mdH 0 wn wn) apmd (by omega) (by omega) nmd.dgd.len)
        have HMM := hide (show DGd M.com from nmd.dgd)
        clear CB oB hkmd hHmd HQb mlmd rltmd zmd apmd nmd
        go_wp2_with fail
        refine (unhide CT).mono ?_
        rintro e wo ⟨b2, rfl, hb2, aT⟩
        have HW := hide ((unhide HD).far (unhide HW) aT.on qS1)
        have HBX := hide ((unhide HBX).keep aT.on (fun c => by have := qS1 kw c; have := (unhide HLT).1 kw (.inl rfl); omega))
        have HOB := hide ((unhide HOB).keep aT.on (fun c => by have := qS1 og c; have := (unhide HLT).1 og (.inr (.inl rfl)); omega))
        have HB0 := hide ((unhide HB0).keep aT.on (fun c => by have := qS1 k0b c; have := (unhide HLT).1 k0b (.inr (.inr rfl)); omega))
        have HKp := hide ((unhide HKp).keep aT.on (fun b hb c => by have := qS1 b c; have := (unhide HLT).2 b hb; omega))
        have HON := hide ((unhide HON).trans aT.on (fun b _ c => by have := qS1 b c; have := (unhide HD).los; omega))
        replace HSZ := hide (Nat.le_trans (unhide HSZ) aT.on.size)
        have HB2 := hide (show b2 = true ↔ D = M.com from hb2.trans ⟨fun h => Obs.mu0 aT.qr.rx.dg.1 (unhide HMM) h, fun h => by rw [h]; exact Obs.refl _⟩)
        have HQ2 := hide aT.qr
        clear CT aT hb2 HMM
        have CT := hide (sqlast_any (unhide HQ2))
        have b8 : ((0 : Int) != (0 : Int)) = false := by simp
        go_wp2_with fail
        refine (unhide CT).mono ?_
        rintro e wT ⟨rfl, rfl⟩
        clear CT
        have c0 : wo.cell? ⟨kw, 0, none⟩ = some (.pointer (some ⟨wq.d, 0, none⟩)) := (unhide HBX).cell 0
        have c1 : wo.cell? ⟨kw, 1, none⟩ = some (.pointer (some ⟨wg, 0, none⟩)) := (unhide HBX).cell 1
        have cl := (unhide HBX).lt
        have CT := xlsteps_any wg (unhide HQ2).rx.dk
        unfold jbV jbC at CT
        have CT := hide CT
        have b9 : ((wq.recs.length : Int) != (wq.recs.length : Int)) = false := by simp
        have b9n : (wq.recs.length != wq.recs.length) = false := by simp
        go_wp2_with fail
        refine (unhide CT).mono ?_
        rintro e wv ⟨rfl, oT⟩
        have HW := hide ((unhide HW).quiet oT)
        have HBX := hide ((unhide HBX).keep oT (fun e => e))
        have HOB := hide ((unhide HOB).keep oT (fun e => e))
        have HB0 := hide ((unhide HB0).keep oT (fun e => e))
        have HKp := hide ((unhide HKp).quiet oT)
        have HON := hide ((unhide HON).trans (oT.mono (T := fun b => w.heap.size ≤ b) (fun _ _ e => e.elim)) (fun _ _ e => e))
        replace HSZ := hide (Nat.le_trans (unhide HSZ) oT.size)
        have HQ2 := hide ((unhide HQ2).quiet oT)
        clear c0 c1 cl
        clear CT oT
        have H12 := hide (show b1 = true ∨ b2 = true from (unhide HV).1.imp (unhide HB1).mpr (unhide HB2).mpr)
        have H0 := hide (show oa ≤ 0 → b1 = true from fun h => (unhide HB1).mpr ((unhide HV).2.1 h))
        have HNN := hide (show (p.recs.length : Int) ≤ oa → b2 = true from fun h => (unhide HB2).mpr ((unhide HV).2.2 h))
        have k1 : wv.cell? ⟨og, 1, none⟩ = some (.int .i64 oa) := (unhide HOB).cell 1
        have kl := (unhide HOB).lt
        go_upto_region 53 with fail
        clear b9 b9n b8
        go_cut [166] from 161 to 166 (fun v wy => v = .bool false ∧ wv = wy)
        case first =>
          rcases unhide H12 with h | h
          · subst h
            go_wp2_with fail
            go_meet
            exact ⟨rfl, rfl⟩
          · subst h
            cases b1
            · go_wp2_with fail
              go_meet
              exact ⟨rfl, rfl⟩
            · go_wp2_with fail
              go_meet
              exact ⟨rfl, rfl⟩
        case rest =>
        obtain ⟨rfl, rfl⟩ := hcut
        go_upto_region 55 with fail
        go_cut [175] from 169 to 175 (fun v wy => v = .bool false ∧ wv = wy)
        case first =>
          by_cases h0 : oa ≤ 0
          · have h0b := unhide H0 h0
            subst h0b
            have h0c : decide (oa ≤ 0) = true := by simpa using h0
            go_wp2_with fail
            go_meet
            exact ⟨rfl, rfl⟩
          · have h0b : decide (oa ≤ 0) = false := by simpa using h0
            go_wp2_with fail
            go_meet
            exact ⟨rfl, rfl⟩
        case rest =>
        obtain ⟨rfl, rfl⟩ := hcut
        go_upto_region 57 with fail
        go_cut [185] from 178 to 185 (fun v wy => v = .bool false ∧ wv = wy)
        case first =>
          by_cases h0 : (p.recs.length : Int) ≤ oa
          · have h0b := unhide HNN h0
            subst h0b
            have h0c : decide ((p.recs.length : Int) ≤ oa) = true := by simpa using h0
            have h0d : decide (oa ≥ (p.recs.length : Int)) = true := by simpa using h0
            go_wp2_with fail
            go_meet
            exact ⟨rfl, rfl⟩
          · have h0b : decide ((p.recs.length : Int) ≤ oa) = false := by simpa using h0
            have h0d : decide (oa ≥ (p.recs.length : Int)) = false := by simpa using h0
            go_wp2_with fail
            go_meet
            exact ⟨rfl, rfl⟩
        case rest =>
        obtain ⟨rfl, rfl⟩ := hcut
        as_aux_lemma =>
        have hwv := (unhide HON).size
        clear k1 kl
        go_upto_if 188 with fail
        go_cut [10] from 189 to 192 (fun mv wy => ∃ (m2 mq2 : Nat) (H2 : Nat → Prop), mv = .pointer (some ⟨m2, 0, none⟩) ∧ ME wy m2 mq2 (Mu0 D) H2 ∧ wv.heap.size ≤ m2 ∧ (∀ b, H2 b → wv.heap.size ≤ b) ∧ Only (fun _ => False) wv wy)
        case first =>
          cases b2 with
          | true =>
            refine wp_cond_true rfl ?_
            have CX : Calls Tryz.prog 28 #[.pointer (some ⟨k2, 0, none⟩)] wv (NeP wv (Mu0 D)) := by
              have h1 := smcrashed_any (unhide HW).me
              rw [← (unhide HB2).mp rfl] at h1
              exact h1
            have CX := hide CX
            go_wp2_with fail
            refine (unhide CX).mono ?_
            rintro e wy ⟨m2, mq2, H2, rfl, nc⟩
            have FF := hide nc
            clear nc CX
            go_wp2_with fail
            go_meet
            exact ⟨m2, mq2, H2, rfl, unhide FF⟩
          | false =>
            refine wp_cond_false rfl ?_
            have CX : Calls Tryz.prog 28 #[.pointer (some ⟨kb, 0, none⟩)] wv (NeP wv (Mu0 D)) := by
              have h1 := smcrashed_any (unhide HW).mb
              have e1 : D = Mb.com := by
                rcases (unhide HV).1 with c | c
                · exact c
                · have := (unhide HB2).mpr c; cases this
              rw [← e1] at h1
              exact h1
            have CX := hide CX
            go_wp2_with fail
            refine (unhide CX).mono ?_
            rintro e wy ⟨m2, mq2, H2, rfl, nc⟩
            have FF := hide nc
            clear nc CX
            go_wp2_with fail
            go_meet
            exact ⟨m2, mq2, H2, rfl, unhide FF⟩
        case rest =>
        obtain ⟨m2, mq2, H2, rfl, n4, hm2, hH2, o4⟩ := hcut
        generalize wc = wy at *
        as_aux_lemma =>
        have C5 := hide (smclone_any n4)
        clear H12 H0 HNN HB1 HB2
        go_wp2_with fail
        refine (unhide C5).mono ?_
        rintro e w6 ⟨mb2, mbq, Hb2, rfl, n6, hmb2, hHb2, o6⟩
        clear C5
        have wvd : wd.heap.size ≤ wv.heap.size := unhide HSZ
        have HWN : Hid (WQ w.heap.size w6 wq wk wg wx (Mu0 D) (fun b => b = wg) 0 m2 mq2 (Mu0 D) H2 mb2 mbq (Mu0 D) Hb2 (fun b => ((b = kw ∨ b = kk ∨ B b) ∨ b = og) ∨ b = k0b)) := hide (WQ.start (unhide HQ2) (unhide HCU) (fun b hb => by have := wA b hb; omega) hwv n4 hm2 hH2 o4 n6 hmb2 hHb2 o6 (fun b hb => by
          have e := (unhide HD).ex b hb
          exact ⟨fun c => by have := wA b c; omega, by omega, e.2.2.2.2⟩))
        have o46 : Only (fun _ => False) wv w6 := o4.trans o6 (fun _ _ e => e)
        have HW := hide ((unhide HW).quiet o46)
        have HBX := hide ((unhide HBX).keep o46 (fun e => e))
        have HOB := hide ((unhide HOB).keep o46 (fun e => e))
        have HB0 := hide ((unhide HB0).keep o46 (fun e => e))
        have HKp := hide ((unhide HKp).quiet o46)
        have HON := hide ((unhide HON).trans (o46.mono (T := fun b => w.heap.size ≤ b) (fun _ _ e => e.elim)) (fun _ _ e => e))
        replace HSZ := hide (Nat.le_trans (unhide HSZ) o46.size)
        have HWo := HW
        have HDN := HWN
        have w6d : wd.heap.size ≤ w6.heap.size := unhide HSZ
        clear n4 n6 hm2 hH2 hmb2 hHb2 o4 o6 o46 HQ2 HCU HV HW
        as_aux_lemma =>
        have CA := xlafter_any g oa (unhide HWo).qr.rx.dk (unhide HWo).cu (unhide HX).1 (unhide HX).2.1 (unhide HX).2.2.1 (unhide HX).2.2.2.1 (unhide HX).2.2.2.2
        unfold jbV jbC at CA
        have CA := hide CA
        have z0 : w6.cell? ⟨k0b, 0, none⟩ = some (.pointer (some ⟨p.d, 0, none⟩)) := (unhide HB0).cell 0
        have z1 : w6.cell? ⟨k0b, 1, none⟩ = some (.pointer (some ⟨g, 0, none⟩)) := (unhide HB0).cell 1
        have zl := (unhide HB0).lt
        have k1 : w6.cell? ⟨og, 1, none⟩ = some (.int .i64 oa) := (unhide HOB).cell 1
        have kl := (unhide HOB).lt
        go_wp2_with fail
        refine (unhide CA).mono ?_
        rintro e xe ⟨xq, xx, xg, rfl, rx2, cu2, hlo2, oe⟩
        clear CA z0 z1 zl k1 kl
        have HWo := hide ((unhide HWo).quiet oe)
        have HWN := hide ((unhide HWN).quiet oe)
        have HBX := hide ((unhide HBX).keep oe (fun e => e))
        have HOB := hide ((unhide HOB).keep oe (fun e => e))
        have HB0 := hide ((unhide HB0).keep oe (fun e => e))
        have HKp := hide ((unhide HKp).quiet oe)
        have HON := hide ((unhide HON).trans (oe.mono (T := fun b => w.heap.size ≤ b) (fun _ _ e => e.elim)) (fun _ _ e => e))
        replace HSZ := hide (Nat.le_trans (unhide HSZ) oe.size)
        have c0 := (unhide HBX).cell 0
        have c1 := (unhide HBX).cell 1
        have f0 := (unhide HBX).free 0
        have f1 := (unhide HBX).free 1
        have cl := (unhide HBX).lt
        simp [jbC] at c0 c1
        have oo2 : Only (fun b => b = kw) xe ((xe.setCell ⟨kw, 0, none⟩ (.pointer (some ⟨xq.d, 0, none⟩))).setCell ⟨kw, 1, none⟩ (.pointer (some ⟨xg, 0, none⟩))) := (only1 (p := kw) _ _).trans (only1 (p := kw) _ _) (fun _ _ h => h)
        have HBX := hide (show Has ((xe.setCell ⟨kw, 0, none⟩ (.pointer (some ⟨xq.d, 0, none⟩))).setCell ⟨kw, 1, none⟩ (.pointer (some ⟨xg, 0, none⟩))) kw #[.pointer (some ⟨xq.d, 0, none⟩), .pointer (some ⟨xg, 0, none⟩)] 30 from ((unhide HBX).setCell 0 _).setCell 1 _)
        have HOB := hide ((unhide HOB).keep oo2 (fun e => nog e))
        have HB0 := hide ((unhide HB0).keep oo2 (fun e => nb0 e))
        have HKp := hide ((unhide HKp).keep oo2 (fun b hb e => unhide HKk b hb e))
        have HWo := hide ((unhide HWo).own oo2 (fun b c => .inl (.inl (.inl c))))
        have HWN := hide ((unhide HWN).own oo2 (fun b c => .inl (.inl (.inl c))))
        replace HSZ := hide (Nat.le_trans (unhide HSZ) oo2.size)
        have HON := hide ((unhide HON).trans oo2 (fun b _ c => by have c' : b = kw := c; rw [c']; exact ((unhide HD).ex kw (.inl (.inl (.inl rfl)))).2.2.2.2))
        have xz := oe.size
        have rx3 := rx2.keep oo2 (fun b hb c => by have c' : b = kw := c; have := hlo2 b hb; have := (unhide HLT).1 kw (.inl rfl); have := w6d; omega)
        have HS2 := hide (And.intro rx3 (And.intro cu2 hlo2))
        have xz2 := oo2.size
        unfold jbV jbC
        clear rx2 rx3 cu2 hlo2 oe oo2
        go_upto_region 65 with fail
        generalize (xe.setCell ⟨kw, 0, none⟩ (.pointer (some ⟨xq.d, 0, none⟩))).setCell ⟨kw, 1, none⟩ (.pointer (some ⟨xg, 0, none⟩)) = xf at *
        clear c0 c1 f0 f1 cl
        have c1 : xf.cell? ⟨kw, 1, none⟩ = some (.pointer (some ⟨xg, 0, none⟩)) := (unhide HBX).cell 1
        have cl := (unhide HBX).lt
        have C3 := hide (sqnew_any (f := 15) (w := xf) xg (.inr rfl))
        go_wp2_with fail
        refine (unhide C3).mono ?_
        rintro e xh ⟨rfl, hE3, o4⟩
        clear C3 c1 cl
        have HQ2 := hide (QR.new (unhide HS2).1 hE3 (Nat.le_refl _) o4)
        have xA : ∀ b, RSb xq xx xf.heap.size (fun b => b = xg) b → w6.heap.size ≤ b := fun b hb => by
          rcases hb with c | c | c | c
          · exact (unhide HS2).2.2 b (.inl c)
          · exact (unhide HS2).2.2 b (.inr (.inl c))
          · exact (unhide HS2).2.2 b (.inr (.inr c))
          · omega
        have HCU := hide (unhide HS2).2.1
        have HWo := hide ((unhide HWo).quiet o4)
        have HWN := hide ((unhide HWN).quiet o4)
        have HBX := hide ((unhide HBX).keep o4 (fun e => e))
        have HOB := hide ((unhide HOB).keep o4 (fun e => e))
        have HB0 := hide ((unhide HB0).keep o4 (fun e => e))
        have HKp := hide ((unhide HKp).quiet o4)
        have HON := hide ((unhide HON).trans (o4.mono (T := fun b => w.heap.size ≤ b) (fun _ _ e => e.elim)) (fun _ _ e => e))
        replace HSZ := hide (Nat.le_trans (unhide HSZ) o4.size)
        clear hE3 o4 HS2
        generalize xf.heap.size = xk at *
        have HW := hide ((unhide HDN).swap (unhide HWN) (unhide HQ2) (unhide HCU) xA)
        clear HWN HDN HWo HQ2 HCU HD HX HOB HB0 HLT HKk HNB HOG
        have HZ := hide (show LW w kw kk (.pointer (some ⟨xk, 0, none⟩)) (.pointer (some ⟨m2, 0, none⟩)) (.pointer (some ⟨mb2, 0, none⟩)) (.int .i64 0) xh from ⟨_, _, _, _, _, _, _, _, _, _, _, _, _, _, _, _, rfl, rfl, rfl, rfl, unhide HBX, unhide HKp, (unhide HW).sub (fun b hb => .inl (.inl hb)), (unhide HKW), unhide HON⟩)
        clear HBX HW HON HKp HKW
        go_wp2_with fail
        go_roundw
        case rel => exact ⟨kn + 1, by omega, by go_num, unhide HZ⟩
        case measure => simp [intOf]; omega
      · have b18 : (ok != 9) = true := by simpa using hcut
        clear hcut
        have k0 : wa.cell? ⟨og, 0, none⟩ = some (.int .i64 ok) := (unhide HOB).cell 0
        have k1 : wa.cell? ⟨og, 1, none⟩ = some (.int .i64 oa) := (unhide HOB).cell 1
        have k2 : wa.cell? ⟨og, 2, none⟩ = some (.int .i64 ob) := (unhide HOB).cell 2
        have k3 : wa.cell? ⟨og, 3, none⟩ = some (.int .i64 oc) := (unhide HOB).cell 3
        have k4 : wa.cell? ⟨og, 4, none⟩ = some (.string os) := (unhide HOB).cell 4
        have k5 : wa.cell? ⟨og, 5, none⟩ = some (.string ot) := (unhide HOB).cell 5
        have kl := (unhide HOB).lt
        have c0 : wa.cell? ⟨kw, 0, none⟩ = some (.pointer (some ⟨p.d, 0, none⟩)) := (unhide HBX).cell 0
        have c1 : wa.cell? ⟨kw, 1, none⟩ = some (.pointer (some ⟨g, 0, none⟩)) := (unhide HBX).cell 1
        have cl := (unhide HBX).lt
        have CM := xlmark_any g (unhide HW).qr.rx.dk
        unfold jbV jbC at CM
        have CM := hide CM
        go_wp2_with fail
        refine (unhide CM).mono ?_
        rintro e w1 ⟨rfl, hd1, o1⟩
        clear c0 c1 cl
        clear k0 k1 k2 k3 k4 k5 kl
        clear CM b18
        have nF : ∀ b, ((b = kw ∨ b = kk ∨ B b) ∨ b = og) → ¬ p.F b := fun b hb c => ((unhide HW).ex b hb).1 (.inl (.inl c))
        have HBX := hide ((unhide HBX).keep o1 (nF kw (.inl (.inl rfl))))
        have HOB := hide ((unhide HOB).keep o1 (nF og (.inr rfl)))
        have HKp := hide ((unhide HKp).keep o1 (fun b hb => nF b (.inl (hb.elim (fun h => .inr (.inr h)) (fun h => .inr (.inl h))))))
        have HON := hide ((unhide HON).trans o1 (fun b _ c => (unhide HW).lr b (.inl (.inl c))))
        have n1 := (unhide HW).me.keep o1 (fun b hb c => ((unhide HW).sm b hb).1 (.inl (.inl c)))
        have C3 := hide (smclone_any n1)
        clear n1 nF
        go_wp2_with fail
        refine (unhide C3).mono ?_
        rintro e w3 ⟨kb', qb', Hb', rfl, n3, hk3, hn3, o3⟩
        have HBX := hide ((unhide HBX).keep o3 (fun e => e))
        have HOB := hide ((unhide HOB).keep o3 (fun e => e))
        have HKp := hide ((unhide HKp).quiet o3)
        have HON := hide ((unhide HON).trans (o3.mono (T := fun b => w.heap.size ≤ b) (fun _ _ e => e.elim)) (fun _ _ e => e))
        have W3 := (unhide HW).marked hd1 o1 n3 hk3 hn3 o3
        have W3b : (p.mark wa w1).base = (p.mark wa w1).blk ∧ (p.mark wa w1).recs = [] ∧ (p.mark wa w1).d = p.d := ⟨rfl, rfl, rfl⟩
        generalize p.mark wa w1 = pm at *
        have HBX := unhide HBX
        rw [← W3b.2.2] at HBX
        have HBX := hide HBX
        have HQM := hide W3b
        have HW := hide W3
        clear C3 n3 hk3 hn3 o1 o3 hd1 W3 W3b
        have CP := hide (slplay_any (unhide HW) (unhide HQM).1 (unhide HQM).2.1 (unhide HKp) (fun b hb => .inl (hb.elim (fun h => .inr (.inr h)) (fun h => .inr (.inl h)))) ok oa ob oc os ot)
        have k0 : w3.cell? ⟨og, 0, none⟩ = some (.int .i64 ok) := (unhide HOB).cell 0
        have k1 : w3.cell? ⟨og, 1, none⟩ = some (.int .i64 oa) := (unhide HOB).cell 1
        have k2 : w3.cell? ⟨og, 2, none⟩ = some (.int .i64 ob) := (unhide HOB).cell 2
        have k3 : w3.cell? ⟨og, 3, none⟩ = some (.int .i64 oc) := (unhide HOB).cell 3
        have k4 : w3.cell? ⟨og, 4, none⟩ = some (.string os) := (unhide HOB).cell 4
        have k5 : w3.cell? ⟨og, 5, none⟩ = some (.string ot) := (unhide HOB).cell 5
        have kl := (unhide HOB).lt
        go_wp2_with fail
        refine (unhide CP).mono ?_
        rintro e w4 ⟨M', R', pl', loud, rd, p', K', H', B', rfl, W4, KP4, hB4, hpd, hrec, o4⟩
        clear k0 k1 k2 k3 k4 k5 kl
        have nX : ∀ b, (b = kw ∨ b = og) → ¬ (RSb pm x k K b ∨ (H b ∨ b = k2) ∨ (B b ∨ b = kk)) := fun b hb c => by
          have hE : (b = kw ∨ b = kk ∨ B b) ∨ b = og := hb.imp .inl id
          have e := (unhide HW).ex b hE
          rcases c with c | c | c
          · exact e.1 c
          · exact e.2.1 c
          · rcases hb with d | d
            · subst d; exact unhide HKW (c.elim .inr .inl)
            · exact unhide HOG b (c.elim (fun h => .inr (.inr h)) (fun h => .inr (.inl h))) d
        have HBX := (unhide HBX).keep o4 (nX kw (.inl rfl))
        rw [← hpd] at HBX
        have HBX := hide HBX
        have HOB := hide ((unhide HOB).keep o4 (nX og (.inr rfl)))
        have HON := hide ((unhide HON).trans ((unhide HW).toLo o4 (fun b c => by
          rcases c with c | c | c
          · exact .inl c
          · exact .inr (.inl c)
          · exact .inr (.inr (.inl (c.elim (fun h => .inr (.inr h)) (fun h => .inr (.inl h)))))))  (fun _ _ e => e))
        have HKW := hide (show ¬ (kw = kk ∨ B' kw) from fun c => c.elim (fun c => unhide HKW (.inl c)) (fun c => (hB4 kw c).elim (fun c => unhide HKW (.inr c)) (fun c => by have := ((unhide HW).ex kw (.inl (.inl rfl))).2.2.2.1; omega)))
        have HOG := hide (show ∀ b, (b = kw ∨ b = kk ∨ B' b) → b ≠ og from fun b hb e => by
          rcases hb with c | c | c
          · exact unhide HOG b (.inl c) e
          · exact unhide HOG b (.inr (.inl c)) e
          · rcases hB4 b c with d | d
            · exact unhide HOG b (.inr (.inr d)) e
            · have := ((unhide HW).ex og (.inr rfl)).2.2.2.1; omega)
        have HKp := hide KP4
        have HW := hide (W4.sub (E' := fun b => (b = kw ∨ b = kk ∨ B' b) ∨ b = og) (fun b hb => by
          rcases hb with (c | c | c) | c
          · exact .inl (.inl (.inl c))
          · exact .inl (.inl (.inr (.inl c)))
          · exact .inr c
          · exact .inl (.inr c)))
        have HRC := hide hrec
        clear CP W4 KP4 hB4 hpd hrec o4 nX HQM
        have c0 : w4.cell? ⟨kw, 0, none⟩ = some (.pointer (some ⟨p'.d, 0, none⟩)) := (unhide HBX).cell 0
        have c1 : w4.cell? ⟨kw, 1, none⟩ = some (.pointer (some ⟨g, 0, none⟩)) := (unhide HBX).cell 1
        have cl := (unhide HBX).lt
        have CT := xlsteps_any g (unhide HW).qr.rx.dk
        unfold jbV jbC at CT
        have CT := hide CT
        go_wp2_with fail
        refine (unhide CT).mono ?_
        rintro e w5 ⟨rfl, oT⟩
        have HBX := hide ((unhide HBX).keep oT (fun e => e))
        have HOB := hide ((unhide HOB).keep oT (fun e => e))
        have HKp := hide ((unhide HKp).quiet oT)
        have HW := hide ((unhide HW).quiet oT)
        have HON := hide ((unhide HON).trans (oT.mono (T := fun b => w.heap.size ≤ b) (fun _ _ e => e.elim)) (fun _ _ e => e))
        clear c0 c1 cl
        clear CT oT
        have CO := hide (sloneStep_any p'.recs.length loud (unhide HRC) w5)
        go_wp2_with fail
        refine (unhide CO).mono ?_
        rintro e w6 ⟨rfl, rfl⟩
        clear CO HRC
        have c0 : w5.cell? ⟨kw, 0, none⟩ = some (.pointer (some ⟨p'.d, 0, none⟩)) := (unhide HBX).cell 0
        have c1 : w5.cell? ⟨kw, 1, none⟩ = some (.pointer (some ⟨g, 0, none⟩)) := (unhide HBX).cell 1
        have cl := (unhide HBX).lt
        have CF := slfetched_any p'.d g w5
        unfold jbV jbC at CF
        have CF := hide CF
        have b7 : decide ((-1 : Int) > (rd : Int)) = false := decide_eq_false (by omega)
        have b7b : decide ((rd : Int) < -1) = false := decide_eq_false (by omega)
        go_wp2_with fail
        refine (unhide CF).mono ?_
        rintro e w6 ⟨rfl, oT⟩
        have HBX := hide ((unhide HBX).keep oT (fun e => e))
        have HOB := hide ((unhide HOB).keep oT (fun e => e))
        have HKp := hide ((unhide HKp).quiet oT)
        have HW := hide ((unhide HW).quiet oT)
        have HON := hide ((unhide HON).trans (oT.mono (T := fun b => w.heap.size ≤ b) (fun _ _ e => e.elim)) (fun _ _ e => e))
        clear c0 c1 cl
        clear CF oT
        have HZ := hide (show LW w kw kk (.pointer (some ⟨k, 0, none⟩)) (.pointer (some ⟨k2, 0, none⟩)) (.pointer (some ⟨kb', 0, none⟩)) (.int .i64 pl') w6 from ⟨_, _, _, _, _, _, _, _, _, _, _, _, _, _, _, _, rfl, rfl, rfl, rfl, unhide HBX, unhide HKp, (unhide HW).sub (fun b hb => .inl hb), (unhide HKW), unhide HON⟩)
        clear HBX HW HON HKp HKW HOB HOG
        go_wp2_with fail
        go_roundw
        case rel => exact ⟨kn + 1, by omega, by go_num, unhide HZ⟩
        case measure => simp [intOf]; omega
    · have hkI : decide ((kn : Int) < (len : Int)) = false := by simp; omega
      clear BX WW ON KP KW
      by_cases hM : len < 4398046511104
      · have hM1 : decide ((len : Int) < 4398046511104) = true := by simp; omega
        go_wp2_with fail
        go_ret2
        exact ⟨⟨_, rfl⟩, hbel⟩
      · have hM1 : decide ((len : Int) < 4398046511104) = false := by simp; omega
        go_wp2_with fail
        go_ret2
        exact ⟨⟨_, rfl⟩, hbel⟩
end Go.Proofs.Qxb6500412aGreat
