/-
  OWN WORK. QUERY's LAW: walk. (tools/gen_qwk.py writes it.)
-/
import Derived.Test.Qxb6500412aGreatQL13
import Derived.Test.Qxb6500412aGreatOpsDef2
import Derived.Deep.DeepCutAuto
namespace Go.Proofs.Qxb6500412aGreat
open Go.RowKit Go.PlainAid
set_option linter.unusedSimpArgs false
set_option linter.unusedVariables false

set_option maxRecDepth 100000 in
set_option maxHeartbeats 32000000 in
theorem qwalkS_any (ad : Option Addr) (len cap : Nat) (ops : List OpD) (w : World) (hops : OpsAt w ad len ops) (hlen : len ≤ 4398046511104) :
    Calls Tryz.prog 9 #[.slice ad len cap, .bool true, .bool false] w fun e w' => (∃ n : Int, e = .returned (.tuple #[.int .i64 (-1), .int .i64 n])) ∧ Below w.heap.size w w' := by
  have C1 := hide (xlground_any w)
  go_enter Tryz.func9, Tryz.ntmps9
  go_wp2_with fail
  refine (unhide C1).mono ?_
  rintro e w1 ⟨p, x, g, rfl, rx, cu, hlo, o1⟩
  clear C1
  unfold jbV jbC
  have o2 : Only (fun _ => False) w1 (w1.alloc (.cells #[.pointer (some ⟨p.d, 0, none⟩), .pointer (some ⟨g, 0, none⟩)] 30)) := (Only.refl _ w1).alloc _
  have HBX := hide (Has.new w1 #[.pointer (some ⟨p.d, 0, none⟩), .pointer (some ⟨g, 0, none⟩)] 30)
  have HS := hide (show RX p (w1.alloc (.cells #[.pointer (some ⟨p.d, 0, none⟩), .pointer (some ⟨g, 0, none⟩)] 30)) g x (Mu0 []) (fun b => b = g) ∧ CutX p.base p.recs (fun X => ComD X []) (fun X => ComD X []) ∧ (∀ b, p.A b ∨ b = x ∨ b = g → w.heap.size ≤ b ∧ b < w1.heap.size) ∧ Only (fun _ => False) w (w1.alloc (.cells #[.pointer (some ⟨p.d, 0, none⟩), .pointer (some ⟨g, 0, none⟩)] 30)) ∧ w.heap.size ≤ w1.heap.size from ⟨rx.quiet o2, cu, fun b hb => ⟨hlo b hb, by
    rcases hb with c | c | c
    · exact rx.Alt.1 b c
    · rw [c]; exact rx.Alt.2
    · exact (rx.kA b c).2.2⟩, o1.trans o2 (fun _ _ e => e), o1.size⟩)
  clear rx cu hlo o1 o2
  go_upto_region 2 with fail
  generalize w1.alloc (.cells #[.pointer (some ⟨p.d, 0, none⟩), .pointer (some ⟨g, 0, none⟩)] 30) = w2 at *
  generalize hkw : w1.heap.size = kw at *
  clear hkw
  have b1 : w2.cell? ⟨kw, 1, none⟩ = some (.pointer (some ⟨g, 0, none⟩)) := (unhide HBX).cell 1
  have kwl := (unhide HBX).lt
  have C2 := hide (sqnew_any (f := 11) (w := w2) g (.inl rfl))
  go_wp2_with fail
  refine (unhide C2).mono ?_
  rintro e w3 ⟨rfl, hE3, o3⟩
  have Q3 := QR.new (unhide HS).1 hE3 (Nat.le_refl _) o3
  have HQ := hide (show QR p w3 w2.heap.size g x (Mu0 []) (fun b => b = g) 0 ∧ Only (fun _ => False) w w3 ∧ kw < w2.heap.size ∧ w2.heap.size < w3.heap.size from ⟨Q3, (unhide HS).2.2.2.1.trans o3 (fun _ _ e => e), kwl, hE3.lt⟩)
  have HBX := hide ((unhide HBX).keep o3 (fun e => e))
  clear C2 b1 hE3 Q3 o3
  generalize w2.heap.size = k at *
  have C3 := hide (smnew_any w3)
  go_wp2_with fail
  refine (unhide C3).mono ?_
  rintro e w4 ⟨k2, q2, H, rfl, n4, hk2, hH, o4⟩
  have C4 := hide (smclone_any n4)
  have HBX := hide ((unhide HBX).keep o4 (fun e => e))
  have H4 := hide (And.intro n4 (And.intro hk2 (And.intro hH o4)))
  clear C3 n4 hk2 hH o4
  go_wp2_with fail
  refine (unhide C4).mono ?_
  rintro e w5 ⟨kb, qb, Hb, rfl, n5, hkb, hHb, o5⟩
  have HBX := hide ((unhide HBX).keep o5 (fun e => e))
  have HW : Hid (WQ w.heap.size w5 p k g x (Mu0 []) (fun b => b = g) 0 k2 q2 (Mu0 []) H kb qb (Mu0 []) Hb (fun b => b = kw)) := hide (by
    obtain ⟨n4, hk2, hH, o4⟩ := unhide H4
    have h1 := (unhide HS).2.2.1
    have h2 := (unhide HS).2.2.2.2
    have h3 := (unhide HQ).2.2
    refine WQ.start (unhide HQ).1 (unhide HS).2.1 (fun b hb => ?_) (unhide HQ).2.1.size n4 hk2 hH o4 n5 hkb hHb o5 (fun b hb => ?_)
    · rcases hb with c | c | c | c
      · exact (h1 b (.inl c)).1
      · exact (h1 b (.inr (.inl c))).1
      · exact (h1 b (.inr (.inr c))).1
      · omega
    · subst hb
      refine ⟨fun c => ?_, by omega, by omega⟩
      rcases c with c | c | c | c
      · have := (h1 _ (.inl c)).2; omega
      · have := (h1 _ (.inr (.inl c))).2; omega
      · have := (h1 _ (.inr (.inr c))).2; omega
      · omega)
  have HON := hide (show Only (fun b => w.heap.size ≤ b) w w5 from (((unhide HQ).2.1.trans (unhide H4).2.2.2 (fun _ _ e => e)).trans o5 (fun _ _ e => e)).mono (fun _ _ e => e.elim))
  clear C4 n5 hkb hHb o5 H4 HS HQ kwl
  have oK : Only (fun _ => False) w5 (w5.alloc (.cells #[.int .i64 0, .int .i64 0, .slice none 0 0, .slice none 0 0, .int .i64 0, .int .i64 0, .slice none 0 0, .slice none 0 0] 54)) := (Only.refl _ _).alloc _
  obtain ⟨B, hB⟩ : ∃ B : Nat → Prop, B = (fun _ => False) := ⟨_, rfl⟩
  have HKp := hide (show KpQ (w5.alloc (.cells #[.int .i64 0, .int .i64 0, .slice none 0 0, .slice none 0 0, .int .i64 0, .int .i64 0, .slice none 0 0, .slice none 0 0] 54)) w5.heap.size (Rs.err 0) B from by rw [hB]; exact KpQ.new w5)
  have HKW := hide (show ¬ (kw = w5.heap.size ∨ B kw) from fun c => c.elim (fun c => by have := (unhide HBX).lt; omega) (fun c => by rw [hB] at c; exact c))
  have HW := hide ((unhide HW).add (E' := fun b => b = kw ∨ b = w5.heap.size ∨ B b) oK (fun b hb => by
    rcases hb with c | c | c
    · exact .inl c
    · exact .inr ⟨by omega, by rw [c]; simp⟩
    · rw [hB] at c; exact c.elim))
  have HBX := hide ((unhide HBX).keep oK (fun e => e))
  have HON := hide ((unhide HON).trans (oK.mono (T := fun b => w.heap.size ≤ b) (fun _ _ e => e.elim)) (fun _ _ e => e))
  clear oK hB
  go_upto_region 7 with fail
  generalize w5.alloc (.cells #[.int .i64 0, .int .i64 0, .slice none 0 0, .slice none 0 0, .int .i64 0, .int .i64 0, .slice none 0 0, .slice none 0 0] 54) = w6 at *
  generalize w5.heap.size = kk at *
  generalize (fun b => b = g) = K at *
  have c0 : w6.cell? ⟨kw, 0, none⟩ = some (.pointer (some ⟨p.d, 0, none⟩)) := (unhide HBX).cell 0
  have c1 : w6.cell? ⟨kw, 1, none⟩ = some (.pointer (some ⟨g, 0, none⟩)) := (unhide HBX).cell 1
  have cl := (unhide HBX).lt
  have CT := xlsteps_any g (unhide HW).qr.rx.dk
  unfold jbV jbC at CT
  have CT := hide CT
  go_wp2_with fail
  refine (unhide CT).mono ?_
  rintro e w7 ⟨rfl, oT⟩
  have HBX := hide ((unhide HBX).keep oT (fun e => e))
  have HKp := hide ((unhide HKp).quiet oT)
  have HW := hide ((unhide HW).quiet oT)
  have HON := hide ((unhide HON).trans (oT.mono (T := fun b => w.heap.size ≤ b) (fun _ _ e => e.elim)) (fun _ _ e => e))
  clear c0 c1 cl
  clear CT oT
  have CT := hide (slalike_any (unhide HW).aq (unhide HW).apq (unhide HW).l0.1 (unhide HW).l0.2 (unhide HW).me.dgd.len)
  go_wp2_with fail
  refine (unhide CT).mono ?_
  rintro e w8 ⟨bT, rfl, hT, aT⟩
  obtain rfl := hT.mpr (Obs.refl _)
  have HBX := hide ((unhide HBX).keep aT.on ((unhide HW).nS (.inl rfl)))
  have HKp := hide ((unhide HKp).keep aT.on (fun b hb => (unhide HW).nS ((fun b hb => hb.elim (fun h => .inr (.inr h)) (fun h => .inr (.inl h))) b hb)))
  have HON := hide ((unhide HON).trans aT.on (fun b _ c => (unhide HW).lr b (.inl (Gnd.S_A c))))
  have HW := hide ((unhide HW).alike aT)
  clear CT aT hT
  have CT := hide (sqlast_any (unhide HW).qr)
  have b8 : ((0 : Int) != (0 : Int)) = false := by simp
  go_wp2_with fail
  refine (unhide CT).mono ?_
  rintro e wT ⟨rfl, rfl⟩
  clear CT
  have c0 : w8.cell? ⟨kw, 0, none⟩ = some (.pointer (some ⟨p.d, 0, none⟩)) := (unhide HBX).cell 0
  have c1 : w8.cell? ⟨kw, 1, none⟩ = some (.pointer (some ⟨g, 0, none⟩)) := (unhide HBX).cell 1
  have cl := (unhide HBX).lt
  have CT := xlsteps_any g (unhide HW).qr.rx.dk
  unfold jbV jbC at CT
  have CT := hide CT
  have b9 : ((p.recs.length : Int) != (p.recs.length : Int)) = false := by simp
  have b9n : (p.recs.length != p.recs.length) = false := by simp
  go_wp2_with fail
  refine (unhide CT).mono ?_
  rintro e w9 ⟨rfl, oT⟩
  have HBX := hide ((unhide HBX).keep oT (fun e => e))
  have HKp := hide ((unhide HKp).quiet oT)
  have HW := hide ((unhide HW).quiet oT)
  have HON := hide ((unhide HON).trans (oT.mono (T := fun b => w.heap.size ≤ b) (fun _ _ e => e.elim)) (fun _ _ e => e))
  clear c0 c1 cl
  clear CT oT
  have HZ := hide (show LW w kw kk (.pointer (some ⟨k, 0, none⟩)) (.pointer (some ⟨k2, 0, none⟩)) (.pointer (some ⟨kb, 0, none⟩)) (.int .i64 0) w9 from ⟨_, _, _, _, _, _, _, _, _, _, _, _, _, _, _, _, rfl, rfl, rfl, rfl, unhide HBX, unhide HKp, (unhide HW).sub (fun b hb => hb), (unhide HKW), unhide HON⟩)
  clear HBX HW HON HKp HKW b9 b9n b8
  go_upto_region 16 with fail
  go_loopw [9, 10, 11, 12, 15, 16, 17, 18, 19, 20, 21, 22, 23, 24, 25, 26, 27, 28] (fun xv mv bv pv iv _ _ _ _ _ _ _ _ _ _ _ _ _ wr => ∃ kn : Nat, kn ≤ len ∧ iv = .int .i64 kn ∧ LW w kw kk xv mv bv pv wr) (fun _ _ _ _ iv _ _ _ _ _ _ _ _ _ _ _ _ _ _ => len - (intOf iv).toNat)
  case atStart => exact ⟨0, Nat.zero_le _, rfl, unhide HZ⟩
  case round =>
    clear HZ
    obtain ⟨kn, hk, rfl, p, k, g, x, M, K, pl, k2, q2, H, kb, qb, Mb, Hb, R, B, rfl, rfl, rfl, rfl, BX, KP, WW, KW, ON⟩ := hrel
    have hbel : Below w.heap.size w wr := Only.bel (Below.refl _ _) ON (fun _ h => h)
    by_cases hkl : kn < len
    · obtain ⟨hol, hoa⟩ := hops
      obtain ⟨ab, aoff, rfl, hcells⟩ := hoa (by omega)
      obtain ⟨y0, y1, y2, y3, y4, y5, hsz, hst⟩ := hcells kn (by omega)
      clear hcells hoa
      have hab : ab < w.heap.size := World.block_lt_of_cell? w ⟨ab, aoff + kn * 6, none⟩ y0
      rw [← hbel.cell (p := ⟨ab, aoff + kn * 6, none⟩) hab] at y0
      rw [← hbel.cell (p := ⟨ab, aoff + kn * 6 + 1, none⟩) hab] at y1
      rw [← hbel.cell (p := ⟨ab, aoff + kn * 6 + 2, none⟩) hab] at y2
      rw [← hbel.cell (p := ⟨ab, aoff + kn * 6 + 3, none⟩) hab] at y3
      rw [← hbel.cell (p := ⟨ab, aoff + kn * 6 + 4, none⟩) hab] at y4
      rw [← hbel.cell (p := ⟨ab, aoff + kn * 6 + 5, none⟩) hab] at y5
      generalize ops[kn]'(by omega) = oo at *
      obtain ⟨ok, oa, ob, oc, os, ot⟩ := oo
      simp only at y0 y1 y2 y3 y4 y5 hsz hst
      have hkI : (kn : Int) < (len : Int) := by omega
      have hkD : decide ((kn : Int) < (len : Int)) = true := decide_eq_true hkI
      have hkM : decide ((kn : Int) < 4398046511104) = true := by simp; omega
      have oo : Only (fun _ => False) wr (wr.alloc (.cells #[.int .i64 ok, .int .i64 oa, .int .i64 ob, .int .i64 oc, .string os, .string ot] 38)) := (Only.refl _ wr).alloc _
      have HOB := hide (Has.new wr #[.int .i64 ok, .int .i64 oa, .int .i64 ob, .int .i64 oc, .string os, .string ot] 38)
      have HW := hide (WW.add (E' := fun b => (b = kw ∨ b = kk ∨ B b) ∨ b = wr.heap.size) oo (fun b hb => hb.imp id (fun c => ⟨by omega, by rw [c]; simp⟩)))
      have HOG := hide (show ∀ b, (b = kw ∨ b = kk ∨ B b) → b ≠ wr.heap.size from fun b hb => Nat.ne_of_lt (WW.ex b hb).2.2.2.1)
      have BX := BX.keep oo (fun e => e)
      unfold jbC at BX
      have HBX := hide BX
      have HKp := hide (KP.quiet oo)
      have HKW := hide KW
      have HON := hide (ON.trans (oo.mono (T := fun b => w.heap.size ≤ b) (fun _ _ e => e.elim)) (fun _ _ e => e))
      clear WW ON BX KP KW hol hsz hst hbel oo
      go_upto_region 19 with fail
      generalize wr.alloc (.cells #[.int .i64 ok, .int .i64 oa, .int .i64 ob, .int .i64 oc, .string os, .string ot] 38) = wa at *
      generalize wr.heap.size = og at *
      clear y0 y1 y2 y3 y4 y5
      by_cases hcut : ok = 9
      · subst hcut
        have HZ := hide (show LW w kw kk (.pointer (some ⟨k, 0, none⟩)) (.pointer (some ⟨k2, 0, none⟩)) (.pointer (some ⟨kb, 0, none⟩)) (.int .i64 pl) wa from ⟨_, _, _, _, _, _, _, _, _, _, _, _, _, _, _, _, rfl, rfl, rfl, rfl, unhide HBX, unhide HKp, (unhide HW).sub (fun b hb => .inl hb), (unhide HKW), unhide HON⟩)
        have k0 : wa.cell? ⟨og, 0, none⟩ = some (.int .i64 9) := (unhide HOB).cell 0
        have kl := (unhide HOB).lt
        clear HBX HW HON HKp HKW HOB HOG
        go_wp2_with fail
        go_roundw
        case rel => exact ⟨kn + 1, by omega, by go_num, unhide HZ⟩
        case measure => simp [intOf]; omega
      · have b18 : (ok != 9) = true := by simpa using hcut
        clear hcut
        have k0 : wa.cell? ⟨og, 0, none⟩ = some (.int .i64 ok) := (unhide HOB).cell 0
        have k1 : wa.cell? ⟨og, 1, none⟩ = some (.int .i64 oa) := (unhide HOB).cell 1
        have k2 : wa.cell? ⟨og, 2, none⟩ = some (.int .i64 ob) := (unhide HOB).cell 2
        have k3 : wa.cell? ⟨og, 3, none⟩ = some (.int .i64 oc) := (unhide HOB).cell 3
        have k4 : wa.cell? ⟨og, 4, none⟩ = some (.string os) := (unhide HOB).cell 4
        have k5 : wa.cell? ⟨og, 5, none⟩ = some (.string ot) := (unhide HOB).cell 5
        have kl := (unhide HOB).lt
        have c0 : wa.cell? ⟨kw, 0, none⟩ = some (.pointer (some ⟨p.d, 0, none⟩)) := (unhide HBX).cell 0
        have c1 : wa.cell? ⟨kw, 1, none⟩ = some (.pointer (some ⟨g, 0, none⟩)) := (unhide HBX).cell 1
        have cl := (unhide HBX).lt
        have CM := xlmark_any g (unhide HW).qr.rx.dk
        unfold jbV jbC at CM
        have CM := hide CM
        go_wp2_with fail
        refine (unhide CM).mono ?_
        rintro e w1 ⟨rfl, hd1, o1⟩
        clear c0 c1 cl
        clear k0 k1 k2 k3 k4 k5 kl
        clear CM b18
        have nF : ∀ b, ((b = kw ∨ b = kk ∨ B b) ∨ b = og) → ¬ p.F b := fun b hb c => ((unhide HW).ex b hb).1 (.inl (.inl c))
        have HBX := hide ((unhide HBX).keep o1 (nF kw (.inl (.inl rfl))))
        have HOB := hide ((unhide HOB).keep o1 (nF og (.inr rfl)))
        have HKp := hide ((unhide HKp).keep o1 (fun b hb => nF b (.inl (hb.elim (fun h => .inr (.inr h)) (fun h => .inr (.inl h))))))
        have HON := hide ((unhide HON).trans o1 (fun b _ c => (unhide HW).lr b (.inl (.inl c))))
        have n1 := (unhide HW).me.keep o1 (fun b hb c => ((unhide HW).sm b hb).1 (.inl (.inl c)))
        have C3 := hide (smclone_any n1)
        clear n1 nF
        go_wp2_with fail
        refine (unhide C3).mono ?_
        rintro e w3 ⟨kb', qb', Hb', rfl, n3, hk3, hn3, o3⟩
        have HBX := hide ((unhide HBX).keep o3 (fun e => e))
        have HOB := hide ((unhide HOB).keep o3 (fun e => e))
        have HKp := hide ((unhide HKp).quiet o3)
        have HON := hide ((unhide HON).trans (o3.mono (T := fun b => w.heap.size ≤ b) (fun _ _ e => e.elim)) (fun _ _ e => e))
        have W3 := (unhide HW).marked hd1 o1 n3 hk3 hn3 o3
        have W3b : (p.mark wa w1).base = (p.mark wa w1).blk ∧ (p.mark wa w1).recs = [] ∧ (p.mark wa w1).d = p.d := ⟨rfl, rfl, rfl⟩
        generalize p.mark wa w1 = pm at *
        have HBX := unhide HBX
        rw [← W3b.2.2] at HBX
        have HBX := hide HBX
        have HQM := hide W3b
        have HW := hide W3
        clear C3 n3 hk3 hn3 o1 o3 hd1 W3 W3b
        have CP := hide (slplay_any (unhide HW) (unhide HQM).1 (unhide HQM).2.1 (unhide HKp) (fun b hb => .inl (hb.elim (fun h => .inr (.inr h)) (fun h => .inr (.inl h)))) ok oa ob oc os ot)
        have k0 : w3.cell? ⟨og, 0, none⟩ = some (.int .i64 ok) := (unhide HOB).cell 0
        have k1 : w3.cell? ⟨og, 1, none⟩ = some (.int .i64 oa) := (unhide HOB).cell 1
        have k2 : w3.cell? ⟨og, 2, none⟩ = some (.int .i64 ob) := (unhide HOB).cell 2
        have k3 : w3.cell? ⟨og, 3, none⟩ = some (.int .i64 oc) := (unhide HOB).cell 3
        have k4 : w3.cell? ⟨og, 4, none⟩ = some (.string os) := (unhide HOB).cell 4
        have k5 : w3.cell? ⟨og, 5, none⟩ = some (.string ot) := (unhide HOB).cell 5
        have kl := (unhide HOB).lt
        go_wp2_with fail
        refine (unhide CP).mono ?_
        rintro e w4 ⟨M', R', pl', loud, rd, p', K', H', B', rfl, W4, KP4, hB4, hpd, hrec, o4⟩
        clear k0 k1 k2 k3 k4 k5 kl
        have nX : ∀ b, (b = kw ∨ b = og) → ¬ (RSb pm x k K b ∨ (H b ∨ b = k2) ∨ (B b ∨ b = kk)) := fun b hb c => by
          have hE : (b = kw ∨ b = kk ∨ B b) ∨ b = og := hb.imp .inl id
          have e := (unhide HW).ex b hE
          rcases c with c | c | c
          · exact e.1 c
          · exact e.2.1 c
          · rcases hb with d | d
            · subst d; exact unhide HKW (c.elim .inr .inl)
            · exact unhide HOG b (c.elim (fun h => .inr (.inr h)) (fun h => .inr (.inl h))) d
        have HBX := (unhide HBX).keep o4 (nX kw (.inl rfl))
        rw [← hpd] at HBX
        have HBX := hide HBX
        have HOB := hide ((unhide HOB).keep o4 (nX og (.inr rfl)))
        have HON := hide ((unhide HON).trans ((unhide HW).toLo o4 (fun b c => by
          rcases c with c | c | c
          · exact .inl c
          · exact .inr (.inl c)
          · exact .inr (.inr (.inl (c.elim (fun h => .inr (.inr h)) (fun h => .inr (.inl h)))))))  (fun _ _ e => e))
        have HKW := hide (show ¬ (kw = kk ∨ B' kw) from fun c => c.elim (fun c => unhide HKW (.inl c)) (fun c => (hB4 kw c).elim (fun c => unhide HKW (.inr c)) (fun c => by have := ((unhide HW).ex kw (.inl (.inl rfl))).2.2.2.1; omega)))
        have HOG := hide (show ∀ b, (b = kw ∨ b = kk ∨ B' b) → b ≠ og from fun b hb e => by
          rcases hb with c | c | c
          · exact unhide HOG b (.inl c) e
          · exact unhide HOG b (.inr (.inl c)) e
          · rcases hB4 b c with d | d
            · exact unhide HOG b (.inr (.inr d)) e
            · have := ((unhide HW).ex og (.inr rfl)).2.2.2.1; omega)
        have HKp := hide KP4
        have HW := hide (W4.sub (E' := fun b => (b = kw ∨ b = kk ∨ B' b) ∨ b = og) (fun b hb => by
          rcases hb with (c | c | c) | c
          · exact .inl (.inl (.inl c))
          · exact .inl (.inl (.inr (.inl c)))
          · exact .inr c
          · exact .inl (.inr c)))
        have HRC := hide hrec
        clear CP W4 KP4 hB4 hpd hrec o4 nX HQM
        have c0 : w4.cell? ⟨kw, 0, none⟩ = some (.pointer (some ⟨p'.d, 0, none⟩)) := (unhide HBX).cell 0
        have c1 : w4.cell? ⟨kw, 1, none⟩ = some (.pointer (some ⟨g, 0, none⟩)) := (unhide HBX).cell 1
        have cl := (unhide HBX).lt
        have CT := xlsteps_any g (unhide HW).qr.rx.dk
        unfold jbV jbC at CT
        have CT := hide CT
        go_wp2_with fail
        refine (unhide CT).mono ?_
        rintro e w5 ⟨rfl, oT⟩
        have HBX := hide ((unhide HBX).keep oT (fun e => e))
        have HOB := hide ((unhide HOB).keep oT (fun e => e))
        have HKp := hide ((unhide HKp).quiet oT)
        have HW := hide ((unhide HW).quiet oT)
        have HON := hide ((unhide HON).trans (oT.mono (T := fun b => w.heap.size ≤ b) (fun _ _ e => e.elim)) (fun _ _ e => e))
        clear c0 c1 cl
        clear CT oT
        have CO := hide (sloneStep_any p'.recs.length loud (unhide HRC) w5)
        go_wp2_with fail
        refine (unhide CO).mono ?_
        rintro e w6 ⟨rfl, rfl⟩
        clear CO HRC
        have c0 : w5.cell? ⟨kw, 0, none⟩ = some (.pointer (some ⟨p'.d, 0, none⟩)) := (unhide HBX).cell 0
        have c1 : w5.cell? ⟨kw, 1, none⟩ = some (.pointer (some ⟨g, 0, none⟩)) := (unhide HBX).cell 1
        have cl := (unhide HBX).lt
        have CF := slfetched_any p'.d g w5
        unfold jbV jbC at CF
        have CF := hide CF
        have b7 : decide ((-1 : Int) > (rd : Int)) = false := decide_eq_false (by omega)
        have b7b : decide ((rd : Int) < -1) = false := decide_eq_false (by omega)
        go_wp2_with fail
        refine (unhide CF).mono ?_
        rintro e w6 ⟨rfl, oT⟩
        have HBX := hide ((unhide HBX).keep oT (fun e => e))
        have HOB := hide ((unhide HOB).keep oT (fun e => e))
        have HKp := hide ((unhide HKp).quiet oT)
        have HW := hide ((unhide HW).quiet oT)
        have HON := hide ((unhide HON).trans (oT.mono (T := fun b => w.heap.size ≤ b) (fun _ _ e => e.elim)) (fun _ _ e => e))
        clear c0 c1 cl
        clear CF oT
        have CT := hide (slalike_any (unhide HW).aq (unhide HW).apq (unhide HW).l0.1 (unhide HW).l0.2 (unhide HW).me.dgd.len)
        go_wp2_with fail
        refine (unhide CT).mono ?_
        rintro e w7 ⟨bT, rfl, hT, aT⟩
        obtain rfl := hT.mpr (Obs.refl _)
        have HBX := hide ((unhide HBX).keep aT.on ((unhide HW).nS (.inl (.inl rfl))))
        have HOB := hide ((unhide HOB).keep aT.on ((unhide HW).nS (.inr rfl)))
        have HKp := hide ((unhide HKp).keep aT.on (fun b hb => (unhide HW).nS ((fun b hb => .inl (hb.elim (fun h => .inr (.inr h)) (fun h => .inr (.inl h)))) b hb)))
        have HON := hide ((unhide HON).trans aT.on (fun b _ c => (unhide HW).lr b (.inl (Gnd.S_A c))))
        have HW := hide ((unhide HW).alike aT)
        clear CT aT hT
        have CT := hide (sqlast_any (unhide HW).qr)
        have b8 : ((pl' : Int) != (pl' : Int)) = false := by simp
        go_wp2_with fail
        refine (unhide CT).mono ?_
        rintro e wT ⟨rfl, rfl⟩
        clear CT
        have c0 : w7.cell? ⟨kw, 0, none⟩ = some (.pointer (some ⟨p'.d, 0, none⟩)) := (unhide HBX).cell 0
        have c1 : w7.cell? ⟨kw, 1, none⟩ = some (.pointer (some ⟨g, 0, none⟩)) := (unhide HBX).cell 1
        have cl := (unhide HBX).lt
        have CT := xlsteps_any g (unhide HW).qr.rx.dk
        unfold jbV jbC at CT
        have CT := hide CT
        have b9 : ((p'.recs.length : Int) != (p'.recs.length : Int)) = false := by simp
        have b9n : (p'.recs.length != p'.recs.length) = false := by simp
        go_wp2_with fail
        refine (unhide CT).mono ?_
        rintro e w8 ⟨rfl, oT⟩
        have HBX := hide ((unhide HBX).keep oT (fun e => e))
        have HOB := hide ((unhide HOB).keep oT (fun e => e))
        have HKp := hide ((unhide HKp).quiet oT)
        have HW := hide ((unhide HW).quiet oT)
        have HON := hide ((unhide HON).trans (oT.mono (T := fun b => w.heap.size ≤ b) (fun _ _ e => e.elim)) (fun _ _ e => e))
        clear c0 c1 cl
        clear CT oT
        have HZ := hide (show LW w kw kk (.pointer (some ⟨k, 0, none⟩)) (.pointer (some ⟨k2, 0, none⟩)) (.pointer (some ⟨kb', 0, none⟩)) (.int .i64 pl') w8 from ⟨_, _, _, _, _, _, _, _, _, _, _, _, _, _, _, _, rfl, rfl, rfl, rfl, unhide HBX, unhide HKp, (unhide HW).sub (fun b hb => .inl hb), (unhide HKW), unhide HON⟩)
        clear HBX HW HON HKp HKW HOB HOG b9 b9n b8 b7 b7b
        go_wp2_with fail
        go_roundw
        case rel => exact ⟨kn + 1, by omega, by go_num, unhide HZ⟩
        case measure => simp [intOf]; omega
    · have hkI : decide ((kn : Int) < (len : Int)) = false := by simp; omega
      clear BX WW ON KP KW
      by_cases hM : len < 4398046511104
      · have hM1 : decide ((len : Int) < 4398046511104) = true := by simp; omega
        go_wp2_with fail
        go_ret2
        exact ⟨⟨_, rfl⟩, hbel⟩
      · have hM1 : decide ((len : Int) < 4398046511104) = false := by simp; omega
        go_wp2_with fail
        go_ret2
        exact ⟨⟨_, rfl⟩, hbel⟩
end Go.Proofs.Qxb6500412aGreat
