/-
  OWN WORK. TXN, Keeps: Wrote of an Update (written by tools/gen_xk15.py).
-/
import Derived.Test.Qxb6500414aGreatXK14
namespace Go.Proofs.Qxb6500414aGreat
open Go.RowKit Go.PlainAid
set_option linter.unusedSimpArgs false
set_option linter.unusedVariables false
section
variable {lo : Nat} {w w' : World} {k k2 : Nat} {M N : Mu} {s t : Nat} {T : Tb}
set_option maxRecDepth 100000 in
set_option maxHeartbeats 4000000 in
theorem xlwrote_upd (H : Sht lo w k M) (H2 : Sht lo w k2 N) (hB : MuB M) (hB2 : MuB N) (hnm : namesD M.com = namesD N.com) (hs : s < 4) (hT : M.com[t]? = some T) (hpk : ∀ r, r ∈ M.rows s T.nm ∨ r ∈ N.rows s T.nm → T.pk < r.length) (ob oc : Int) (os ot : ByteArray) (ht : ot.size ≤ maxLen) (hp : T.pk < (rowP ot).length ∧ (N.rows s T.nm).length = (M.rows s T.nm).length ∧ ∀ y, (rowP ot)[T.pk]? = some y → (∃ r ∈ M.rows s T.nm, r[T.pk]? = some y) ∧ ∀ (i : Nat) (r : List Vl), (M.rows s T.nm)[i]? = some r → r[T.pk]? = some y → N.rows s T.nm = (M.rows s T.nm).set i (rowP ot)) : Calls Tryz.prog 172 #[.pointer (some ⟨k, 0, none⟩), .pointer (some ⟨k2, 0, none⟩), opX 8 (s : Int) ob oc os ot, .int .i64 (t : Int)] w fun e w' => e = .returned (.bool true) ∧ Only (fun _ => False) w w' := by
  have o0 : Only (fun _ => False) w (w.alloc (.cells #[.int .i64 8, .int .i64 (s : Int), .int .i64 ob, .int .i64 oc, .string os, .string ot] 44)) := (Only.refl _ w).alloc _
  have HN := hide (Has.new w #[.int .i64 8, .int .i64 (s : Int), .int .i64 ob, .int .i64 oc, .string os, .string ot] 44)
  have HH := hide (And.intro (H.quiet o0) (And.intro (H2.quiet o0) (And.intro o0 (And.intro ht hp))))
  have HB := hide (And.intro hB (And.intro hB2 hpk))
  obtain ⟨n, hn⟩ : ∃ n, M.com.length = n := ⟨_, rfl⟩
  have hl := hB.len
  have htl := (List.getElem?_eq_some_iff.mp hT).1
  obtain ⟨U, hU, hUn⟩ := tab_at hnm hT
  have hNl := len_at hnm
  rw [hn] at hl htl hNl
  have t3 : (t : Int) < (n : Int) := by omega
  have s4 : (s : Int) < 4 := by omega
  have HT := hide (And.intro hT (And.intro hU (And.intro hUn (And.intro hn hNl))))
  unfold opX
  clear H H2 hB hB2 hnm hT hpk ht hp o0 hn hU hUn hNl
  go_enter Tryz.func172, Tryz.ntmps172
  go_upto_region 1 with fail
  generalize w.alloc (.cells #[.int .i64 8, .int .i64 (s : Int), .int .i64 ob, .int .i64 oc, .string os, .string ot] 44) = w0 at *
  generalize hko : w.heap.size = ko at *
  clear hko
  obtain ⟨gp, cp, za, zc, p1, p2, pR⟩ := (unhide HH).1.rowsAt hs (unhide HT).1
  rw [(unhide HT).2.2.2.1] at p1
  have a1 : w0.cell? ⟨ko, 1, none⟩ = some (.int .i64 (s : Int)) := (unhide HN).cell 1
  have kl := (unhide HH).1.lt
  have kl2 := (unhide HH).2.1.lt
  obtain ⟨zn, hzn⟩ : ∃ z, (M.rows s T.nm).length = z := ⟨_, rfl⟩
  rw [hzn] at p2 pR
  go_cut [9] from 20 to 29 (fun zv wx => zv = .slice za zn zc ∧ Only (fun _ => False) w0 wx)
  case first =>
    go_quiet (fail)
    go_wp2_with fail
    go_meet
    exact ⟨rfl, onlyQ _ _⟩
  case rest =>
  obtain ⟨rfl, oC⟩ := hcut
  generalize wc = w1 at *
  obtain ⟨gq, cq, ya, yc, q1, q2, qR⟩ := ((unhide HH).2.1.quiet oC).rowsAt hs (unhide HT).2.1
  rw [(unhide HT).2.2.2.2] at q1
  rw [(unhide HT).2.2.1] at q2 qR
  have pR := pR.quiet oC
  have N1 := (unhide HN).keep oC (fun e => e)
  have HO := hide ((unhide HH).2.2.1.trans oC (fun _ _ e => e))
  have b1 : w1.cell? ⟨ko, 1, none⟩ = some (.int .i64 (s : Int)) := N1.cell 1
  have kl := ((unhide HH).1.quiet oC).lt
  have kl2 := ((unhide HH).2.1.quiet oC).lt
  obtain ⟨yn, hyn⟩ : ∃ z, (N.rows s T.nm).length = z := ⟨_, rfl⟩
  rw [hyn] at q2 qR
  have HO1 := hide oC
  clear p1 p2 a1 oC
  go_upto_region 2 with fail
  go_cut [10] from 30 to 39 (fun zv wx => zv = .slice ya yn yc ∧ Only (fun _ => False) w1 wx)
  case first =>
    go_quiet (fail)
    go_wp2_with fail
    go_meet
    exact ⟨rfl, onlyQ _ _⟩
  case rest =>
  obtain ⟨rfl, oC⟩ := hcut
  generalize wc = w2 at *
  have pR := pR.quiet oC
  have qR := qR.quiet oC
  have N2 := N1.keep oC (fun e => e)
  have oA := (unhide HO1).trans oC (fun _ _ e => e)
  have H2' := (unhide HH).1.quiet oA
  obtain ⟨gk, ck, r1, r2⟩ := H2'.pkAt (unhide HT).1
  rw [(unhide HT).2.2.2.1] at r1
  have kl := H2'.lt
  have HO := hide ((unhide HO).trans oC (fun _ _ e => e))
  have a0 : w2.cell? ⟨ko, 0, none⟩ = some (.int .i64 8) := N2.cell 0
  have a5 : w2.cell? ⟨ko, 5, none⟩ = some (.string ot) := N2.cell 5
  have HPR := hide (And.intro pR (And.intro qR (And.intro hzn hyn)))
  clear pR qR hzn hyn q1 q2 b1 oC oA N1 N2 H2' HO1 kl2
  generalize T.pk = pk at *
  have z8 : zn ≤ 8 := by rw [← (unhide HPR).2.2.1]; exact ((unhide HB).1.rl s hs T.nm).1
  have y8 : yn ≤ 8 := by rw [← (unhide HPR).2.2.2]; exact ((unhide HB).2.1.rl s hs T.nm).1
  obtain rfl : yn = zn := by rw [← (unhide HPR).2.2.2, ← (unhide HPR).2.2.1]; exact (unhide HH).2.2.2.2.2.1
  have nn : ((yn : Int) != (yn : Int)) = false := by simp
  have C1 := hide (eRowOf_any ot (unhide HH).2.2.2.1 w2)
  have HP := hide (unhide HH).2.2.2.2
  clear HH
  go_wp2_with fail
  refine (unhide C1).mono ?_
  rintro e1 w3 ⟨v, rfl, hG⟩
  have O3 : OwnV w3 v (rowP ot) := hG.own
  have o3 := hG.ho
  obtain ⟨va, vc, hv⟩ := O3.shape
  obtain ⟨ln, hln⟩ : ∃ n, (rowP ot).length = n := ⟨_, rfl⟩
  have hpl := (unhide HP).1
  rw [hln] at hv hpl
  subst hv
  obtain ⟨y, hy⟩ := getE (l := rowP ot) (i := pk) (by rw [hln]; exact hpl)
  obtain ⟨g1, rfl, e0, e1, e2⟩ := O3.at_ hy
  have pI : (pk : Int) < (ln : Int) := by omega
  have d1 : decide ((pk : Int) ≥ (ln : Int)) = false := decide_eq_false (by omega)
  have d2 : decide ((ln : Int) ≤ (pk : Int)) = false := decide_eq_false (by omega)
  have CU := xlunder_any ((unhide HPR).1.quiet o3) pk y (by have := ((unhide HB).1.rl s hs T.nm).1; omega) (fun r hr => ⟨(unhide HB).2.2 r (.inl hr), by have := ((unhide HB).1.rl s hs T.nm).2 r hr; omega⟩)
  unfold vlA at CU
  have CU := hide CU
  have HP2 := hide ((unhide HP).2.2 y hy)
  have HO3 := hide (And.intro O3 (And.intro o3 hln))
  clear C1 hG O3 o3 hln hy a0 a5 r1 r2
  go_wp2_with fail
  refine (unhide CU).mono ?_
  rintro e1 w5 ⟨z, rfl, hz, o5⟩
  clear CU e0 e1 e2
  rcases hz with ⟨rfl, hno⟩ | ⟨kx, r, rfl, hri, hrk⟩
  · exfalso
    obtain ⟨r, h1, h2⟩ := (unhide HP2).1
    exact hno r h1 h2
  have di : decide ((kx : Int) < 0) = false := by simp
  have HSet := hide ((unhide HP2).2 kx r hri hrk)
  have HKL := hide (List.getElem?_eq_some_iff.mp hri).1
  have oE := (unhide HO3).2.1.trans o5 (fun _ _ e => e)
  have HE := hide (And.intro o5 oE)
  clear hri hrk o5 oE
  go_upto_region 21 with fail
  go_loopw [16, 17] (fun iv _ wr => ∃ i : Nat, iv = .int .i64 i ∧ i ≤ yn ∧ Only (fun _ => False) w5 wr) (fun iv _ _ => yn + 1 - (intOf iv).toNat)
  case atStart => exact ⟨0, rfl, by omega, Only.refl _ _⟩
  case round =>
    obtain ⟨i, rfl, hi, oW⟩ := hrel
    by_cases hin : i < yn
    · have b1 : decide ((i : Int) < (yn : Int)) = true := decide_eq_true (by omega)
      have iI : (i : Int) < (yn : Int) := by omega
      have oE5 := (unhide HE).1
      have oF := (unhide HE).2.trans oW (fun _ _ e => e)
      obtain ⟨x, hx⟩ := getE (l := M.rows s T.nm) (i := i) (by rw [(unhide HPR).2.2.1]; exact hin)
      obtain ⟨_, _, f1, f2⟩ := (unhide HPR).1.quiet oF
      simp only [Value.slice.injEq] at f1
      obtain ⟨ga, ua, hga, ca, OA⟩ := f2 i x hx
      obtain rfl := f1.1.trans hga
      clear f1 f2 hga
      by_cases hik : i = kx
      · have HIK := hide hik
        have b2 : ((i : Int) == (kx : Int)) = true := by simp [hik]
        clear hik
        have hB' : (N.rows s T.nm)[i]? = some (rowP ot) := by
          rw [unhide HSet, List.getElem?_set]
          rw [if_pos (unhide HIK).symm, if_pos (by have := unhide HKL; omega)]
        obtain ⟨_, _, g1', g2'⟩ := (unhide HPR).2.1.quiet oF
        simp only [Value.slice.injEq] at g1'
        obtain ⟨gb, ub, hgb, cb, OB⟩ := g2' i _ hB'
        obtain rfl := g1'.1.trans hgb
        clear g1' g2' hgb
        have CR := jsameRow_any OB ((unhide HO3).1.keep (oE5.trans oW (fun _ _ e => e)) (fun _ _ e => e)) (by have := ((unhide HB).2.1.rl s hs T.nm).2 _ (List.mem_of_getElem? hB'); omega)
        rw [decide_eq_true rfl] at CR
        obtain ⟨xa, xc, rfl⟩ := OB.shape
        obtain ⟨xb, xd, rfl⟩ := OA.shape
        rw [(unhide HO3).2.2] at cb CR
        generalize x.length = xn at *
        have CR := hide CR
        clear OA OB hx hB' oF
        go_wp2_with fail
        refine (unhide CR).mono ?_
        rintro e1 w8 ⟨rfl, o8⟩
        have HW := hide (oW.trans o8 (fun _ _ e => e))
        clear CR o8 ca cb oW
        go_wp2_with fail
        go_roundw
        case rel => exact ⟨i + 1, by go_num, by omega, unhide HW⟩
        case measure => simp [intOf]; omega
      · have HIK := hide hik
        have b2 : ((i : Int) == (kx : Int)) = false := by simp; omega
        clear hik
        have hB' : (N.rows s T.nm)[i]? = some (x) := by
          rw [unhide HSet, List.getElem?_set]
          rw [if_neg (fun c => unhide HIK c.symm)]; exact hx
        obtain ⟨_, _, g1', g2'⟩ := (unhide HPR).2.1.quiet oF
        simp only [Value.slice.injEq] at g1'
        obtain ⟨gb, ub, hgb, cb, OB⟩ := g2' i _ hB'
        obtain rfl := g1'.1.trans hgb
        clear g1' g2' hgb
        have CR := jsameRow_any OB (OA) (by have := ((unhide HB).2.1.rl s hs T.nm).2 _ (List.mem_of_getElem? hB'); omega)
        rw [decide_eq_true rfl] at CR
        obtain ⟨xa, xc, rfl⟩ := OB.shape
        obtain ⟨xb, xd, rfl⟩ := OA.shape
        skip
        generalize x.length = xn at *
        have CR := hide CR
        clear OA OB hx hB' oF
        go_wp2_with fail
        refine (unhide CR).mono ?_
        rintro e1 w8 ⟨rfl, o8⟩
        have HW := hide (oW.trans o8 (fun _ _ e => e))
        clear CR o8 ca cb oW
        go_wp2_with fail
        go_roundw
        case rel => exact ⟨i + 1, by go_num, by omega, unhide HW⟩
        case measure => simp [intOf]; omega
    · have b1 : decide ((i : Int) < (yn : Int)) = false := decide_eq_false (by omega)
      have HF := hide ((unhide HO).trans ((unhide HE).2.trans oW (fun _ _ e => e)) (fun _ _ e => e))
      clear oW
      go_wp2_with fail
      go_ret
      exact ⟨rfl, unhide HF⟩
end
end Go.Proofs.Qxb6500414aGreat
