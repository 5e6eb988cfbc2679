/-
  OWN WORK. TXN, Keeps: Wrote of a Delete (written by tools/gen_xk13.py).
-/
import Derived.Test.Qxb6500414aGreatXK12
namespace Go.Proofs.Qxb6500414aGreat
open Go.RowKit Go.PlainAid
set_option linter.unusedSimpArgs false
set_option linter.unusedVariables false
section
variable {lo : Nat} {w w' : World} {k k2 : Nat} {M N : Mu} {s t : Nat} {T : Tb}
set_option maxRecDepth 100000 in
set_option maxHeartbeats 4000000 in
theorem xlwrote_del (H : Sht lo w k M) (H2 : Sht lo w k2 N) (hB : MuB M) (hB2 : MuB N) (hnm : namesD M.com = namesD N.com) (hs : s < 4) (hT : M.com[t]? = some T) (hpk : ∀ r, r ∈ M.rows s T.nm ∨ r ∈ N.rows s T.nm → T.pk < r.length) (ob oc : Int) (os ot : ByteArray) (ht : ot.size ≤ maxLen) (hp : (∃ r ∈ M.rows s T.nm, r[T.pk]? = some (fstP ot)) ∧ ∀ (i : Nat) (r : List Vl), (M.rows s T.nm)[i]? = some r → r[T.pk]? = some (fstP ot) → N.rows s T.nm = (M.rows s T.nm).eraseIdx i) : Calls Tryz.prog 172 #[.pointer (some ⟨k, 0, none⟩), .pointer (some ⟨k2, 0, none⟩), opX 9 (s : Int) ob oc os ot, .int .i64 (t : Int)] w fun e w' => e = .returned (.bool true) ∧ Only (fun _ => False) w w' := by
  have o0 : Only (fun _ => False) w (w.alloc (.cells #[.int .i64 9, .int .i64 (s : Int), .int .i64 ob, .int .i64 oc, .string os, .string ot] 44)) := (Only.refl _ w).alloc _
  have HN := hide (Has.new w #[.int .i64 9, .int .i64 (s : Int), .int .i64 ob, .int .i64 oc, .string os, .string ot] 44)
  have HH := hide (And.intro (H.quiet o0) (And.intro (H2.quiet o0) (And.intro o0 (And.intro ht hp))))
  have HB := hide (And.intro hB (And.intro hB2 hpk))
  obtain ⟨n, hn⟩ : ∃ n, M.com.length = n := ⟨_, rfl⟩
  have hl := hB.len
  have htl := (List.getElem?_eq_some_iff.mp hT).1
  obtain ⟨U, hU, hUn⟩ := tab_at hnm hT
  have hNl := len_at hnm
  rw [hn] at hl htl hNl
  have t3 : (t : Int) < (n : Int) := by omega
  have s4 : (s : Int) < 4 := by omega
  have HT := hide (And.intro hT (And.intro hU (And.intro hUn (And.intro hn hNl))))
  unfold opX
  clear H H2 hB hB2 hnm hT hpk ht hp o0 hn hU hUn hNl
  go_enter Tryz.func172, Tryz.ntmps172
  go_upto_region 1 with fail
  generalize w.alloc (.cells #[.int .i64 9, .int .i64 (s : Int), .int .i64 ob, .int .i64 oc, .string os, .string ot] 44) = w0 at *
  generalize hko : w.heap.size = ko at *
  clear hko
  obtain ⟨gp, cp, za, zc, p1, p2, pR⟩ := (unhide HH).1.rowsAt hs (unhide HT).1
  rw [(unhide HT).2.2.2.1] at p1
  have a1 : w0.cell? ⟨ko, 1, none⟩ = some (.int .i64 (s : Int)) := (unhide HN).cell 1
  have kl := (unhide HH).1.lt
  have kl2 := (unhide HH).2.1.lt
  obtain ⟨zn, hzn⟩ : ∃ z, (M.rows s T.nm).length = z := ⟨_, rfl⟩
  rw [hzn] at p2 pR
  go_cut [9] from 20 to 29 (fun zv wx => zv = .slice za zn zc ∧ Only (fun _ => False) w0 wx)
  case first =>
    go_quiet (fail)
    go_wp2_with fail
    go_meet
    exact ⟨rfl, onlyQ _ _⟩
  case rest =>
  obtain ⟨rfl, oC⟩ := hcut
  generalize wc = w1 at *
  obtain ⟨gq, cq, ya, yc, q1, q2, qR⟩ := ((unhide HH).2.1.quiet oC).rowsAt hs (unhide HT).2.1
  rw [(unhide HT).2.2.2.2] at q1
  rw [(unhide HT).2.2.1] at q2 qR
  have pR := pR.quiet oC
  have N1 := (unhide HN).keep oC (fun e => e)
  have HO := hide ((unhide HH).2.2.1.trans oC (fun _ _ e => e))
  have b1 : w1.cell? ⟨ko, 1, none⟩ = some (.int .i64 (s : Int)) := N1.cell 1
  have kl := ((unhide HH).1.quiet oC).lt
  have kl2 := ((unhide HH).2.1.quiet oC).lt
  obtain ⟨yn, hyn⟩ : ∃ z, (N.rows s T.nm).length = z := ⟨_, rfl⟩
  rw [hyn] at q2 qR
  have HO1 := hide oC
  clear p1 p2 a1 oC
  go_upto_region 2 with fail
  go_cut [10] from 30 to 39 (fun zv wx => zv = .slice ya yn yc ∧ Only (fun _ => False) w1 wx)
  case first =>
    go_quiet (fail)
    go_wp2_with fail
    go_meet
    exact ⟨rfl, onlyQ _ _⟩
  case rest =>
  obtain ⟨rfl, oC⟩ := hcut
  generalize wc = w2 at *
  have pR := pR.quiet oC
  have qR := qR.quiet oC
  have N2 := N1.keep oC (fun e => e)
  have oA := (unhide HO1).trans oC (fun _ _ e => e)
  have H2' := (unhide HH).1.quiet oA
  obtain ⟨gk, ck, r1, r2⟩ := H2'.pkAt (unhide HT).1
  rw [(unhide HT).2.2.2.1] at r1
  have kl := H2'.lt
  have HO := hide ((unhide HO).trans oC (fun _ _ e => e))
  have a0 : w2.cell? ⟨ko, 0, none⟩ = some (.int .i64 9) := N2.cell 0
  have a5 : w2.cell? ⟨ko, 5, none⟩ = some (.string ot) := N2.cell 5
  have HPR := hide (And.intro pR (And.intro qR (And.intro hzn hyn)))
  clear pR qR hzn hyn q1 q2 b1 oC oA N1 N2 H2' HO1 kl2
  generalize T.pk = pk at *
  have z8 : zn ≤ 8 := by rw [← (unhide HPR).2.2.1]; exact ((unhide HB).1.rl s hs T.nm).1
  have y8 : yn ≤ 8 := by rw [← (unhide HPR).2.2.2]; exact ((unhide HB).2.1.rl s hs T.nm).1
  have C1 := eFirst_any ot (unhide HH).2.2.2.1 w2
  have HP := hide (unhide HH).2.2.2.2
  generalize fstP ot = key at *
  unfold vlA at C1
  have C1 := hide C1
  clear HH
  go_wp2_with fail
  refine (unhide C1).mono ?_
  rintro e1 w3 ⟨rfl, o3⟩
  have o4 : Only (fun _ => False) w3 (w3.alloc (.cells #[.bool key.str, .int .i64 key.i, .string key.s] 106)) := (Only.refl _ w3).alloc _
  have o34 := o3.trans o4 (fun _ _ e => e)
  have HNK := hide (Has.new w3 #[.bool key.str, .int .i64 key.i, .string key.s] 106)
  have CU := xlunder_any ((unhide HPR).1.quiet o34) pk key (by have := ((unhide HB).1.rl s hs T.nm).1; omega) (fun r hr => ⟨(unhide HB).2.2 r (.inl hr), by have := ((unhide HB).1.rl s hs T.nm).2 r hr; omega⟩)
  unfold vlA at CU
  have CU := hide CU
  have HO34 := hide o34
  clear C1 o3 o4 o34 a0 a5 r1 r2
  go_upto_region 31 with fail
  generalize w3.alloc (.cells #[.bool key.str, .int .i64 key.i, .string key.s] 106) = w4 at *
  generalize w3.heap.size = kk at *
  have k0 : w4.cell? ⟨kk, 0, none⟩ = some (.bool key.str) := (unhide HNK).cell 0
  have k1 : w4.cell? ⟨kk, 1, none⟩ = some (.int .i64 key.i) := (unhide HNK).cell 1
  have k2 : w4.cell? ⟨kk, 2, none⟩ = some (.string key.s) := (unhide HNK).cell 2
  go_wp2_with fail
  refine (unhide CU).mono ?_
  rintro e1 w5 ⟨z, rfl, hz, o5⟩
  clear CU k0 k1 k2
  rcases hz with ⟨rfl, hno⟩ | ⟨i, r, rfl, hri, hrk⟩
  · exfalso
    obtain ⟨r, h1, h2⟩ := (unhide HP).1
    exact hno r h1 h2
  have di : decide ((i : Int) < 0) = false := by simp
  have oE := (unhide HO34).trans o5 (fun _ _ e => e)
  have CL := hide (xlless_any ((unhide HPR).1.quiet oE) ((unhide HPR).2.1.quiet oE) i (List.getElem?_eq_some_iff.mp hri).1 (by have := ((unhide HB).1.rl s hs T.nm).1; omega) (fun r hr => by have := ((unhide HB).2.1.rl s hs T.nm).2 r hr; omega) ((unhide HP).2 i r hri hrk))
  have HO := hide ((unhide HO).trans oE (fun _ _ e => e))
  clear o5 oE hri hrk
  go_wp2_with fail
  refine (unhide CL).mono ?_
  rintro e1 w6 ⟨rfl, o6⟩
  have HO := hide ((unhide HO).trans o6 (fun _ _ e => e))
  clear CL o6
  go_wp2_with fail
  go_ret
  exact ⟨rfl, unhide HO⟩
end
end Go.Proofs.Qxb6500414aGreat
