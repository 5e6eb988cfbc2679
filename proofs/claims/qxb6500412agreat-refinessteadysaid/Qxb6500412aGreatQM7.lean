/-
  OWN WORK. QUERY's MODEL: the reader: where (written by tools/gen_qm7.py).
-/
import Derived.Test.Qxb6500412aGreatQM6
namespace Go.Proofs.Qxb6500412aGreat
open Go.RowKit Go.PlainAid
set_option linter.unusedSimpArgs false
set_option linter.unusedVariables false

section
variable {lo : Nat} {w w' : World} {kr ks : Nat} {tv : Value} {tl : List Tk} {P P' : Ps} {m : Ms} {i : Nat} {bad : Bool}
def gB (b : Bool) (P : Ps) : Nat := if (b && P.2) = true then 1 else 0
theorem gB_le (b : Bool) (P : Ps) : gB b P ≤ 1 := by unfold gB; split <;> omega
/-- The loop's state. -/
def WhI (w : World) (lo kr ks : Nat) (tv : Value) (tl : List Tk) (m0 : Ms) (R : Ps × List Cm) (gk : Nat) (mv : Value) (wr : World) : Prop := ∃ (b : Bool) (P1 : Ps) (q : List Cm), mv = .bool b ∧ MQR lo wr kr ks tv tl P1 { m0 with wh := q } ∧ (P1.2 = true → q.length + P1.1.length + gB b P1 ≤ 1000) ∧ (P1.2 = true → R = (if b = true then listP cmpP wAND P1 q else (P1, q))) ∧ (P1.2 = false → R.1 = failP) ∧ Only (fun b => lo ≤ b) w wr ∧ 2 * P1.1.length + gB b P1 ≤ gk
theorem WhI.done {m0 : Ms} {R : Ps × List Cm} {gk : Nat} {b : Bool} {P1 : Ps} {q : List Cm} {wr : World} (h : MQR lo wr kr ks tv tl P1 { m0 with wh := q }) (h1 : P1.2 = true → R = (if b = true then listP cmpP wAND P1 q else (P1, q))) (h2 : P1.2 = false → R.1 = failP) (ho : Only (fun b => lo ≤ b) w wr) (hb : b = false ∨ P1.2 = false) : MqP lo kr ks tv tl R.1 { m0 with wh := R.2 } w wr := by
  refine ⟨?_, ho⟩
  cases hp : P1.2 with
  | true =>
    rcases hb with c | c
    · have e := h1 hp
      rw [c] at e
      rw [e]
      exact h
    · rw [hp] at c; cases c
  | false =>
    have e := bad_fail h.rd hp
    rw [h2 hp, ← e]
    exact h.any hp
theorem WhI.next {m0 : Ms} {R : Ps × List Cm} {gk : Nat} {P1 : Ps} {q : List Cm} {wA wB : World} {b5 : Bool} (hg : P1.2 = true) (hR : R = listP cmpP wAND P1 q) (hlen : q.length + P1.1.length + 1 ≤ 1000) (hgk : 2 * P1.1.length + 1 ≤ gk) (hQ : MQR lo wA kr ks tv tl (cmpP P1).1 { m0 with wh := q ++ [(cmpP P1).2] }) (ho : Only (fun b => lo ≤ b) w wA) (p1 : (cmpP P1).1.2 = true → b5 = eatB wAND (cmpP P1).1) (p2 : b5 = true → MRp kr tv tl (nextP (cmpP P1).1) wA wB) (p3 : b5 = false → MRp kr tv tl (cmpP P1).1 wA wB) : ∃ gk', gk' < gk ∧ WhI w lo kr ks tv tl m0 R gk' (.bool b5) wB := by
  have hl4 := cmpP_len P1
  have hs := listP_step (sep := wAND) cmpP_len P1 q
  rw [← hR] at hs
  have hon : ∀ Py, MRp kr tv tl Py wA wB → Only (fun b => lo ≤ b) w wB := fun Py hp => ho.trans hp.2 (fun b _ e => by have e' : b = kr := e; rw [e']; exact hQ.lr)
  cases hp : (cmpP P1).1.2 with
  | true =>
    have e5 := p1 hp
    cases b5 with
    | true =>
      rw [← e5, if_pos rfl] at hs
      have hn := eat_len e5.symm
      refine ⟨2 * (nextP (cmpP P1).1).1.length + 1, by omega, true, nextP (cmpP P1).1, _, rfl, hQ.par (p2 rfl) next_good, fun _ => ?_, fun _ => hs, fun c => ?_, hon _ (p2 rfl), ?_⟩
      · have := gB_le true (nextP (cmpP P1).1)
        simp
        omega
      · have c' : (cmpP P1).1.2 = false := c
        rw [hp] at c'; cases c'
      · have := gB_le true (nextP (cmpP P1).1)
        omega
    | false =>
      rw [← e5, if_neg (by decide)] at hs
      refine ⟨2 * (cmpP P1).1.1.length, by omega, false, (cmpP P1).1, _, rfl, hQ.par (p3 rfl) (fun c => c), fun _ => ?_, fun _ => hs, fun c => ?_, hon _ (p3 rfl), ?_⟩
      · show (q ++ [(cmpP P1).2]).length + (cmpP P1).1.1.length + 0 ≤ 1000
        simp
        omega
      · rw [hp] at c; cases c
      · exact Nat.le_refl _
  | false =>
    have e := bad_fail hQ.rd hp
    have hR1 : R.1 = failP := by
      rw [hs, e, if_neg (show ¬ eatB wAND failP = true from fun c => by cases c)]
    have key : ∀ b (Py : Ps), Py = failP → MRp kr tv tl Py wA wB → WhI w lo kr ks tv tl m0 R 0 (.bool b) wB := fun b Py hy hp2 => by
      refine ⟨b, Py, q ++ [(cmpP P1).2], rfl, hQ.par hp2 (fun c => by rw [hy] at c; cases c), fun c => ?_, fun c => ?_, fun _ => hR1, hon _ hp2, ?_⟩
      · rw [hy] at c; cases c
      · rw [hy] at c; cases c
      · rw [hy]; unfold gB; simp [failP]
    cases b5 with
    | true => exact ⟨0, by omega, key true _ (by rw [e]; rfl) (p2 rfl)⟩
    | false => exact ⟨0, by omega, key false _ e (p3 rfl)⟩
set_option maxRecDepth 100000 in
set_option maxHeartbeats 16000000 in
theorem smwhere_any (h : MQR lo w kr ks tv tl P m) (hl : m.wh.length + P.1.length + 1 ≤ 1000) : Calls Tryz.prog 268 #[.pointer (some ⟨kr, 0, none⟩), .pointer (some ⟨ks, 0, none⟩)] w fun e w' => e = .returned (.tuple #[]) ∧ MqP lo kr ks tv tl (whQ P m.wh).1 { m with wh := (whQ P m.wh).2 } w w' := by
  obtain ⟨i0, hi0, hz0, hy0, hb0⟩ := info_parts Tryz.infoSMCm
  have C1 := smeat_any h.rd wWHERE (.inl (by decide +kernel))
  unfold wWHERE at C1
  have C1 := hide C1
  obtain ⟨R, hR⟩ : ∃ R, R = whQ P m.wh := ⟨_, rfl⟩
  rw [← hR]
  have HH := hide (And.intro h (And.intro hl hR))
  clear h hl hR
  go_enter Tryz.func268, Tryz.ntmps268
  go_wp2_with fail
  refine (unhide C1).mono ?_
  rintro e w1 ⟨b1, rfl, hb1, hb2, hb3⟩
  have HB := hide (And.intro hb1 (And.intro hb2 hb3))
  clear hb1 hb2 hb3 C1
  cases b1 with
  | false =>
    have FF := hide (show MqP lo kr ks tv tl R.1 { m with wh := R.2 } w w1 from by
      obtain ⟨h, hl, hR⟩ := unhide HH
      obtain ⟨p1, p2, p3⟩ := unhide HB
      have hp := p3 rfl
      refine ⟨?_, hp.2.mono (fun b _ e => by have e' : b = kr := e; rw [e']; exact h.lr)⟩
      cases c : P.2 with
      | true =>
        have e3 : eatB wWHERE P = false := (p1 c).symm
        have e : R = (P, m.wh) := by rw [hR]; unfold whQ; rw [e3]; rfl
        rw [e]
        exact h.par hp (fun c => c)
      | false =>
        have e := bad_fail h.rd c
        have e2 : R.1 = P := by rw [hR, e]; rfl
        rw [e2]
        exact (h.par hp (fun c => c)).any c)
    clear HB HH
    go_wp2_with fail
    refine bodyPost_ret (results_none rfl _ _ _) rfl ?_
    exact ⟨rfl, unhide FF⟩
  | true =>
  go_upto_region 2 with fail
  go_loopg [4, 5] (2 * P.1.length + 2) (fun gk mv _ wr => WhI w lo kr ks tv tl m R gk mv wr)
  case atStart =>
    obtain ⟨h, hl, hR⟩ := unhide HH
    obtain ⟨p1, p2, p3⟩ := unhide HB
    have hp := p2 (by trivial)
    have hn := nextP_len P
    refine ⟨true, nextP P, m.wh, rfl, h.par hp next_good, ?_, fun c => ?_, fun c => ?_, hp.2.mono (fun b _ e => by have e' : b = kr := e; rw [e']; exact h.lr), by have := gB_le true (nextP P); omega⟩
    · intro _
      have := gB_le true (nextP P)
      omega
    · have e3 : eatB wWHERE P = true := (p1 c).symm
      rw [hR]; unfold whQ; rw [e3]; rfl
    · have e := bad_fail h.rd c
      rw [hR, e]; rfl
  case round =>
    clear HB HH
    obtain ⟨b, P1, q, rfl, hQ, hlen, hR1, hR2, oW, hgk⟩ := hrel
    cases b with
    | false =>
      have FF := hide (WhI.done (gk := gk) hQ hR1 hR2 oW (.inl rfl))
      clear hQ hR1 hR2 oW hlen hgk
      go_wp2_with fail
      go_end0
      exact ⟨rfl, unhide FF⟩
    | true =>
    obtain ⟨i, bad, hc, hP1⟩ := hQ.rd
    have c2 : wr.cell? ⟨kr, 2, none⟩ = some (.bool bad) := hc.has.cell 2
    have kl := hc.has.lt
    cases bad with
    | true =>
      have FF := hide (WhI.done (gk := gk) hQ hR1 hR2 oW (.inr (show P1.2 = false by rw [hP1]; rfl)))
      clear hQ hR1 hR2 oW hlen hgk hc hP1
      go_wp2_with fail
      go_end0
      exact ⟨rfl, unhide FF⟩
    | false =>
    have hg1 : P1.2 = true := by rw [hP1]; rfl
    obtain ⟨S, hM, hO, hLn⟩ := hQ.sq
    have hO := hO hg1
    have hR1 := hR1 hg1
    have hlr := hQ.lr
    have klt := hQ.klt
    have tlt : ∀ b, tv.ownBlock = some b → b < wr.heap.size := fun b hb => ownsRow_lt hc.own b hb
    have oC : Only (fun _ => False) wr (wr.alloc (.cells #[.string ⟨#[]⟩, .string ⟨#[]⟩, .bool false, .int .i64 0, .string ⟨#[]⟩] 257)) := (Only.refl _ wr).alloc _
    have HC := hide (Has.new wr #[.string ⟨#[]⟩, .string ⟨#[]⟩, .bool false, .int .i64 0, .string ⟨#[]⟩] 257)
    have HM := hide (hM.quiet oC)
    have HPs := hide (hQ.rd.quiet oC)
    have HOn := hide (oW.trans (oC.mono (fun _ _ e => e.elim)) (fun _ _ e => e))
    have HBl := hide (And.intro hM.blt (And.intro hO (And.intro hlen (And.intro hR1 (And.intro hgk (And.intro hLn hg1))))))
    have hlo : lo ≤ wr.heap.size := by omega
    have HT := hide tlt
    clear hM hO hQ oC oW hR1 hR2 hlen hgk hLn hg1 hc hP1 tlt
    go_upto_region 5 with fail
    generalize wr.alloc (.cells #[.string ⟨#[]⟩, .string ⟨#[]⟩, .bool false, .int .i64 0, .string ⟨#[]⟩] 257) = w1 at *
    generalize hkc : wr.heap.size = kc at *
    clear hkc c2 kl
    have C1 := hide (smname_any (unhide HPs))
    go_wp2_with fail
    refine (unhide C1).mono ?_
    rintro e w2 ⟨nv, rfl, hnv, hh⟩
    have kcp : kc ≠ kr := by omega
    have C2' := (unhide HC).keep hh.2 kcp
    have HRd := hide (fun (wa wb : World) (Px Py : Ps) (h2 : MRd wa kr tv tl Px) (h1 : SMM lo wa ks S) (hp : MRp kr tv tl Py wa wb) => show SMM lo wb ks S from by
      obtain ⟨c, hc⟩ := h2.hasR
      exact h1.keep hp.2 (fun b hb e => h1.par hc b hb e))
    have HM2 := hide (unhide HRd _ _ _ _ (unhide HPs) (unhide HM) hh)
    have HPs2 := hide hh.1
    have HOn2 := hide ((unhide HOn).trans hh.2 (fun b _ e => by have e' : b = kr := e; omega))
    have d0 : w2.cell? ⟨kc, 0, none⟩ = some (.string ⟨#[]⟩) := C2'.cell 0
    have g0 := C2'.free 0
    have kcl := C2'.lt
    have HSt := hide (fun (wa wb : World) (Px : Ps) (o : Only (fun b => b = kc) wa wb) (h1 : SMM lo wa ks S) (h2 : MRd wa kr tv tl Px) (h3 : Only (fun b => lo ≤ b) w wa) => show SMM lo wb ks S ∧ MRd wb kr tv tl Px ∧ Only (fun b => lo ≤ b) w wb from ⟨h1.keep o (fun b hb e => by have e' : b = kc := e; have := (unhide HBl).1 b hb; omega), h2.keep o (fun e => kcp (Eq.symm e)) (fun b hb e => by have e' : b = kc := e; have := unhide HT b hb; omega), h3.trans o (fun b _ e => by have e' : b = kc := e; omega)⟩)
    have HX := hide (unhide HSt w2 _ _ (only1 (p := kc) 0 (.string nv)) (unhide HM2) (unhide HPs2) (unhide HOn2))
    have HC3 := hide (show Has (w2.setCell ⟨kc, 0, none⟩ (.string nv)) kc #[.string nv, .string ⟨#[]⟩, .bool false, .int .i64 0, .string ⟨#[]⟩] 257 from C2'.setCell 0 _)
    obtain ⟨P2, hP2⟩ : ∃ x, nameP P1 = x := ⟨_, rfl⟩
    rw [hP2] at HX
    have HNV := hide (And.intro hnv hP2)
    clear C1 hh C2' HM HPs HOn HC HM2 HPs2 HOn2 hnv hP2
    go_upto_region 6 with fail
    generalize w2.setCell ⟨kc, 0, none⟩ (.string nv) = w3 at *
    clear d0 g0 kcl
    obtain ⟨j, bad2, hc3, hPj⟩ := (unhide HX).2.1
    have c0 : w3.cell? ⟨kr, 0, none⟩ = some tv := hc3.has.cell 0
    have c1 : w3.cell? ⟨kr, 1, none⟩ = some (.int .i64 (j : Int)) := hc3.has.cell 1
    have kl3 := hc3.has.lt
    have kc3 := (unhide HC3).lt
    obtain ⟨cb, hcb⟩ : ∃ b, sgB tl[j]? = b := ⟨_, rfl⟩
    have HJ := hide (And.intro hc3 (And.intro hPj hcb))
    have CS := hide (fun (s : ByteArray) (w : World) => smholdsSign_any s w)
    obtain ⟨ta, tcap, htv⟩ := ownsRow_shape hc3.own
    have l1 := hc3.l256
    have hown := hc3.own
    rw [htv] at hown c0
    have Htv := hide htv
    clear hc3 hPj htv
    go_cut [60] from 23 to 59 (fun bv wx => bv = .bool cb ∧ Only (fun _ => False) w3 wx)
    case first =>
      by_cases hj : j < tl.length
      · obtain ⟨y, hy⟩ : ∃ y, tl[j]? = some y := ⟨_, List.getElem?_eq_getElem hj⟩
        obtain ⟨g, rfl, d0, d1, d2⟩ := OwnT.at_ hown hy
        rw [hy] at hcb
        have b1 : decide ((j : Int) < (tl.length : Int)) = true := decide_eq_true (by omega)
        have b1p : (j : Int) < (tl.length : Int) := by omega
        generalize tl.length = n at *
        clear hown hy hj d2
        cases y with
        | sign s =>
          simp only [tkK, tkT] at d0 d1
          have hcb' : decide (opS s ≠ 0) = cb := hcb
          have Hcb := hide hcb'
          clear hcb hcb'
          go_quiet (first | (go_at_call 327; exact Calls.quiet_of_same ((unhide CS _ _).mono (fun e w' h => ⟨h.1, h.2.symm⟩))))
          go_wp2_with fail
          go_meet
          exact ⟨by rw [← unhide Hcb]; simp, onlyQ _ _⟩
        | word s =>
          simp only [tkK, tkT] at d0 d1
          have hcb' : false = cb := hcb
          have Hcb := hide hcb'
          clear hcb hcb'
          go_quiet (first | (go_at_call 327; exact Calls.quiet_of_same ((unhide CS _ _).mono (fun e w' h => ⟨h.1, h.2.symm⟩))))
          go_wp2_with fail
          go_meet
          exact ⟨by rw [← unhide Hcb], onlyQ _ _⟩
        | num v =>
          simp only [tkK, tkT] at d0 d1
          have hcb' : false = cb := hcb
          have Hcb := hide hcb'
          clear hcb hcb'
          go_quiet (first | (go_at_call 327; exact Calls.quiet_of_same ((unhide CS _ _).mono (fun e w' h => ⟨h.1, h.2.symm⟩))))
          go_wp2_with fail
          go_meet
          exact ⟨by rw [← unhide Hcb], onlyQ _ _⟩
        | str s =>
          simp only [tkK, tkT] at d0 d1
          have hcb' : false = cb := hcb
          have Hcb := hide hcb'
          clear hcb hcb'
          go_quiet (first | (go_at_call 327; exact Calls.quiet_of_same ((unhide CS _ _).mono (fun e w' h => ⟨h.1, h.2.symm⟩))))
          go_wp2_with fail
          go_meet
          exact ⟨by rw [← unhide Hcb], onlyQ _ _⟩
      · have b1 : decide ((j : Int) < (tl.length : Int)) = false := decide_eq_false (by omega)
        have b1p : ¬ (j : Int) < (tl.length : Int) := by omega
        have hcb' : false = cb := by rw [← hcb, List.getElem?_eq_none (by omega)]; rfl
        have Hcb := hide hcb'
        generalize tl.length = n at *
        clear hown hj hcb hcb'
        go_quiet (first | (go_at_call 327; exact Calls.quiet_of_same ((unhide CS _ _).mono (fun e w' h => ⟨h.1, h.2.symm⟩))))
        go_wp2_with fail
        go_meet
        exact ⟨by rw [← unhide Hcb], onlyQ _ _⟩
    case rest =>
    obtain ⟨rfl, o4⟩ := hcut
    generalize wc = w4 at *
    have hc4 := (unhide HJ).1.keep o4 (fun e => e) (fun _ _ e => e)
    have HJ4 := hide (And.intro hc4 (unhide HJ).2)
    have HX4 := hide (show SMM lo w4 ks S ∧ Only (fun b => lo ≤ b) w w4 from ⟨(unhide HX).1.quiet o4, (unhide HX).2.2.trans (o4.mono (fun _ _ e => e.elim)) (fun _ _ e => e)⟩)
    have HC4 := hide ((unhide HC3).keep o4 (fun e => e))
    have e0 : w4.cell? ⟨kr, 0, none⟩ = some tv := hc4.has.cell 0
    have e1 : w4.cell? ⟨kr, 1, none⟩ = some (.int .i64 (j : Int)) := hc4.has.cell 1
    have e2 : w4.cell? ⟨kr, 2, none⟩ = some (.bool bad2) := hc4.has.cell 2
    have f1 := hc4.has.free 1
    have f2 := hc4.has.free 2
    have kl4 := hc4.has.lt
    have kc4 := (unhide HC4).lt
    have own4 := hc4.own
    rw [unhide Htv] at e0 own4
    clear HJ HX HC3 c0 c1 kl3 kc3 hown hcb hc4 o4 CS
    go_upto_if 60 with fail
    go_cut [] from 60 to 82 (fun wx => ∃ ox, Has wx kc #[.string nv, .string ox, .bool false, .int .i64 0, .string ⟨#[]⟩] 257 ∧ MRd wx kr tv tl (opP P2) ∧ Only (fun b => b = kr ∨ b = kc) w4 wx ∧ ((opP P2).2 = true → opT (opV P2) = ox))
    case first =>
      cases cb with
      | false =>
        have FF := hide (show ∃ ox, Has (w4.setCell ⟨kr, 2, none⟩ (.bool true)) kc #[.string nv, .string ox, .bool false, .int .i64 0, .string ⟨#[]⟩] 257 ∧ MRd (w4.setCell ⟨kr, 2, none⟩ (.bool true)) kr tv tl (opP P2) ∧ Only (fun b => b = kr ∨ b = kc) w4 (w4.setCell ⟨kr, 2, none⟩ (.bool true)) ∧ ((opP P2).2 = true → opT (opV P2) = ox) from by
          have hf := (unhide HJ4).1.fail
          have e := sg_no (unhide HJ4).2.1 (unhide HJ4).2.2
          refine ⟨⟨#[]⟩, (unhide HC4).keep hf.2 kcp, by rw [e]; exact hf.1, hf.2.mono (fun _ _ h => .inl h), fun c => by (rw [e] at c; cases c)⟩)
        clear own4
        go_wp2_with fail
        go_meet
        exact unhide FF
      | true =>
        obtain ⟨s, hy, hs, hj⟩ := sgB_at (unhide HJ4).2.2
        obtain ⟨g, hta, _, d1, _⟩ := OwnT.at_ own4 hy
        subst hta
        have jw : IntKind.i64.wrap ((j : Int) + 1) = ((j + 1 : Nat) : Int) := by rw [IntWalk.i64_in] <;> omega
        have b1p : (j : Int) < (tl.length : Int) := by omega
        have jw2 : IntKind.i64.wrap (j : Int) = (j : Int) := by rw [IntWalk.i64_in] <;> omega
        have x1 : w4.cell? ⟨kc, 1, none⟩ = some (.string ⟨#[]⟩) := (unhide HC4).cell 1
        have xf := (unhide HC4).free 1
        have gne : g ≠ kc := by have := unhide HT g (by rw [unhide Htv]; rfl); omega
        have HS := hide (And.intro hy (And.intro hs hj))
        obtain ⟨n, hn⟩ : ∃ n, tl.length = n := ⟨_, rfl⟩
        rw [hn] at b1p e0 l1
        clear own4 hy hs hj hn
        go_upto_region 7 with fail
        have S0 : w4.cell? ⟨kr, 0, none⟩ = some (.slice (some ⟨g, 0, none⟩) n tcap) ∧ w4.cell? ⟨kr, 1, none⟩ = some (.int .i64 (j : Int)) ∧ w4.cell? ⟨g, j * 3 + 1, none⟩ = some (.string s) := ⟨e0, e1, d1⟩
        have HS0 := hide S0
        have run1 := run_store_str (w := w4.drew) (ad := ⟨kc, 1, none⟩) (old := .string ⟨#[]⟩) (by simpa using x1) (by simpa using xf) s
        have o5 : Only (fun b => b = kc) w4 (w4.drew.setCell ⟨kc, 1, none⟩ (.string s)) := ((Only.refl _ w4).drew).trans (only1 (p := kc) _ _) (fun _ _ h => h)
        have S5 : (w4.drew.setCell ⟨kc, 1, none⟩ (.string s)).cell? ⟨kr, 0, none⟩ = some (.slice (some ⟨g, 0, none⟩) n tcap) ∧ (w4.drew.setCell ⟨kc, 1, none⟩ (.string s)).cell? ⟨kr, 1, none⟩ = some (.int .i64 (j : Int)) ∧ (w4.drew.setCell ⟨kc, 1, none⟩ (.string s)).cell? ⟨g, j * 3 + 1, none⟩ = some (.string s) := ⟨cell_keep e0 o5 (fun h => kcp h.symm), cell_keep e1 o5 (fun h => kcp h.symm), cell_keep d1 o5 gne⟩
        clear e0 e1 d1 x1 xf
        refine wp_region_held_drew (S := (fun w' => w'.cell? ⟨kr, 0, none⟩ = some (.slice (some ⟨g, 0, none⟩) n tcap) ∧ w'.cell? ⟨kr, 1, none⟩ = some (.int .i64 (j : Int)) ∧ w'.cell? ⟨g, j * 3 + 1, none⟩ = some (.string s))) (by kernel_rfl) S0 (fun hH0 => ?_)
        refine takeH 0 61 (v := ?vwa1) rfl rfl (by kernel_rfl) (by kernel_rfl) (by kernel_rfl) (fun _ _ _ h => h) (Or.inl ⟨by rfl, ?hwa1⟩) hH0 ?rwa1
        case hwa1 => (intro w hSw; clear hSw; go_simp; (try with_reducible rfl))
        case rwa1 =>
        try simp only [Act.put, List.setIfInBounds_toArray, List.set_cons_zero, List.set_cons_succ]
        refine takeH 1 62 (v := ?vwa2) rfl rfl (by kernel_rfl) (by kernel_rfl) (by kernel_rfl) (fun _ _ _ h => h) (Or.inl ⟨by rfl, ?hwa2⟩) hH0 ?rwa2
        case hwa2 => (intro w hSw; clear hSw; go_simp; (try with_reducible rfl))
        case rwa2 =>
        try simp only [Act.put, List.setIfInBounds_toArray, List.set_cons_zero, List.set_cons_succ]
        refine takeH 2 63 (v := ?vwa3) rfl rfl (by kernel_rfl) (by kernel_rfl) (by kernel_rfl) (fun _ _ _ h => h) (Or.inl ⟨by rfl, ?hwa3⟩) hH0 ?rwa3
        case hwa3 => (intro w hSw; clear hSw; go_simp; (try with_reducible rfl))
        case rwa3 =>
        try simp only [Act.put, List.setIfInBounds_toArray, List.set_cons_zero, List.set_cons_succ]
        refine takeH 3 64 (v := ?vwa4) rfl rfl (by kernel_rfl) (by kernel_rfl) (by kernel_rfl) (fun _ _ _ h => h) (Or.inl ⟨by rfl, ?hwa4⟩) hH0 ?rwa4
        case hwa4 => (intro w hSw; obtain ⟨s0, s1, s2⟩ := hSw; go_simp; (try with_reducible rfl))
        case rwa4 =>
        try simp only [Act.put, List.setIfInBounds_toArray, List.set_cons_zero, List.set_cons_succ]
        refine takeH 4 65 (v := ?vwa5) rfl rfl (by kernel_rfl) (by kernel_rfl) (by kernel_rfl) (fun _ _ _ h => h) (Or.inl ⟨by rfl, ?hwa5⟩) hH0 ?rwa5
        case hwa5 => (intro w hSw; clear hSw; go_simp; (try with_reducible rfl))
        case rwa5 =>
        try simp only [Act.put, List.setIfInBounds_toArray, List.set_cons_zero, List.set_cons_succ]
        refine takeH 5 66 (v := ?vwa6) rfl rfl (by kernel_rfl) (by kernel_rfl) (by kernel_rfl) (fun _ _ _ h => h) (Or.inl ⟨by rfl, ?hwa6⟩) hH0 ?rwa6
        case hwa6 => (intro w hSw; clear hSw; go_simp; (try with_reducible rfl))
        case rwa6 =>
        try simp only [Act.put, List.setIfInBounds_toArray, List.set_cons_zero, List.set_cons_succ]
        refine takeH 6 67 (v := ?vwa7) rfl rfl (by kernel_rfl) (by kernel_rfl) (by kernel_rfl) (fun _ _ _ h => h) (Or.inl ⟨by rfl, ?hwa7⟩) hH0 ?rwa7
        case hwa7 => (intro w hSw; clear hSw; go_simp; (try with_reducible rfl))
        case rwa7 =>
        try simp only [Act.put, List.setIfInBounds_toArray, List.set_cons_zero, List.set_cons_succ]
        refine takeH 7 68 (v := ?vwa8) rfl rfl (by kernel_rfl) (by kernel_rfl) (by kernel_rfl) (fun _ _ _ h => h) (Or.inl ⟨by rfl, ?hwa8⟩) hH0 ?rwa8
        case hwa8 => (intro w hSw; obtain ⟨s0, s1, s2⟩ := hSw; go_simp; (try with_reducible rfl))
        case rwa8 =>
        try simp only [Act.put, List.setIfInBounds_toArray, List.set_cons_zero, List.set_cons_succ]
        refine takeH 8 69 (v := ?vwa9) rfl rfl (by kernel_rfl) (by kernel_rfl) (by kernel_rfl) (fun _ _ _ h => h) (Or.inl ⟨by rfl, ?hwa9⟩) hH0 ?rwa9
        case hwa9 => (intro w hSw; clear hSw; go_simp; (try with_reducible rfl))
        case rwa9 =>
        try simp only [Act.put, List.setIfInBounds_toArray, List.set_cons_zero, List.set_cons_succ]
        refine takeH 9 70 (v := ?vwa10) rfl rfl (by kernel_rfl) (by kernel_rfl) (by kernel_rfl) (fun _ _ _ h => h) (Or.inl ⟨by rfl, ?hwa10⟩) hH0 ?rwa10
        case hwa10 => (intro w hSw; clear hSw; go_simp; (try with_reducible rfl))
        case rwa10 =>
        try simp only [Act.put, List.setIfInBounds_toArray, List.set_cons_zero, List.set_cons_succ]
        refine takeH 10 71 (v := ?vwa11) rfl rfl (by kernel_rfl) (by kernel_rfl) (by kernel_rfl) (fun _ _ _ h => h) (Or.inl ⟨by rfl, ?hwa11⟩) hH0 ?rwa11
        case hwa11 => (intro w hSw; obtain ⟨s0, s1, s2⟩ := hSw; go_simp; (try with_reducible rfl))
        case rwa11 =>
        try simp only [Act.put, List.setIfInBounds_toArray, List.set_cons_zero, List.set_cons_succ]
        refine takeH 11 72 (v := ?vwa12) rfl rfl (by kernel_rfl) (by kernel_rfl) (by kernel_rfl) (fun _ _ _ h => h) (Or.inl ⟨by rfl, ?hwa12⟩) hH0 ?rwa12
        case hwa12 => (intro w hSw; clear hSw; go_simp; (try with_reducible rfl))
        case rwa12 =>
        try simp only [Act.put, List.setIfInBounds_toArray, List.set_cons_zero, List.set_cons_succ]
        refine storeH_any 12 (by kernel_rfl) rfl rfl rfl 9 _ _ rfl ⟨kc, 1, none⟩ (.string s) rfl rfl run1 S5 ?_
        try simp only [Act.put, List.setIfInBounds_toArray, List.set_cons_zero, List.set_cons_succ]
        refine wpAnyH_done (by kernel_rfl) ?_ _
        have hc5 := (unhide HJ4).1.keep o5 (fun h => kcp h.symm) (fun b hb e => by have e' : b = kc := e; have := unhide HT b hb; omega)
        have HC5 : Has (w4.drew.setCell ⟨kc, 1, none⟩ (.string s)) kc #[.string nv, .string s, .bool false, .int .i64 0, .string ⟨#[]⟩] 257 := ((unhide HC4).keep (show Only (fun _ => False) w4 w4.drew from (Only.refl _ w4).drew) (fun e => e)).setCell 1 _
        go_upto_region 8 with fail
        generalize w4.drew.setCell ⟨kc, 1, none⟩ (.string s) = w5 at *
        have y1 : w5.cell? ⟨kr, 1, none⟩ = some (.int .i64 (j : Int)) := hc5.has.cell 1
        have yf := hc5.has.free 1
        have yl := hc5.has.lt
        have FF := hide (show ∃ ox, Has (w5.setCell ⟨kr, 1, none⟩ (.int .i64 ((j + 1 : Nat) : Int))) kc #[.string nv, .string ox, .bool false, .int .i64 0, .string ⟨#[]⟩] 257 ∧ MRd (w5.setCell ⟨kr, 1, none⟩ (.int .i64 ((j + 1 : Nat) : Int))) kr tv tl (opP P2) ∧ Only (fun b => b = kr ∨ b = kc) w4 (w5.setCell ⟨kr, 1, none⟩ (.int .i64 ((j + 1 : Nat) : Int))) ∧ ((opP P2).2 = true → opT (opV P2) = ox) from by
          have hf := hc5.nxt (unhide HS).2.2 (unhide HJ4).2.1
          have e := sg_yes (unhide HJ4).2.1 (unhide HS).2.2 (unhide HS).1 (unhide HS).2.1
          exact ⟨s, HC5.keep hf.2 kcp, by rw [e.1]; exact hf.1, (o5.mono (T := fun b => b = kr ∨ b = kc) (fun _ _ h => .inr h)).trans hf.2 (fun _ _ h => .inl h), e.2⟩)
        clear hc5 HC5 S5 S0 run1 o5
        go_wp2_with fail
        go_meet
        exact unhide FF
    case rest =>
    obtain ⟨ox, hC6, hR6, o6, hox⟩ := hcut
    generalize wc = w6 at *
    have HM6 := hide ((unhide HX4).1.keep o6 (fun b hb e => by
      rcases e with e | e
      · exact (unhide HX4).1.par (unhide HJ4).1.has b hb e
      · have := (unhide HBl).1 b hb; omega))
    have HOn6 := hide ((unhide HX4).2.trans o6 (fun b _ e => by rcases e with e | e <;> omega))
    obtain ⟨P3, hP3⟩ : ∃ x, opP P2 = x := ⟨_, rfl⟩
    rw [hP3] at hR6 hox
    have HOX := hide (And.intro hP3 hox)
    have HC6 := hide hC6
    have HPs6 := hide hR6
    have C3 := smlit_any hR6
    unfold QmLt vlA at C3
    have C3 := hide C3
    clear hC6 hR6 o6 hox hP3 HX4 HC4 HJ4 e0 e1 e2 f1 f2 kl4 kc4 own4
    go_wp2_with fail
    refine (unhide C3).mono ?_
    rintro e2 w7 ⟨lv, rfl, hlv, hh⟩
    have C7' := (unhide HC6).keep hh.2 kcp
    have HM7 := hide (unhide HRd _ _ _ _ (unhide HPs6) (unhide HM6) hh)
    have HOn7 := hide ((unhide HOn6).trans hh.2 (fun b _ e => by have e' : b = kr := e; omega))
    have d2 : w7.cell? ⟨kc, 2, none⟩ = some (.bool false) := C7'.cell 2
    have d3 : w7.cell? ⟨kc, 3, none⟩ = some (.int .i64 0) := C7'.cell 3
    have d4 : w7.cell? ⟨kc, 4, none⟩ = some (.string ⟨#[]⟩) := C7'.cell 4
    have g2 := C7'.free 2
    have g3 := C7'.free 3
    have g4 := C7'.free 4
    have kcl7 := C7'.lt
    have o8 : Only (fun b => b = kc) w7 (((w7.setCell ⟨kc, 2, none⟩ (.bool lv.str)).setCell ⟨kc, 3, none⟩ (.int .i64 lv.i)).setCell ⟨kc, 4, none⟩ (.string lv.s)) := ((only1 (p := kc) _ _).trans (only1 (p := kc) _ _) (fun _ _ h => h)).trans (only1 (p := kc) _ _) (fun _ _ h => h)
    have HX8 := hide (unhide HSt w7 _ _ o8 (unhide HM7) hh.1 (unhide HOn7))
    have HC8 := hide (show Has (((w7.setCell ⟨kc, 2, none⟩ (.bool lv.str)).setCell ⟨kc, 3, none⟩ (.int .i64 lv.i)).setCell ⟨kc, 4, none⟩ (.string lv.s)) kc #[.string nv, .string ox, .bool lv.str, .int .i64 lv.i, .string lv.s] 257 from ((C7'.setCell 2 _).setCell 3 _).setCell 4 _)
    obtain ⟨P4, hP4⟩ : ∃ x, litP P3 = x := ⟨_, rfl⟩
    rw [hP4] at HX8
    have HLV := hide (And.intro hP4 hlv)
    clear C3 hh C7' HM6 HC6 HOn6 HPs6 HM7 HOn7 o8 hP4 hlv
    go_upto_region 11 with fail
    generalize ((w7.setCell ⟨kc, 2, none⟩ (.bool lv.str)).setCell ⟨kc, 3, none⟩ (.int .i64 lv.i)).setCell ⟨kc, 4, none⟩ (.string lv.s) = w8 at *
    clear d2 d3 d4 g2 g3 g4 kcl7
    have hM8 := (unhide HX8).1
    have own8 := hM8.own 7 (by unfold smj; omega)
    have hln : S.ln 7 = q.length := (unhide HBl).2.1.x7.2
    rw [hln] at own8
    have hl1000 : q.length + P1.1.length + 1 ≤ 1000 := by have h := (unhide HBl).2.2.1 (unhide HBl).2.2.2.2.2.2; unfold gB at h; rw [(unhide HBl).2.2.2.2.2.2] at h; simpa using h
    obtain ⟨n, hnn⟩ : ∃ n, q.length = n := ⟨_, rfl⟩
    rw [hnn] at own8 hl1000
    obtain ⟨a, cap, hcell⟩ := ownsRow_shape own8
    have z0 := hM8.cl (i := 7) (by omega)
    rw [hcell] at z0 own8
    have zf := hM8.fr 7
    have kl8 := hM8.lt
    have own1 : w8.ownsRow 0 257 5 (.slice a n cap) n (S.xs 7) := own8
    have zne : (Value.slice a n cap).ownBlock ≠ some ks := fun c => hM8.kne (j := 7) (by unfold smj; omega) (by rw [hcell]; exact c) rfl
    have e0 : w8.cell? ⟨kc, 0, none⟩ = some (.string nv) := (unhide HC8).cell 0
    have e1 : w8.cell? ⟨kc, 1, none⟩ = some (.string ox) := (unhide HC8).cell 1
    have e2 : w8.cell? ⟨kc, 2, none⟩ = some (.bool lv.str) := (unhide HC8).cell 2
    have e3 : w8.cell? ⟨kc, 3, none⟩ = some (.int .i64 lv.i) := (unhide HC8).cell 3
    have e4 : w8.cell? ⟨kc, 4, none⟩ = some (.string lv.s) := (unhide HC8).cell 4
    have kcl8 := (unhide HC8).lt
    have oA : Only (fun _ => False) w8 ((w8.alloc (.cells #[.string nv, .string ox, .bool lv.str, .int .i64 lv.i, .string lv.s] 257)).drew) := ((Only.refl _ w8).alloc _).drew
    have z1 := oA.cellS z0
    have z1f : ((w8.alloc (.cells #[.string nv, .string ox, .bool lv.str, .int .i64 lv.i, .string lv.s] 257)).drew).frozen? ⟨ks, 7, none⟩ = false := oA.frS zf (fun e => e) kl8
    have l5 : n + 1 ≤ maxLen := by unfold maxLen; omega
    have hlo8 : lo ≤ w8.heap.size := by omega
    have HPP : Hid (∀ (gg cap3 : Nat) (w9 : World), w9.ownsRow 0 257 5 (.slice (some ⟨gg, 0, none⟩) (n + 1) cap3) (n + 1) (S.xs 7 ++ [.string nv, .string ox, .bool lv.str, .int .i64 lv.i, .string lv.s]) → ((w8.alloc (.cells #[.string nv, .string ox, .bool lv.str, .int .i64 lv.i, .string lv.s] 257)).drew).grownBy w9 (Value.slice a n cap).ownBlock → ((Value.slice a n cap).ownBlock = some gg ∨ gg = w8.heap.size + 1) → MQR lo (w9.setCell ⟨ks, 7, none⟩ (.slice (some ⟨gg, 0, none⟩) (n + 1) cap3)) kr ks tv tl (cmpP P1).1 { m with wh := q ++ [(cmpP P1).2] } ∧ Only (fun b => lo ≤ b) w (w9.setCell ⟨ks, 7, none⟩ (.slice (some ⟨gg, 0, none⟩) (n + 1) cap3))) := hide (fun gg cap3 w9 h1 h2 h3 => by
      have p := (unhide HX8).1.push (j := 7) (by unfold smj; omega) (es := [.string nv, .string ox, .bool lv.str, .int .i64 lv.i, .string lv.s]) (n := n + 1) oA h1 (by rw [hcell]; exact h2) (fun b hb => by
          simp [Value.ownBlock] at hb
          subst hb
          rw [hcell]
          exact h3.imp id (fun c => by omega)) hlo8
      obtain ⟨cc, hcc⟩ := (unhide HX8).2.1.hasR
      have hk : ¬ S.U ks 7 kr := fun c => by
        rcases c with c | c
        · exact hM8.par hcc ks (.inl rfl) c.symm
        · exact hM8.par hcc kr (.inr ⟨7, by unfold smj; omega, c⟩) rfl
      have ht2 : ∀ b, tv.ownBlock = some b → ¬ S.U ks 7 b := fun b hb c => by
        rcases c with c | c
        · exact hM8.tok (unhide HX8).2.1.own b (.inl c) hb
        · exact hM8.tok (unhide HX8).2.1.own b (.inr ⟨7, by unfold smj; omega, c⟩) hb
      have ec : (cmpP P1).1 = P4 := by rw [cmpP_eq, (unhide HNV).2, (unhide HOX).1, (unhide HLV).1]
      rw [ec]
      refine ⟨⟨(unhide HX8).2.1.keep p.2 hk ht2, hlr, _, p.1, fun hg => ?_, fun j hj => ?_⟩, (unhide HX8).2.2.trans p.2 (fun b _ c => (unhide HX8).1.ulo (by unfold smj; omega) b c)⟩
      · have g3 : P3.2 = true := by
          have hg' := hg
          rw [← (unhide HLV).1] at hg'
          exact lit_good hg'
        have y1 := (unhide HNV).1 (unhide HBl).2.2.2.2.2.2
        have y2 := (unhide HOX).2 g3
        have y3 := (unhide HLV).2 g3
        have ee : [.string nv, .string ox, .bool lv.str, .int .i64 lv.i, .string lv.s] = smC (cmpP P1).2 := by
          rw [cmpP_eq, (unhide HNV).2, (unhide HOX).1]
          unfold smC
          simp only
          rw [y2, ← y1, ← y3]
        rw [ee]
        exact (unhide HBl).2.1.wh (by rw [hnn])
      · show (if j = 7 then n + 1 else S.ln j) ≤ 1000
        split
        · omega
        · exact (unhide HBl).2.2.2.2.2.1 j hj)
    have Hnn := hide hnn
    clear hM8 own8 hln hcell hnn
    go_region_law
      ((refine step_append_lies _ (by rfl) _ _ _ (by rfl) 0 257 i0 _ 5 64 Tryz.underlying251 hi0 hz0 hy0 hb0 rfl (by omega) (.slice a n cap) n (S.xs 7) (by rfl) ((own1.alloc _).drew) ⟨w8.heap.size, 0, none⟩ 1 1 [.string nv, .string ox, .bool lv.str, .int .i64 lv.i, .string lv.s] (by rfl) (by rfl) (World.news_of_block (cs := #[.string nv, .string ox, .bool lv.str, .int .i64 lv.i, .string lv.s]) (t := 257) (fr := (0, 0)) (heap_alloc_new w8 _)) (by simp [Value.oneCell']) (by omega) l5 (by omega) (by simp) (w8.heap.size + 1) (by simp) ?_; intro gg cap3 w9 hown1 hgrow hat hlt3; have y3 := (hgrow.cell_far ⟨ks, 7, none⟩ (by simp; omega) (Ne.symm zne)).trans z1; have yz := (hgrow.frozen_far ⟨ks, 7, none⟩ (by simp; omega) (Ne.symm zne)).trans z1f))
    all_goals
      have HQ9 := hide (unhide HPP gg cap3 w9 hown1 hgrow hat)
      clear hown1 hgrow hat hlt3 HPP z0 zf own1 zne z1 z1f oA e0 e1 e2 e3 e4
      go_upto_region 3 with fail
      clear y3 yz
      generalize w9.setCell ⟨ks, 7, none⟩ (.slice (some ⟨gg, 0, none⟩) (n + 1) cap3) = wA at *
      have C5 := smeat_any (unhide HQ9).1.rd wAND (.inl (by decide +kernel))
      have HN := hide (fun (b5 : Bool) (wB : World) => WhI.next (w := w) (gk := gk) (b5 := b5) (wB := wB) (unhide HBl).2.2.2.2.2.2 (show R = listP cmpP wAND P1 q from (unhide HBl).2.2.2.1) (by rw [unhide Hnn]; exact hl1000) (by have h := (unhide HBl).2.2.2.2.1; unfold gB at h; rw [(unhide HBl).2.2.2.2.2.2] at h; simpa using h) (unhide HQ9).1 (unhide HQ9).2)
      unfold wAND at C5
      have C5 := hide C5
      go_wp2_with fail
      refine (unhide C5).mono ?_
      rintro e5 wB ⟨b5, rfl, p1, p2, p3⟩
      have HEnd := hide (unhide HN b5 wB p1 p2 p3)
      clear C5 p1 p2 p3 HN
      go_wp2_with fail
      obtain ⟨gk', hg', hw'⟩ := unhide HEnd
      go_roundg gk'
      case measure => exact hg'
      case rel => exact hw'
end
end Go.Proofs.Qxb6500412aGreat
