/-
  OWN WORK. QUERY: the parser: creates (written by tools/gen_s14.py).
-/
import Derived.Test.Qxb6500412aGreatS13
namespace Go.Proofs.Qxb6500412aGreat
open Go.RowKit Go.PlainAid
set_option linter.unusedSimpArgs false
set_option linter.unusedVariables false

theorem Tryz.infoSCol : (Tryz.prog.info? 149).map (fun i => (i.zero, i.size, i.bytes)) = some (some (.agg #[.string ⟨#[]⟩, .bool false]), 2, 24) := by kernel_rfl
def wTABLE : ByteArray := ⟨#[84, 65, 66, 76, 69]⟩
def wTEXT : ByteArray := ⟨#[84, 69, 88, 84]⟩
def wINT : ByteArray := ⟨#[73, 78, 84]⟩
def wKEY : ByteArray := ⟨#[75, 69, 89]⟩
/-- name (INT | TEXT) [KEY]. -/
def tyP (P : Ps) : Ps := if eatB wTEXT P = true then nextP P else wantP wINT P
def colL (P : Ps) : Ps × (Cl × Bool) := (eatP wKEY (tyP (nameP P)), ((nameV P, eatB wTEXT (nameP P)), eatB wKEY (tyP (nameP P))))
theorem tyP_len (P : Ps) : (tyP P).1.length ≤ P.1.length := by
  unfold tyP
  split
  · exact nextP_len P
  · exact wantP_len _ _
theorem colL_len (P : Ps) : (colL P).1.1.length ≤ P.1.length := Nat.le_trans (eatP_len _ _) (Nat.le_trans (tyP_len _) (nameP_len P))
def kyN (l : List (Cl × Bool)) : Nat := (l.filter (·.2)).length
def pkF : Nat → List (Cl × Bool) → Int → Int
  | _, [], p => p
  | i, x :: l, p => pkF (i + 1) l (if x.2 = true then (i : Int) else p)
theorem pkF_snoc (x : Cl × Bool) : ∀ (l : List (Cl × Bool)) (i : Nat) (p : Int), pkF i (l ++ [x]) p = if x.2 = true then ((i + l.length : Nat) : Int) else pkF i l p
  | [], i, p => by simp [pkF]
  | y :: l, i, p => by
    show pkF (i + 1) (l ++ [x]) _ = _
    rw [pkF_snoc x l]
    have e : i + 1 + l.length = i + (y :: l).length := by simp; omega
    rw [e]
    rfl
theorem kyN_snoc (l : List (Cl × Bool)) (x : Cl × Bool) : kyN (l ++ [x]) = kyN l + (if x.2 = true then 1 else 0) := by
  unfold kyN
  rw [List.filter_append, List.length_append]
  cases h : x.2 <;> simp [h]
def tabL (P : Ps) : Ps × List (Cl × Bool) := listP colL wCOMMA (wantP wLP (nameP P)) []
def tabP (P : Ps) (st : St) : Ps × St := (if kyN (tabL P).2 = 1 then wantP wRP (tabL P).1 else failP, { st with kind := 4, table := nameV P, defs := (tabL P).2.map (·.1), pk := pkF 0 (tabL P).2 st.pk })
section
variable {lo : Nat} {w w' : World} {kp ks : Nat} {t : ByteArray} {P : Ps} {st st' : St} {S : Sq}
theorem SqOf.defs_ {l : List Cl} {c : Cl} {v : Value} {n : Nat} (h : SqOf S { st with defs := l }) (hn : n = l.length + 1) : SqOf (S.setL 2 v (S.xs 2 ++ [.string c.1, .bool c.2]) n) { st with defs := l ++ [c] } := by
  refine ⟨h.k0, h.k1, ⟨?_, ?_⟩, h.k3, h.x4, h.k5, h.x6, h.x7, h.x8, h.k9, h.k10, h.k11, h.k12⟩
  · show S.xs 2 ++ _ = ccs (l ++ [c])
    rw [h.x2.1, ccs_app]
    rfl
  · show n = (l ++ [c]).length
    rw [hn]; simp
/-- The rest of creates behind TABLE. -/
def TdI (w : World) (lo kp ks : Nat) (t : ByteArray) (st0 : St) (R : Ps × List (Cl × Bool)) (gk : Nat) (kv mv : Value) (wr : World) : Prop := ∃ (m : Bool) (P1 : Ps) (l : List (Cl × Bool)), mv = .bool m ∧ kv = .int .i64 (kyN l : Int) ∧ QP lo wr kp ks t P1 { st0 with defs := l.map (·.1), pk := pkF 0 l st0.pk } ∧ l.length + P1.1.length + (if m = true then 1 else 0) ≤ 1000 ∧ R = (if m = true then listP colL wCOMMA P1 l else (P1, l)) ∧ Only (fun b => lo ≤ b) w wr ∧ 2 * P1.1.length + (if m = true then 1 else 0) ≤ gk
set_option maxRecDepth 100000 in
set_option maxHeartbeats 8000000 in
theorem sqcreatesT_any (ht : t.size ≤ 256) (h : QP lo w kp ks t P st) (hd : st.defs = []) (hl : P.1.length + 1 ≤ 1000) (he : eatB wTABLE P = true) : Calls Tryz.prog 222 #[.pointer (some ⟨kp, 0, none⟩), .pointer (some ⟨ks, 0, none⟩)] w fun e w' => e = .returned (.tuple #[]) ∧ QpP lo kp ks t (tabP (nextP P) st).1 (tabP (nextP P) st).2 w w' := by
  obtain ⟨i0, hi0, hz0, hy0, hb0⟩ := info_parts Tryz.infoSCol
  have C1 := sqeat_any ht h.ps wTABLE
  rw [he] at C1
  unfold wTABLE at C1
  have C1 := hide C1
  have e1 : eatP wTABLE P = nextP P := by unfold eatP; rw [he]; rfl
  obtain ⟨Pn, hPn⟩ : ∃ x, nextP P = x := ⟨_, rfl⟩
  have hn1 : Pn.1.length ≤ P.1.length := by rw [← hPn]; exact nextP_len P
  obtain ⟨st0, hst0⟩ : ∃ s, s = { st with kind := 4, table := nameV Pn } := ⟨_, rfl⟩
  obtain ⟨Pa, hPa⟩ : ∃ x, wantP wLP (nameP Pn) = x := ⟨_, rfl⟩
  obtain ⟨R, hR⟩ : ∃ R, R = listP colL wCOMMA Pa [] := ⟨_, rfl⟩
  have hU : tabP (nextP P) st = (if kyN R.2 = 1 then wantP wRP R.1 else failP, { st0 with defs := R.2.map (·.1), pk := pkF 0 R.2 st0.pk }) := by
    unfold tabP tabL
    rw [hPn, hR, hst0, hPa]
  obtain ⟨FP, hFP⟩ : ∃ x, (if kyN R.2 = 1 then wantP wRP R.1 else failP, ({ st0 with defs := R.2.map (·.1), pk := pkF 0 R.2 st0.pk } : St)) = x := ⟨_, rfl⟩
  rw [hU, hFP]
  have HFP := hide hFP
  have hPl : Pa.1.length ≤ P.1.length := by rw [← hPa]; exact Nat.le_trans (wantP_len _ _) (Nat.le_trans (nameP_len _) hn1)
  have HL := hide (show Pa.1.length + 1 ≤ 1000 ∧ Pa.1.length ≤ P.1.length from ⟨by omega, hPl⟩)
  have HR := hide hR
  have Hs := hide (And.intro hst0 (And.intro hPa (And.intro e1 (And.intro hPn hd))))
  have HH := hide h
  clear h hl hU hFP hPl hR hst0 hPa he e1 hPn hd hn1
  go_enter Tryz.func222, Tryz.ntmps222
  go_wp2_with fail
  refine (unhide C1).mono ?_
  rintro e w0 ⟨rfl, hh⟩
  have q0 := (unhide HH).parP hh
  have q0 : QpP lo kp ks t Pn st w w0 := by
    rw [← (unhide Hs).2.2.2.1, ← (unhide Hs).2.2.1]
    exact q0
  obtain ⟨v0, c0, f0, kl⟩ := q0.1.at_ (i := 0) (by omega)
  have H1 := hide (q0.trans (q0.1.set (i := 0) (v := .int .i64 4) (by unfold sqj; omega) (fun S hS => hS.kind_)))
  clear C1 hh q0 HH
  go_upto_region 9 with fail
  generalize w0.setCell ⟨ks, 0, none⟩ (.int .i64 4) = w1 at *
  clear c0 f0 kl
  have C1 := hide (sqname_any ht (unhide H1).1.ps)
  go_wp2_with fail
  refine (unhide C1).mono ?_
  rintro e w2 ⟨rfl, hh⟩
  have q2 := (unhide H1).trans ((unhide H1).1.parP hh)
  obtain ⟨v1, c1, f1, kl⟩ := q2.1.at_ (i := 1) (by omega)
  obtain ⟨nm0, hnm0⟩ : ∃ x, nameV Pn = x := ⟨_, rfl⟩
  rw [hnm0]
  have H3 := hide (q2.trans (q2.1.set (i := 1) (v := .string nm0) (by unfold sqj; omega) (fun S hS => hS.table_)))
  have Hnm := hide hnm0
  clear C1 hh q2 H1 hnm0
  go_upto_region 10 with fail
  generalize w2.setCell ⟨ks, 1, none⟩ (.string nm0) = w3 at *
  clear c1 f1 kl
  have C1 := sqwant_any ht (unhide H3).1.ps wLP
  unfold wLP at C1
  have C1 := hide C1
  go_wp2_with fail
  refine (unhide C1).mono ?_
  rintro e w4 ⟨rfl, hh⟩
  have H4 := hide ((unhide H3).trans ((unhide H3).1.parP hh))
  clear C1 hh
  have HS3 := hide (show TdI w lo kp ks t st0 R (2 * P.1.length + 2) (.int .i64 0) (.bool true) w4 from by
    have q := unhide H4
    refine ⟨true, Pa, [], rfl, rfl, ?_, by have := (unhide HL).1; simp; omega, by rw [if_pos rfl]; exact unhide HR, q.2, by have := (unhide HL).2; simp; omega⟩
    have e : ({ st0 with defs := ([] : List (Cl × Bool)).map (·.1), pk := pkF 0 [] st0.pk } : St) = st0 := by
      rw [(unhide Hs).1]
      show ({ st with kind := 4, table := nameV Pn, defs := [] } : St) = _
      rw [← (unhide Hs).2.2.2.2]
    rw [e, (unhide Hs).1, ← (unhide Hs).2.1, unhide Hnm]
    exact q.1)
  clear H3 H4
  go_upto_region 13 with fail
  go_loopg [4, 5, 6] (2 * P.1.length + 2) (fun gk kv mv _ wr => TdI w lo kp ks t st0 R gk kv mv wr)
  case atStart => exact unhide HS3
  case round =>
    clear HS3
    obtain ⟨m, P1, l, rfl, rfl, hQ, hlen, hR, oW, hgk⟩ := hrel
    cases m with
    | false =>
      have hR' : R = (P1, l) := by simpa using hR
      have CW := sqwant_any ht hQ.ps wRP
      unfold wRP at CW
      have HW := hide (And.intro hR' (show QpP lo kp ks t P1 { st0 with defs := l.map (·.1), pk := pkF 0 l st0.pk } w wr from ⟨hQ, oW⟩))
      have CW := hide CW
      clear hQ hR oW hR' hlen hgk
      obtain ⟨kn, hkn⟩ : ∃ n, kyN l = n := ⟨_, rfl⟩
      rw [hkn]
      have Hkn := hide hkn
      clear hkn
      go_wp2_with fail
      refine (unhide CW).mono ?_
      rintro e9 w9 ⟨rfl, hh⟩
      have H9 := hide ((unhide HW).2.trans ((unhide HW).2.1.parP hh))
      clear hh CW
      by_cases h1 : kn = 1
      · have b1 : ((kn : Int) != 1) = false := by simp [h1]
        have FF := hide (show QpP lo kp ks t FP.1 FP.2 w w9 by
          rw [← unhide HFP, (unhide HW).1]
          simp only
          rw [unhide Hkn, if_pos h1]
          exact unhide H9)
        clear h1
        go_wp2_with fail
        go_end0
        exact ⟨rfl, unhide FF⟩
      · have b1 : ((kn : Int) != 1) = true := by simp; omega
        have CF := hide (sqfail_any (unhide H9).1.ps)
        have H1x := hide h1
        clear h1
        go_wp2_with fail
        refine (unhide CF).mono ?_
        rintro e9 wX ⟨rfl, hh⟩
        have FF := hide (show QpP lo kp ks t FP.1 FP.2 w wX by
          rw [← unhide HFP, (unhide HW).1]
          simp only
          rw [unhide Hkn, if_neg (unhide H1x)]
          exact (unhide H9).trans ((unhide H9).1.parP hh))
        clear hh CF
        go_wp2_with fail
        go_end0
        exact ⟨rfl, unhide FF⟩
    | true =>
      have hlp := hQ.lp
      have klt := hQ.klt
      have hlo := hQ.lo_
      have oC : Only (fun _ => False) wr (wr.alloc (.cells #[.string ⟨#[]⟩, .bool false] 149)) := (Only.refl _ wr).alloc _
      have HC := hide (Has.new wr #[.string ⟨#[]⟩, .bool false] 149)
      -- a block of the round's own
      have HFr := hide (show ∀ b, wr.heap.size ≤ b → lo ≤ b from fun b hb => by omega)
      obtain ⟨S, hM, hO⟩ := hQ.sq
      have HBl := hide (And.intro hM.blt (And.intro hO (And.intro hlen (And.intro hR hgk))))
      have HM := hide (hM.quiet oC)
      have HPs := hide (hQ.ps.keep oC (fun e => e))
      have HOn := hide (oW.trans (oC.mono (fun _ _ e => e.elim)) (fun _ _ e => e))
      clear hM hO hQ oC oW hR hlen hgk
      obtain ⟨kn, hkn⟩ : ∃ n, kyN l = n := ⟨_, rfl⟩
      rw [hkn]
      have Hkn := hide hkn
      clear hkn
      go_upto_region 16 with fail
      generalize wr.alloc (.cells #[.string ⟨#[]⟩, .bool false] 149) = w1 at *
      generalize hkc : wr.heap.size = kc at *
      clear hkc
      have kcp : kc ≠ kp := by omega
      have HSt := hide (fun (wa wb : World) (Px : Ps) (S1 : Sq) (hb : ∀ b, S1.B ks b → b < kc) (o : Only (fun b => b = kc) wa wb) (h1 : SQM lo wa ks S1) (h2 : PS wa kp t Px) (h3 : Only (fun b => lo ≤ b) w wa) => show SQM lo wb ks S1 ∧ PS wb kp t Px ∧ Only (fun b => lo ≤ b) w wb from ⟨h1.keep o (fun b hb' e => by have e' : b = kc := e; have := hb b hb'; omega), h2.keep o (fun e => kcp (Eq.symm e)), h3.trans o (fun b _ e => by have e' : b = kc := e; omega)⟩)
      have C1 := hide (sqname_any ht (unhide HPs))
      go_wp2_with fail
      refine (unhide C1).mono ?_
      rintro e w2 ⟨rfl, hh⟩
      have C2' := (unhide HC).keep hh.2 kcp
      have d0 : w2.cell? ⟨kc, 0, none⟩ = some (.string ⟨#[]⟩) := C2'.cell 0
      have g0 := C2'.free 0
      have kcl := C2'.lt
      obtain ⟨nv, hnv⟩ : ∃ x, nameV P1 = x := ⟨_, rfl⟩
      obtain ⟨P2, hP2⟩ : ∃ x, nameP P1 = x := ⟨_, rfl⟩
      rw [hnv]
      rw [hP2] at hh
      have HX := hide (unhide HSt w2 _ _ S (unhide HBl).1 (only1 (p := kc) 0 (.string nv)) ((unhide HM).byPar (unhide HPs) hh) hh.1 ((unhide HOn).trans hh.2 (fun b _ e => by have e' : b = kp := e; omega)))
      have HC3 := hide (show Has (w2.setCell ⟨kc, 0, none⟩ (.string nv)) kc #[.string nv, .bool false] 149 from C2'.setCell 0 _)
      have HNV := hide (And.intro hnv hP2)
      clear C1 hh C2' HM HPs HOn HC hnv hP2
      go_upto_region 17 with fail
      generalize w2.setCell ⟨kc, 0, none⟩ (.string nv) = w3 at *
      clear d0 g0 kcl
      have C2 := sqeat_any ht (unhide HX).2.1 wTEXT
      obtain ⟨bt, hbt⟩ : ∃ b, eatB wTEXT P2 = b := ⟨_, rfl⟩
      rw [hbt] at C2
      have Hbt := hide hbt
      have e2 : eatP wTEXT P2 = if bt = true then nextP P2 else P2 := by unfold eatP; rw [hbt]
      rw [e2] at C2
      unfold wTEXT at C2
      have C2 := hide C2
      clear hbt e2
      go_wp2_with fail
      refine (unhide C2).mono ?_
      rintro e w4 ⟨rfl, hh⟩
      have C4' := (unhide HC3).keep hh.2 kcp
      have d1 : w4.cell? ⟨kc, 1, none⟩ = some (.bool false) := C4'.cell 1
      have g1 := C4'.free 1
      have kcl := C4'.lt
      have HX4 := hide (unhide HSt w4 _ _ S (unhide HBl).1 (only1 (p := kc) 1 (.bool bt)) ((unhide HX).1.byPar (unhide HX).2.1 hh) hh.1 ((unhide HX).2.2.trans hh.2 (fun b _ e => by have e' : b = kp := e; omega)))
      have HC4 := hide (show Has (w4.setCell ⟨kc, 1, none⟩ (.bool bt)) kc #[.string nv, .bool bt] 149 from C4'.setCell 1 _)
      clear C2 hh C4' HX HC3
      go_upto_region 18 with fail
      generalize w4.setCell ⟨kc, 1, none⟩ (.bool bt) = w5 at *
      clear d1 g1 kcl
      have e1 : w5.cell? ⟨kc, 1, none⟩ = some (.bool bt) := (unhide HC4).cell 1
      have kcl5 := (unhide HC4).lt
      obtain ⟨P3, hP3⟩ : ∃ x, tyP P2 = x := ⟨_, rfl⟩
      have HP3 := hide hP3
      clear hP3
      go_upto_if 59 with fail
      go_cut [] from 59 to 61 (fun wx => PaP kp t P3 w5 wx)
      case first =>
        cases bt with
        | true =>
          have hp3 : nextP P2 = P3 := by rw [← unhide HP3]; unfold tyP; rw [unhide Hbt]; rfl
          have FF := hide (show PaP kp t P3 w5 w5 by rw [← hp3]; exact PaP.same (unhide HX4).2.1)
          clear hp3
          go_wp2_with fail
          go_meet
          exact unhide FF
        | false =>
          have hp3 : wantP wINT P2 = P3 := by rw [← unhide HP3]; unfold tyP; rw [unhide Hbt]; rfl
          have h5 : PS w5 kp t P2 := (unhide HX4).2.1
          have C := sqwant_any ht h5 wINT
          rw [hp3] at C
          unfold wINT at C
          have C := hide C
          clear hp3 h5
          go_wp2_with fail
          refine (unhide C).mono ?_
          rintro e6 w6 ⟨rfl, hh⟩
          have FF := hide hh
          clear hh C
          go_wp2_with fail
          go_meet
          exact unhide FF
      case rest =>
      generalize wc = w6 at *
      have HM6 := hide ((unhide HX4).1.byPar (unhide HX4).2.1 hcut)
      have HC6 := hide ((unhide HC4).keep hcut.2 kcp)
      have HOn6 := hide ((unhide HX4).2.2.trans hcut.2 (fun b _ e => by have e' : b = kp := e; omega))
      have C3 := sqeat_any ht hcut.1 wKEY
      obtain ⟨bk, hbk⟩ : ∃ b, eatB wKEY P3 = b := ⟨_, rfl⟩
      rw [hbk] at C3
      have Hbk := hide hbk
      have e2 : eatP wKEY P3 = if bk = true then nextP P3 else P3 := by unfold eatP; rw [hbk]
      have HPs6 := hide hcut.1
      obtain ⟨P4, hP4⟩ : ∃ x, eatP wKEY P3 = x := ⟨_, rfl⟩
      rw [hP4] at C3
      have HP4 := hide hP4
      unfold wKEY at C3
      have C3 := hide C3
      clear hcut HX4 HC4 e1 kcl5 hbk e2 hP4
      go_wp2_with fail
      refine (unhide C3).mono ?_
      rintro e w7 ⟨rfl, hh⟩
      have HM7 := hide ((unhide HM6).byPar (unhide HPs6) hh)
      have HC7 := hide ((unhide HC6).keep hh.2 kcp)
      have HOn7 := hide ((unhide HOn6).trans hh.2 (fun b _ e => by have e' : b = kp := e; omega))
      have HPs7 := hide hh.1
      clear C3 hh HM6 HC6 HOn6 HPs6
      -- the key's place
      obtain ⟨pk1, hpk1⟩ : ∃ x : Int, x = (if bk = true then (l.length : Int) else pkF 0 l st0.pk) := ⟨_, rfl⟩
      have Hpk1 := hide hpk1
      clear hpk1
      go_upto_if 63 with fail
      go_cut [4] from 63 to 73 (fun kv wx => kv = .int .i64 ((kn + (if bk = true then 1 else 0) : Nat) : Int) ∧ PS wx kp t P4 ∧ Has wx kc #[.string nv, .bool bt] 149 ∧ Only (fun b => lo ≤ b) w wx ∧ ∃ S1, SQM lo wx ks S1 ∧ SqOf S1 { st0 with defs := l.map (·.1), pk := pk1 } ∧ ∀ b, S1.B ks b → b < kc)
      case first =>
        cases bk with
        | false =>
          have FF := hide (show PS w7 kp t P4 ∧ Has w7 kc #[.string nv, .bool bt] 149 ∧ Only (fun b => lo ≤ b) w w7 ∧ ∃ S1, SQM lo w7 ks S1 ∧ SqOf S1 { st0 with defs := l.map (·.1), pk := pk1 } ∧ ∀ b, S1.B ks b → b < kc from ⟨unhide HPs7, unhide HC7, unhide HOn7, S, unhide HM7, by rw [unhide Hpk1]; exact (unhide HBl).2.1, (unhide HBl).1⟩)
          go_wp2_with fail
          go_meet
          exact ⟨by simp, unhide FF⟩
        | true =>
          have hM7 := unhide HM7
          have hln : S.ln 2 = l.length := by rw [(unhide HBl).2.1.x2.2]; simp
          have own2 := hM7.own 2 (by unfold sqj; omega)
          obtain ⟨a, cap, hcell⟩ := ownsRow_shape own2
          rw [hln] at hcell
          have z0 := hM7.cl (i := 2) (by omega)
          rw [hcell] at z0
          have z3 := hM7.cl (i := 3) (by omega)
          have zf3 := hM7.fr 3
          have kl7 := hM7.lt
          obtain ⟨ln, hlnn⟩ : ∃ n, l.length = n := ⟨_, rfl⟩
          rw [hlnn] at z0
          have o8 : Only (fun b => b = ks) w7 (w7.setCell ⟨ks, 3, none⟩ (.int .i64 (ln : Int))) := only1 _ _
          have hkks : kp ≠ ks := fun c => by
            obtain ⟨pc, hpc⟩ := (unhide HPs7).has
            exact hM7.par hpc ks (.inl rfl) c.symm
          have FF := hide (show PS (w7.setCell ⟨ks, 3, none⟩ (.int .i64 (ln : Int))) kp t P4 ∧ Has (w7.setCell ⟨ks, 3, none⟩ (.int .i64 (ln : Int))) kc #[.string nv, .bool bt] 149 ∧ Only (fun b => lo ≤ b) w (w7.setCell ⟨ks, 3, none⟩ (.int .i64 (ln : Int))) ∧ ∃ S1, SQM lo (w7.setCell ⟨ks, 3, none⟩ (.int .i64 (ln : Int))) ks S1 ∧ SqOf S1 { st0 with defs := l.map (·.1), pk := pk1 } ∧ ∀ b, S1.B ks b → b < kc from ⟨(unhide HPs7).keep o8 hkks, (unhide HC7).keep o8 (fun c => by have c' : kc = ks := c; omega), (unhide HOn7).trans o8 (fun b _ e => by have e' : b = ks := e; omega), S.setC 3 (.int .i64 (ln : Int)), hM7.setC (by unfold sqj; omega) _, by
            have e : pk1 = (ln : Int) := by rw [unhide Hpk1, hlnn]; rfl
            rw [e]
            exact (unhide HBl).2.1.pk_, fun b hb => (unhide HBl).1 b (by
              rcases hb with c | ⟨j, hj, c⟩
              · exact .inl c
              · have e : (S.setC 3 (.int .i64 (ln : Int))).cell j = S.cell j := if_neg (fun (c : j = 3) => by unfold sqj at hj; omega)
                rw [e] at c
                exact .inr ⟨j, hj, c⟩)⟩)
          have knb : (kn : Int) ≤ 1000 := by
            have h1 : kyN l ≤ l.length := List.length_filter_le _ _
            rw [unhide Hkn] at h1
            have h2 : l.length + P1.1.length + 1 ≤ 1000 := by simpa using (unhide HBl).2.2.1
            omega
          clear hM7 hln own2 hcell hlnn o8 hkks
          go_wp2_with fail
          go_meet
          exact ⟨by go_num, unhide FF⟩
      case rest =>
      obtain ⟨hkv, hPs, hC, hOn, S1, hM, hO, hBl⟩ := hcut
      obtain ⟨k2, hk2⟩ : ∃ n : Nat, kn + (if bk = true then 1 else 0) = n := ⟨_, rfl⟩
      rw [hk2] at hkv
      subst hkv
      have Hk2 := hide hk2
      clear hk2
      generalize wc = w8 at *
      clear HPs7 HC7 HOn7 HM7
      have hl1000 : l.length + P1.1.length + 1 ≤ 1000 := by simpa using (unhide HBl).2.2.1
      have own8 := hM.own 2 (by unfold sqj; omega)
      have hln : S1.ln 2 = l.length := by rw [hO.x2.2]; simp
      rw [hln] at own8
      obtain ⟨n, hnn⟩ : ∃ n, l.length = n := ⟨_, rfl⟩
      rw [hnn] at own8 hl1000
      obtain ⟨a, cap, hcell⟩ := ownsRow_shape own8
      have z0 := hM.cl (i := 2) (by omega)
      rw [hcell] at z0 own8
      have zf := hM.fr 2
      have kl8 := hM.lt
      have own1 : w8.ownsRow 0 149 2 (.slice a n cap) n (S1.xs 2) := own8
      have zne : (Value.slice a n cap).ownBlock ≠ some ks := fun c => hM.kne (j := 2) (by unfold sqj; omega) (by rw [hcell]; exact c) rfl
      have e0 : w8.cell? ⟨kc, 0, none⟩ = some (.string nv) := hC.cell 0
      have e1 : w8.cell? ⟨kc, 1, none⟩ = some (.bool bt) := hC.cell 1
      have kcl8 := hC.lt
      have oA : Only (fun _ => False) w8 ((w8.alloc (.cells #[.string nv, .bool bt] 149)).drew) := ((Only.refl _ w8).alloc _).drew
      have z1 := oA.cellS z0
      have z1f : ((w8.alloc (.cells #[.string nv, .bool bt] 149)).drew).frozen? ⟨ks, 2, none⟩ = false := oA.frS zf (fun e => e) kl8
      have l5 : n + 1 ≤ maxLen := by unfold maxLen; omega
      have hlo8 : lo ≤ w8.heap.size := by omega
      have HX8 := hide (And.intro hM (And.intro hPs (And.intro hOn (And.intro hO hcell))))
      have HPP : Hid (∀ (gg cap3 : Nat) (w9 : World), w9.ownsRow 0 149 2 (.slice (some ⟨gg, 0, none⟩) (n + 1) cap3) (n + 1) (S1.xs 2 ++ [.string nv, .bool bt]) → ((w8.alloc (.cells #[.string nv, .bool bt] 149)).drew).grownBy w9 (Value.slice a n cap).ownBlock → ((Value.slice a n cap).ownBlock = some gg ∨ gg = w8.heap.size + 1) → QP lo (w9.setCell ⟨ks, 2, none⟩ (.slice (some ⟨gg, 0, none⟩) (n + 1) cap3)) kp ks t P4 { st0 with defs := l.map (·.1) ++ [(nv, bt)], pk := pk1 } ∧ Only (fun b => lo ≤ b) w (w9.setCell ⟨ks, 2, none⟩ (.slice (some ⟨gg, 0, none⟩) (n + 1) cap3))) := hide (fun gg cap3 w9 h1 h2 h3 => by
        obtain ⟨hM, hPs, hOn, hO, hcell⟩ := unhide HX8
        have p := hM.push (j := 2) (by unfold sqj; omega) (es := [.string nv, .bool bt]) (n := n + 1) oA h1 (by rw [hcell]; exact h2) (fun b hb => by
          simp [Value.ownBlock] at hb
          subst hb
          rw [hcell]
          exact h3.imp id (fun c => by omega)) hlo8
        obtain ⟨cc, hcc⟩ := hPs.has
        have hk : ¬ S1.U ks 2 kp := fun c => by
          rcases c with c | c
          · exact hM.par hcc ks (.inl rfl) c.symm
          · exact hM.par hcc kp (.inr ⟨2, by unfold sqj; omega, c⟩) rfl
        exact ⟨⟨hPs.keep p.2 hk, hlp, _, p.1, SqOf.defs_ (st := { st0 with pk := pk1 }) hO (c := (nv, bt)) (by rw [List.length_map, hnn])⟩, hOn.trans p.2 (fun b _ c => hM.ulo (by unfold sqj; omega) b c)⟩)
      have Hnn := hide hnn
      clear hM own8 hln hcell hnn hPs hC hOn hO hBl
      go_upto_region 23 with fail
      go_region_law
        ((refine step_append_lies _ (by rfl) _ _ _ (by rfl) 0 149 i0 _ 2 24 Tryz.underlying77 hi0 hz0 hy0 hb0 rfl (by omega) (.slice a n cap) n (S1.xs 2) (by rfl) ((own1.alloc _).drew) ⟨w8.heap.size, 0, none⟩ 1 1 [.string nv, .bool bt] (by rfl) (by rfl) (World.news_of_block (cs := #[.string nv, .bool bt]) (t := 149) (fr := (0, 0)) (heap_alloc_new w8 _)) (by simp [Value.oneCell']) (by omega) l5 (by omega) (by simp) (w8.heap.size + 1) (by simp) ?_; intro gg cap3 w9 hown1 hgrow hat hlt3; have y3 := (hgrow.cell_far ⟨ks, 2, none⟩ (by simp; omega) (Ne.symm zne)).trans z1; have yz := (hgrow.frozen_far ⟨ks, 2, none⟩ (by simp; omega) (Ne.symm zne)).trans z1f))
      all_goals
        have HQ9 := hide (unhide HPP gg cap3 w9 hown1 hgrow hat)
        clear hown1 hgrow hat hlt3 HPP z0 zf own1 zne z1 z1f oA e0 e1
        go_upto_region 14 with fail
        clear y3 yz
        generalize w9.setCell ⟨ks, 2, none⟩ (.slice (some ⟨gg, 0, none⟩) (n + 1) cap3) = wA at *
        have C5 := sqeat_any ht (unhide HQ9).1.ps wCOMMA
        obtain ⟨b5, hb5⟩ : ∃ b, eatB wCOMMA P4 = b := ⟨_, rfl⟩
        rw [hb5] at C5
        have Hb5 := hide hb5
        unfold wCOMMA at C5
        have C5 := hide C5
        clear hb5
        go_wp2_with fail
        refine (unhide C5).mono ?_
        rintro e5 wB ⟨rfl, hh⟩
        have HEnd : Hid (∃ gk' : Nat, gk' < gk ∧ TdI w lo kp ks t st0 R gk' (.int .i64 (k2 : Int)) (.bool b5) wB) := hide (by
          rw [← unhide Hk2]
          obtain ⟨hB, hO, hlen, hR, hgk⟩ := unhide HBl
          have hcol : colL P1 = (P4, ((nv, bt), bk)) := by
            unfold colL
            rw [(unhide HNV).2, (unhide HNV).1, unhide HP3, unhide Hbk, unhide HP4, unhide Hbt]
          have hkn : kyN (l ++ [((nv, bt), bk)]) = kn + (if bk = true then 1 else 0) := by rw [kyN_snoc, unhide Hkn]
          have hpk : pkF 0 (l ++ [((nv, bt), bk)]) st0.pk = pk1 := by rw [pkF_snoc, unhide Hpk1]; simp
          have hq : QP lo wB kp ks t (eatP wCOMMA P4) { st0 with defs := (l ++ [((nv, bt), bk)]).map (·.1), pk := pkF 0 (l ++ [((nv, bt), bk)]) st0.pk } := by
            rw [hpk, List.map_append]
            exact (unhide HQ9).1.par hh
          have hon := (unhide HQ9).2.trans hh.2 (fun b _ e => by have e' : b = kp := e; omega)
          have hstep := listP_step (sep := wCOMMA) colL_len P1 l
          rw [hcol] at hstep
          simp only at hstep
          have hR : R = listP colL wCOMMA P1 l := by simpa using hR
          have hgk : 2 * P1.1.length + 1 ≤ gk := by simpa using hgk
          have hlen : l.length + P1.1.length + 1 ≤ 1000 := by simpa using hlen
          rw [hstep] at hR
          have hlen4 : P4.1.length ≤ P1.1.length := by
            have := colL_len P1
            rw [hcol] at this
            exact this
          have e1 : eatP wCOMMA P4 = if b5 = true then nextP P4 else P4 := by unfold eatP; rw [unhide Hb5]
          rw [e1] at hq
          cases b5 with
          | true =>
            rw [unhide Hb5, if_pos rfl] at hR
            have e2 := eat_len (unhide Hb5)
            rw [if_pos rfl] at hq
            exact ⟨2 * (nextP P4).1.length + 1, by omega, true, nextP P4, l ++ [((nv, bt), bk)], rfl, by rw [hkn], hq, by simp; omega, by rw [if_pos rfl]; exact hR, hon, by simp⟩
          | false =>
            rw [unhide Hb5, if_neg (by decide : ¬ (false = true))] at hR
            rw [if_neg (by decide : ¬ (false = true))] at hq
            exact ⟨2 * P4.1.length, by omega, false, P4, l ++ [((nv, bt), bk)], rfl, by rw [hkn], hq, by simp; omega, by rw [if_neg (by decide : ¬ (false = true))]; exact hR, hon, by simp⟩)
        clear C5 hh
        go_wp2_with fail
        obtain ⟨gk', hg', hI⟩ := unhide HEnd
        go_roundg gk'
        case measure => exact hg'
        case rel => exact hI
end
end Go.Proofs.Qxb6500412aGreat
