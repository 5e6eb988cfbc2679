/-
  OWN WORK. QUERY: the parser: updates (written by tools/gen_s10.py after S9).
-/
import Derived.Test.Qxb6500412aGreatS9
namespace Go.Proofs.Qxb6500412aGreat
open Go.RowKit Go.PlainAid
set_option linter.unusedSimpArgs false
set_option linter.unusedVariables false

def wEQ : ByteArray := ⟨#[61]⟩
def wSET : ByteArray := ⟨#[83, 69, 84]⟩
/-- name = lit. -/
def setP (P : Ps) : Ps × Cm := (litP (wantP wEQ (nameP P)), ⟨nameV P, 2, litV (wantP wEQ (nameP P))⟩)
theorem setP_len (P : Ps) : (setP P).1.1.length ≤ P.1.length := Nat.le_trans (litP_len _) (Nat.le_trans (wantP_len _ _) (nameP_len P))
def updP (P : Ps) (st : St) : Ps × St := whereP (listP setP wCOMMA (wantP wSET (nameP P)) st.sets).1 { st with kind := 9, table := nameV P, sets := (listP setP wCOMMA (wantP wSET (nameP P)) st.sets).2 }
section
variable {lo : Nat} {w w' : World} {kp ks : Nat} {t : ByteArray} {P : Ps} {st st' : St} {S : Sq}
/-- A field's cell. -/
theorem QP.at_ (h : QP lo w kp ks t P st) {i : Nat} (hi : i < 13) : ∃ v, w.cell? ⟨ks, i, none⟩ = some v ∧ w.frozen? ⟨ks, i, none⟩ = false ∧ ks < w.heap.size := by
  obtain ⟨S, h1, h2⟩ := h.sq
  exact ⟨_, h1.cl hi, h1.fr i, h1.lt⟩
/-- A field set. -/
theorem QP.set (h : QP lo w kp ks t P st) {i : Nat} {v : Value} (hi : ¬ sqj i) (hs : ∀ S, SqOf S st → SqOf (S.setC i v) st') : QpP lo kp ks t P st' w (w.setCell ⟨ks, i, none⟩ v) := by
  obtain ⟨S, h1, h2⟩ := h.sq
  have o : Only (fun b => b = ks) w (w.setCell ⟨ks, i, none⟩ v) := only1 _ _
  exact ⟨h.sen (h1.setC hi v) (hs S h2) o (fun c => h.kne c), o.mono (fun b _ e => by have e' : b = ks := e; rw [e']; exact h.klt.2.2)⟩
theorem SqOf.kind_ {v : Int} (h : SqOf S st) : SqOf (S.setC 0 (.int .i64 v)) { st with kind := v } := ⟨rfl, h.k1, h.x2, h.k3, h.x4, h.k5, h.x6, h.x7, h.x8, h.k9, h.k10, h.k11, h.k12⟩
theorem SqOf.table_ {v : ByteArray} (h : SqOf S st) : SqOf (S.setC 1 (.string v)) { st with table := v } := ⟨h.k0, rfl, h.x2, h.k3, h.x4, h.k5, h.x6, h.x7, h.x8, h.k9, h.k10, h.k11, h.k12⟩
theorem SqOf.pk_ {v : Int} (h : SqOf S st) : SqOf (S.setC 3 (.int .i64 v)) { st with pk := v } := ⟨h.k0, h.k1, h.x2, rfl, h.x4, h.k5, h.x6, h.x7, h.x8, h.k9, h.k10, h.k11, h.k12⟩
theorem SqOf.star_ {v : Bool} (h : SqOf S st) : SqOf (S.setC 5 (.bool v)) { st with star := v } := ⟨h.k0, h.k1, h.x2, h.k3, h.x4, rfl, h.x6, h.x7, h.x8, h.k9, h.k10, h.k11, h.k12⟩
theorem SqOf.order_ {v : ByteArray} (h : SqOf S st) : SqOf (S.setC 9 (.string v)) { st with order := v } := ⟨h.k0, h.k1, h.x2, h.k3, h.x4, h.k5, h.x6, h.x7, h.x8, rfl, h.k10, h.k11, h.k12⟩
theorem SqOf.desc_ {v : Bool} (h : SqOf S st) : SqOf (S.setC 10 (.bool v)) { st with desc := v } := ⟨h.k0, h.k1, h.x2, h.k3, h.x4, h.k5, h.x6, h.x7, h.x8, h.k9, rfl, h.k11, h.k12⟩
theorem SqOf.hasL_ {v : Bool} (h : SqOf S st) : SqOf (S.setC 11 (.bool v)) { st with hasL := v } := ⟨h.k0, h.k1, h.x2, h.k3, h.x4, h.k5, h.x6, h.x7, h.x8, h.k9, h.k10, rfl, h.k12⟩
theorem SqOf.lim_ {v : Int} (h : SqOf S st) : SqOf (S.setC 12 (.int .i64 v)) { st with lim := v } := ⟨h.k0, h.k1, h.x2, h.k3, h.x4, h.k5, h.x6, h.x7, h.x8, h.k9, h.k10, h.k11, rfl⟩
theorem SqOf.sets_ {l : List Cm} {c : Cm} {v : Value} {n : Nat} (h : SqOf S { st with sets := l }) (hn : n = l.length + 1) : SqOf (S.setL 7 v (S.xs 7 ++ cmC c) n) { st with sets := l ++ [c] } := by
  refine ⟨h.k0, h.k1, h.x2, h.k3, h.x4, h.k5, h.x6, ⟨?_, ?_⟩, h.x8, h.k9, h.k10, h.k11, h.k12⟩
  · show S.xs 7 ++ cmC c = cmcs (l ++ [c])
    rw [h.x7.1, cmcs_app]
    simp [cmcs]
  · show n = (l ++ [c]).length
    rw [hn]; simp
/-- A parser's method, a field set. -/
theorem QpP.trans {P' P2 : Ps} {st2 : St} {w2 : World} (h : QpP lo kp ks t P' st' w w') (h2 : QpP lo kp ks t P2 st2 w' w2) : QpP lo kp ks t P2 st2 w w2 := ⟨h2.1, h.2.trans h2.2 (fun _ _ e => e)⟩
theorem QP.parP {P' : Ps} (h : QP lo w kp ks t P st) (hp : PaP kp t P' w w') : QpP lo kp ks t P' st w w' := ⟨h.par hp, hp.2.mono (fun b _ e => by have e' : b = kp := e; rw [e']; exact h.lp)⟩
set_option maxRecDepth 100000 in
set_option maxHeartbeats 8000000 in
theorem squpdates_any (ht : t.size ≤ 256) (h : QP lo w kp ks t P st) (hl : st.sets.length + P.1.length + 1 ≤ 1000) (hl2 : st.wh.length + P.1.length ≤ 1000) : Calls Tryz.prog 218 #[.pointer (some ⟨kp, 0, none⟩), .pointer (some ⟨ks, 0, none⟩)] w fun e w' => e = .returned (.tuple #[]) ∧ QpP lo kp ks t (updP P st).1 (updP P st).2 w w' := by
  obtain ⟨i0, hi0, hz0, hy0, hb0⟩ := info_parts Tryz.infoSQCmp
  obtain ⟨v0, c0, f0, kl⟩ := h.at_ (i := 0) (by omega)
  have H1 := hide (h.set (i := 0) (v := .int .i64 9) (by unfold sqj; omega) (fun S hS => hS.kind_))
  obtain ⟨st0, hst0⟩ : ∃ s, s = { st with kind := 9, table := nameV P } := ⟨_, rfl⟩
  obtain ⟨Pa, hPa⟩ : ∃ x, wantP wSET (nameP P) = x := ⟨_, rfl⟩
  obtain ⟨R, hR⟩ : ∃ R, R = listP setP wCOMMA Pa st0.sets := ⟨_, rfl⟩
  have hU : updP P st = whereP R.1 { st0 with sets := R.2 } := by
    rw [hR, hst0, ← hPa]
    rfl
  rw [hU]
  have hPl : Pa.1.length ≤ P.1.length := by rw [← hPa]; exact Nat.le_trans (wantP_len _ _) (nameP_len P)
  have HL := hide (show st0.sets.length + Pa.1.length + 1 ≤ 1000 ∧ Pa.1.length ≤ P.1.length by rw [hst0]; exact ⟨(by show st.sets.length + Pa.1.length + 1 ≤ 1000; omega), hPl⟩)
  have HWl := hide (show st0.wh.length + P.1.length ≤ 1000 by rw [hst0]; exact hl2)
  have HRl := hide (show R.1.1.length ≤ P.1.length by rw [hR]; exact Nat.le_trans (listP_len setP_len _ _ _).1 hPl)
  have HR := hide hR
  have Hs := hide (And.intro hst0 hPa)
  clear h hl hl2 hU hPl hR hst0 hPa
  go_enter Tryz.func218, Tryz.ntmps218
  go_upto_region 1 with fail
  generalize w.setCell ⟨ks, 0, none⟩ (.int .i64 9) = w1 at *
  clear c0 f0 kl
  have C1 := hide (sqname_any ht (unhide H1).1.ps)
  go_wp2_with fail
  refine (unhide C1).mono ?_
  rintro e w2 ⟨rfl, hh⟩
  have q2 := (unhide H1).trans ((unhide H1).1.parP hh)
  obtain ⟨v1, c1, f1, kl⟩ := q2.1.at_ (i := 1) (by omega)
  have H3 := hide (q2.trans (q2.1.set (i := 1) (v := .string (nameV P)) (by unfold sqj; omega) (fun S hS => hS.table_)))
  generalize nameV P = nm0 at *
  clear C1 hh q2 H1
  go_upto_region 2 with fail
  generalize w2.setCell ⟨ks, 1, none⟩ (.string nm0) = w3 at *
  clear c1 f1 kl
  have C2 := sqwant_any ht (unhide H3).1.ps wSET
  rw [(unhide Hs).2] at C2
  unfold wSET at C2
  have C2 := hide C2
  go_wp2_with fail
  refine (unhide C2).mono ?_
  rintro e w4 ⟨rfl, hh⟩
  have HS3 := hide (show QP lo w4 kp ks t Pa { st0 with sets := st0.sets } ∧ Only (fun b => lo ≤ b) w w4 ∧ Pa.1.length ≤ P.1.length from by
    have q := (unhide H3).trans ((unhide H3).1.parP hh)
    refine ⟨?_, q.2, (unhide HL).2⟩
    have e : ({ st0 with sets := st0.sets } : St) = st0 := rfl
    rw [e, (unhide Hs).1]
    exact q.1)
  clear C2 hh H3
  go_upto_region 4 with fail
  go_loopg [4, 5] (2 * P.1.length + 2) (fun gk mv _ wr => ∃ (m : Bool) (P1 : Ps) (l : List Cm), mv = .bool m ∧ QP lo wr kp ks t P1 { st0 with sets := l } ∧ l.length + P1.1.length + (if m = true then 1 else 0) ≤ 1000 ∧ R = (if m = true then listP setP wCOMMA P1 l else (P1, l)) ∧ Only (fun b => lo ≤ b) w wr ∧ 2 * P1.1.length + (if m = true then 1 else 0) ≤ gk)
  case atStart =>
    have hh := unhide HS3
    exact ⟨true, Pa, st0.sets, rfl, hh.1, by have := unhide HL; simp; omega, by rw [if_pos rfl]; exact unhide HR, hh.2.1, by have := hh.2.2; simp; omega⟩
  case round =>
    clear HS3
    obtain ⟨m, P1, l, rfl, hQ, hlen, hR, oW, hgk⟩ := hrel
    cases m with
    | false =>
      have hR' : R = (P1, l) := by simpa using hR
      have CW := sqwhere_any ht hQ (by have := unhide HL; have := unhide HWl; have e : ({ st0 with sets := l } : St).wh = st0.wh := rfl; rw [e]; have h9 : P1.1.length ≤ P.1.length := (by have h7 := unhide HRl; rw [hR'] at h7; exact h7); omega)
      have HW := hide (And.intro hR' oW)
      have CW := hide CW
      clear hQ hR oW hR'
      go_wp2_with fail
      refine (unhide CW).mono ?_
      rintro e9 w9 ⟨rfl, hh⟩
      have FF := hide (show QpP lo kp ks t (whereP R.1 { st0 with sets := R.2 }).1 (whereP R.1 { st0 with sets := R.2 }).2 w w9 by rw [(unhide HW).1]; exact ⟨hh.1, (unhide HW).2.trans hh.2 (fun _ _ e => e)⟩)
      clear hh CW
      go_wp2_with fail
      go_end0
      exact ⟨rfl, unhide FF⟩
    | true =>
      obtain ⟨S, hM, hO⟩ := hQ.sq
      have hlp := hQ.lp
      have klt := hQ.klt
      have oC : Only (fun _ => False) wr (wr.alloc (.cells #[.string ⟨#[]⟩, .int .i64 2, .bool false, .int .i64 0, .string ⟨#[]⟩] 300)) := (Only.refl _ wr).alloc _
      have HC := hide (Has.new wr #[.string ⟨#[]⟩, .int .i64 2, .bool false, .int .i64 0, .string ⟨#[]⟩] 300)
      have HM := hide (hM.quiet oC)
      have HPs := hide (hQ.ps.keep oC (fun e => e))
      have HOn := hide (oW.trans (oC.mono (fun _ _ e => e.elim)) (fun _ _ e => e))
      have HBl := hide (And.intro hM.blt (And.intro hO (And.intro hlen (And.intro hR hgk))))
      have hlo := hQ.lo_
      clear hM hO hQ oC oW hR hlen hgk
      go_upto_region 7 with fail
      generalize wr.alloc (.cells #[.string ⟨#[]⟩, .int .i64 2, .bool false, .int .i64 0, .string ⟨#[]⟩] 300) = w1 at *
      generalize hkc : wr.heap.size = kc at *
      clear hkc
      have C1 := hide (sqname_any ht (unhide HPs))
      go_wp2_with fail
      refine (unhide C1).mono ?_
      rintro e w2 ⟨rfl, hh⟩
      have kcp : kc ≠ kp := by omega
      have C2' := (unhide HC).keep hh.2 kcp
      have HM2 := hide ((unhide HM).byPar (unhide HPs) hh)
      have HPs2 := hide hh.1
      have HOn2 := hide ((unhide HOn).trans hh.2 (fun b _ e => by have e' : b = kp := e; omega))
      have d0 : w2.cell? ⟨kc, 0, none⟩ = some (.string ⟨#[]⟩) := C2'.cell 0
      have g0 := C2'.free 0
      have kcl := C2'.lt
      -- a store into the comparison's own block
      have HSt := hide (fun (wa wb : World) (Px : Ps) (o : Only (fun b => b = kc) wa wb) (h1 : SQM lo wa ks S) (h2 : PS wa kp t Px) (h3 : Only (fun b => lo ≤ b) w wa) => show SQM lo wb ks S ∧ PS wb kp t Px ∧ Only (fun b => lo ≤ b) w wb from ⟨h1.keep o (fun b hb e => by have e' : b = kc := e; have := (unhide HBl).1 b hb; omega), h2.keep o (fun e => kcp (Eq.symm e)), h3.trans o (fun b _ e => by have e' : b = kc := e; omega)⟩)
      have HX := hide (unhide HSt w2 _ _ (only1 (p := kc) 0 (.string (nameV P1))) (unhide HM2) (unhide HPs2) (unhide HOn2))
      have HC3 := hide (show Has (w2.setCell ⟨kc, 0, none⟩ (.string (nameV P1))) kc #[.string (nameV P1), .int .i64 2, .bool false, .int .i64 0, .string ⟨#[]⟩] 300 from C2'.setCell 0 _)
      clear C1 hh C2' HM HPs HOn HC HM2 HPs2 HOn2
      obtain ⟨nv, hnv⟩ : ∃ x, nameV P1 = x := ⟨_, rfl⟩
      obtain ⟨P2, hP2⟩ : ∃ x, nameP P1 = x := ⟨_, rfl⟩
      rw [hnv] at HX HC3 ⊢
      rw [hP2] at HX
      have HNV := hide (And.intro hnv hP2)
      clear hnv hP2
      go_upto_region 8 with fail
      generalize w2.setCell ⟨kc, 0, none⟩ (.string nv) = w5 at *
      clear d0 g0
      have C2 := sqwant_any ht (unhide HX).2.1 wEQ
      obtain ⟨P3, hP3⟩ : ∃ x, wantP wEQ P2 = x := ⟨_, rfl⟩
      rw [hP3] at C2
      have HP3 := hide hP3
      unfold wEQ at C2
      have C2 := hide C2
      have HX4 := hide (unhide HX)
      have HC4 := hide (unhide HC3)
      clear hP3 HX HC3
      go_wp2_with fail
      refine (unhide C2).mono ?_
      rintro e1 w6 ⟨rfl, hcut⟩
      clear C2
      have HM6 := hide ((unhide HX4).1.byPar (unhide HX4).2.1 hcut)
      have HC6 := hide ((unhide HC4).keep hcut.2 kcp)
      have HOn6 := hide ((unhide HX4).2.2.trans hcut.2 (fun b _ e => by have e' : b = kp := e; omega))
      have C3 := sqlit_any ht hcut.1
      have HPs6 := hide hcut.1
      obtain ⟨lv, hlv⟩ : ∃ x, litV P3 = x := ⟨_, rfl⟩
      obtain ⟨P4, hP4⟩ : ∃ x, litP P3 = x := ⟨_, rfl⟩
      rw [hlv, hP4] at C3
      unfold vlA at C3
      have HLV := hide (And.intro hlv hP4)
      have C3 := hide C3
      clear hcut HX4 HC4 hlv hP4
      go_wp2_with fail
      refine (unhide C3).mono ?_
      rintro e2 w7 ⟨rfl, hh⟩
      have C7' := (unhide HC6).keep hh.2 kcp
      have HM7 := hide ((unhide HM6).byPar (unhide HPs6) hh)
      have HOn7 := hide ((unhide HOn6).trans hh.2 (fun b _ e => by have e' : b = kp := e; omega))
      have d2 : w7.cell? ⟨kc, 2, none⟩ = some (.bool false) := C7'.cell 2
      have d3 : w7.cell? ⟨kc, 3, none⟩ = some (.int .i64 0) := C7'.cell 3
      have d4 : w7.cell? ⟨kc, 4, none⟩ = some (.string ⟨#[]⟩) := C7'.cell 4
      have g2 := C7'.free 2
      have g3 := C7'.free 3
      have g4 := C7'.free 4
      have kcl7 := C7'.lt
      have o8 : Only (fun b => b = kc) w7 (((w7.setCell ⟨kc, 2, none⟩ (.bool lv.str)).setCell ⟨kc, 3, none⟩ (.int .i64 lv.i)).setCell ⟨kc, 4, none⟩ (.string lv.s)) := ((only1 (p := kc) _ _).trans (only1 (p := kc) _ _) (fun _ _ h => h)).trans (only1 (p := kc) _ _) (fun _ _ h => h)
      have HX8 := hide (unhide HSt w7 _ _ o8 (unhide HM7) hh.1 (unhide HOn7))
      have HC8 := hide (show Has (((w7.setCell ⟨kc, 2, none⟩ (.bool lv.str)).setCell ⟨kc, 3, none⟩ (.int .i64 lv.i)).setCell ⟨kc, 4, none⟩ (.string lv.s)) kc #[.string nv, .int .i64 2, .bool lv.str, .int .i64 lv.i, .string lv.s] 300 from ((C7'.setCell 2 _).setCell 3 _).setCell 4 _)
      clear C3 hh C7' HM6 HC6 HOn6 HPs6 HM7 HOn7 o8
      go_upto_region 10 with fail
      generalize ((w7.setCell ⟨kc, 2, none⟩ (.bool lv.str)).setCell ⟨kc, 3, none⟩ (.int .i64 lv.i)).setCell ⟨kc, 4, none⟩ (.string lv.s) = w8 at *
      clear d2 d3 d4 g2 g3 g4 kcl7
      have hM8 := (unhide HX8).1
      have own8 := hM8.own 7 (by unfold sqj; omega)
      have hln : S.ln 7 = l.length := (unhide HBl).2.1.x7.2
      rw [hln] at own8
      have hl1000 : l.length + P1.1.length + 1 ≤ 1000 := by simpa using (unhide HBl).2.2.1
      obtain ⟨n, hnn⟩ : ∃ n, l.length = n := ⟨_, rfl⟩
      rw [hnn] at own8 hl1000
      obtain ⟨a, cap, hcell⟩ := ownsRow_shape own8
      have z0 := hM8.cl (i := 7) (by omega)
      rw [hcell] at z0 own8
      have zf := hM8.fr 7
      have kl8 := hM8.lt
      have own1 : w8.ownsRow 0 300 5 (.slice a n cap) n (S.xs 7) := own8
      have zne : (Value.slice a n cap).ownBlock ≠ some ks := fun c => hM8.kne (j := 7) (by unfold sqj; omega) (by rw [hcell]; exact c) rfl
      have e0 : w8.cell? ⟨kc, 0, none⟩ = some (.string nv) := (unhide HC8).cell 0
      have e1 : w8.cell? ⟨kc, 1, none⟩ = some (.int .i64 2) := (unhide HC8).cell 1
      have e2 : w8.cell? ⟨kc, 2, none⟩ = some (.bool lv.str) := (unhide HC8).cell 2
      have e3 : w8.cell? ⟨kc, 3, none⟩ = some (.int .i64 lv.i) := (unhide HC8).cell 3
      have e4 : w8.cell? ⟨kc, 4, none⟩ = some (.string lv.s) := (unhide HC8).cell 4
      have kcl8 := (unhide HC8).lt
      have oA : Only (fun _ => False) w8 ((w8.alloc (.cells #[.string nv, .int .i64 2, .bool lv.str, .int .i64 lv.i, .string lv.s] 300)).drew) := ((Only.refl _ w8).alloc _).drew
      have z1 := oA.cellS z0
      have z1f : ((w8.alloc (.cells #[.string nv, .int .i64 2, .bool lv.str, .int .i64 lv.i, .string lv.s] 300)).drew).frozen? ⟨ks, 7, none⟩ = false := oA.frS zf (fun e => e) kl8
      have l5 : n + 1 ≤ maxLen := by unfold maxLen; omega
      have hlo8 : lo ≤ w8.heap.size := by omega
      have HPP : Hid (∀ (gg cap3 : Nat) (w9 : World), w9.ownsRow 0 300 5 (.slice (some ⟨gg, 0, none⟩) (n + 1) cap3) (n + 1) (S.xs 7 ++ [.string nv, .int .i64 2, .bool lv.str, .int .i64 lv.i, .string lv.s]) → ((w8.alloc (.cells #[.string nv, .int .i64 2, .bool lv.str, .int .i64 lv.i, .string lv.s] 300)).drew).grownBy w9 (Value.slice a n cap).ownBlock → ((Value.slice a n cap).ownBlock = some gg ∨ gg = w8.heap.size + 1) → QP lo (w9.setCell ⟨ks, 7, none⟩ (.slice (some ⟨gg, 0, none⟩) (n + 1) cap3)) kp ks t P4 { st0 with sets := l ++ [⟨nv, 2, lv⟩] } ∧ Only (fun b => lo ≤ b) w (w9.setCell ⟨ks, 7, none⟩ (.slice (some ⟨gg, 0, none⟩) (n + 1) cap3))) := hide (fun gg cap3 w9 h1 h2 h3 => by
        have p := (unhide HX8).1.push (j := 7) (by unfold sqj; omega) (es := cmC ⟨nv, 2, lv⟩) (n := n + 1) oA h1 (by rw [hcell]; exact h2) (fun b hb => by
          simp [Value.ownBlock] at hb
          subst hb
          rw [hcell]
          exact h3.imp id (fun c => by omega)) hlo8
        obtain ⟨cc, hcc⟩ := (unhide HX8).2.1.has
        have hk : ¬ S.U ks 7 kp := fun c => by
          rcases c with c | c
          · exact hM8.par hcc ks (.inl rfl) c.symm
          · exact hM8.par hcc kp (.inr ⟨7, by unfold sqj; omega, c⟩) rfl
        exact ⟨⟨(unhide HX8).2.1.keep p.2 hk, hlp, _, p.1, (unhide HBl).2.1.sets_ (by rw [hnn])⟩, (unhide HX8).2.2.trans p.2 (fun b _ c => (unhide HX8).1.ulo (by unfold sqj; omega) b c)⟩)
      have Hnn := hide hnn
      clear hM8 own8 hln hcell hnn
      go_region_law
        ((refine step_append_lies _ (by rfl) _ _ _ (by rfl) 0 300 i0 _ 5 56 Tryz.underlying171 hi0 hz0 hy0 hb0 rfl (by omega) (.slice a n cap) n (S.xs 7) (by rfl) ((own1.alloc _).drew) ⟨w8.heap.size, 0, none⟩ 1 1 [.string nv, .int .i64 2, .bool lv.str, .int .i64 lv.i, .string lv.s] (by rfl) (by rfl) (World.news_of_block (cs := #[.string nv, .int .i64 2, .bool lv.str, .int .i64 lv.i, .string lv.s]) (t := 300) (fr := (0, 0)) (heap_alloc_new w8 _)) (by simp [Value.oneCell']) (by omega) l5 (by omega) (by simp) (w8.heap.size + 1) (by simp) ?_; intro gg cap3 w9 hown1 hgrow hat hlt3; have y3 := (hgrow.cell_far ⟨ks, 7, none⟩ (by simp; omega) (Ne.symm zne)).trans z1; have yz := (hgrow.frozen_far ⟨ks, 7, none⟩ (by simp; omega) (Ne.symm zne)).trans z1f))
      all_goals
        have HQ9 := hide (unhide HPP gg cap3 w9 hown1 hgrow hat)
        clear hown1 hgrow hat hlt3 HPP z0 zf own1 zne z1 z1f oA e0 e1 e2 e3 e4
        go_upto_region 5 with fail
        clear y3 yz
        generalize w9.setCell ⟨ks, 7, none⟩ (.slice (some ⟨gg, 0, none⟩) (n + 1) cap3) = wA at *
        have C5 := sqeat_any ht (unhide HQ9).1.ps wCOMMA
        obtain ⟨b5, hb5⟩ : ∃ b, eatB wCOMMA P4 = b := ⟨_, rfl⟩
        rw [hb5] at C5
        have Hb5 := hide hb5
        unfold wCOMMA at C5
        have C5 := hide C5
        clear hb5
        go_wp2_with fail
        refine (unhide C5).mono ?_
        rintro e5 wB ⟨rfl, hh⟩
        have HEnd : Hid (∃ (m : Bool) (P1' : Ps) (l' : List Cm), (Value.bool b5 : Value) = .bool m ∧ QP lo wB kp ks t P1' { st0 with sets := l' } ∧ l'.length + P1'.1.length + (if m = true then 1 else 0) ≤ 1000 ∧ R = (if m = true then listP setP wCOMMA P1' l' else (P1', l')) ∧ Only (fun b => lo ≤ b) w wB ∧ 2 * P1'.1.length + (if m = true then 1 else 0) < gk) := hide (by
          obtain ⟨hB, hO, hlen, hR, hgk⟩ := unhide HBl
          have hq : QP lo wB kp ks t (eatP wCOMMA P4) { st0 with sets := l ++ [⟨nv, 2, lv⟩] } := (unhide HQ9).1.par hh
          have hon := (unhide HQ9).2.trans hh.2 (fun b _ e => by have e' : b = kp := e; omega)
          have hcmp : setP P1 = (P4, ⟨nv, 2, lv⟩) := by
            unfold setP
            rw [(unhide HNV).2, unhide HP3, (unhide HLV).1, (unhide HLV).2, (unhide HNV).1]
          have hstep := listP_step (sep := wCOMMA) setP_len P1 l
          rw [hcmp] at hstep
          simp only at hstep
          have hR : R = listP setP wCOMMA P1 l := by simpa using hR
          have hgk : 2 * P1.1.length + 1 ≤ gk := by simpa using hgk
          have hlen : l.length + P1.1.length + 1 ≤ 1000 := by simpa using hlen
          rw [hstep] at hR
          have hlen4 : P4.1.length ≤ P1.1.length := by
            have := setP_len P1
            rw [hcmp] at this
            exact this
          have e1 : eatP wCOMMA P4 = if b5 = true then nextP P4 else P4 := by unfold eatP; rw [unhide Hb5]
          rw [e1] at hq
          cases b5 with
          | true =>
            rw [unhide Hb5, if_pos rfl] at hR
            have e2 := eat_len (unhide Hb5)
            rw [if_pos rfl] at hq
            exact ⟨true, nextP P4, l ++ [⟨nv, 2, lv⟩], rfl, hq, by simp; omega, by rw [if_pos rfl]; exact hR, hon, by simp; omega⟩
          | false =>
            rw [unhide Hb5, if_neg (by decide : ¬ (false = true))] at hR
            rw [if_neg (by decide : ¬ (false = true))] at hq
            exact ⟨false, P4, l ++ [⟨nv, 2, lv⟩], rfl, hq, by simp; omega, by rw [if_neg (by decide : ¬ (false = true))]; exact hR, hon, by simp; omega⟩)
        clear C5 hh
        go_wp2_with fail
        obtain ⟨m', P1', l', hm', hq', hl', hr', ho', hg'⟩ := unhide HEnd
        go_roundg (2 * P1'.1.length + (if m' = true then 1 else 0))
        case measure => exact hg'
        case rel => exact ⟨m', P1', l', hm', hq', hl', hr', ho', Nat.le_refl _⟩
end
end Go.Proofs.Qxb6500412aGreat
