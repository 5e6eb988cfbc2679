/-
  OWN WORK. QUERY: the parser: selects (written by tools/gen_s13.py).
-/
import Derived.Test.Qxb6500412aGreatS12
namespace Go.Proofs.Qxb6500412aGreat
open Go.RowKit Go.PlainAid
set_option linter.unusedSimpArgs false
set_option linter.unusedVariables false

theorem Tryz.infoSStr : (Tryz.prog.info? 9).map (fun i => (i.zero, i.size, i.bytes)) = some (some (.string ⟨#[]⟩), 1, 16) := by kernel_rfl
def wSTAR : ByteArray := ⟨#[42]⟩
def wFROM : ByteArray := ⟨#[70, 82, 79, 77]⟩
def wORDER : ByteArray := ⟨#[79, 82, 68, 69, 82]⟩
def wBY : ByteArray := ⟨#[66, 89]⟩
def wDESC : ByteArray := ⟨#[68, 69, 83, 67]⟩
def wLIMIT : ByteArray := ⟨#[76, 73, 77, 73, 84]⟩
def nameL (P : Ps) : Ps × ByteArray := (nameP P, nameV P)
theorem nameL_len (P : Ps) : (nameL P).1.1.length ≤ P.1.length := nameP_len P
def selN (P : Ps) (st : St) : Ps × List ByteArray := if eatB wSTAR P = true then (eatP wSTAR P, st.list) else listP nameL wCOMMA (eatP wSTAR P) st.list
def ordP (P : Ps) (st : St) : Ps × St := if eatB wORDER P = true then (eatP wDESC (nameP (wantP wBY (nextP P))), { st with order := nameV (wantP wBY (nextP P)), desc := eatB wDESC (nameP (wantP wBY (nextP P))) }) else (P, st)
def numB (P : Ps) : Bool := match P.1 with
  | .num _ :: _ => true
  | _ => false
def valV (P : Ps) : Int := match P.1 with
  | .num v :: _ => v
  | _ => 0
def limP (P : Ps) (st : St) : Ps × St := if eatB wLIMIT P = true then (if numB (nextP P) = true then nextP (nextP P) else failP, { st with hasL := true, lim := valV (nextP P) }) else (P, st)
def selW (P : Ps) (st : St) : Ps × St := whereP (nameP (wantP wFROM (selN P st).1)) { st with kind := 8, star := eatB wSTAR P, list := (selN P st).2, table := nameV (wantP wFROM (selN P st).1) }
def selO (P : Ps) (st : St) : Ps × St := ordP (selW P st).1 (selW P st).2
def selP (P : Ps) (st : St) : Ps × St := limP (selO P st).1 (selO P st).2
theorem run_store_list {w : World} {ad : Addr} {old : Value} (h : w.cell? ad = some old) (hf : w.frozen? ad = false) (b : Option Addr) (n c : Nat) : (storeVar 49 ad (.slice b n c)).run Tryz.prog w = .ok () (w.setCell ad (.slice b n c)) := by
  go_simp
section
variable {lo : Nat} {w w' : World} {kp ks : Nat} {t : ByteArray} {P : Ps} {st st' : St} {S : Sq}
theorem SqOf.list_ {l : List ByteArray} {c : ByteArray} {v : Value} {n : Nat} (h : SqOf S { st with list := l }) (hn : n = l.length + 1) : SqOf (S.setL 6 v (S.xs 6 ++ [.string c]) n) { st with list := l ++ [c] } := by
  refine ⟨h.k0, h.k1, h.x2, h.k3, h.x4, h.k5, ⟨?_, ?_⟩, h.x7, h.x8, h.k9, h.k10, h.k11, h.k12⟩
  · show S.xs 6 ++ _ = (l ++ [c]).map Value.string
    rw [h.x6.1, List.map_append]
    rfl
  · show n = (l ++ [c]).length
    rw [hn]; simp
theorem TkR.val {k : Int} {s : ByteArray} {v e : Int} (h : TkR t P k s v e) : valV P = v ∧ numB P = decide (k = 4) := by
  rcases h.cases_ with ⟨hp, rfl, _, rfl⟩ | ⟨hp, rfl, _, rfl⟩ | ⟨l, b, hp, _, rfl, rfl⟩ | ⟨l, b, hp, _, rfl, rfl⟩ | ⟨l, b, hp, rfl, _⟩ | ⟨l, b, hp, rfl, rfl⟩ | ⟨l, b, hp, rfl, rfl⟩ <;> rw [hp] <;> exact ⟨rfl, rfl⟩
theorem num_head (h : numB P = true) : ∃ x l b, P = (x :: l, b) ∧ nextP P = (l, b) := by
  obtain ⟨l, b⟩ := P
  cases l with
  | nil => cases h
  | cons x l => exact ⟨x, l, b, rfl, rfl⟩
set_option maxRecDepth 100000 in
set_option maxHeartbeats 8000000 in
theorem sqselects_any (ht : t.size ≤ 256) (h : QP lo w kp ks t P st) (hl : st.list.length + P.1.length + 1 ≤ 1000) (hl2 : st.wh.length + P.1.length ≤ 1000) : Calls Tryz.prog 216 #[.pointer (some ⟨kp, 0, none⟩), .pointer (some ⟨ks, 0, none⟩)] w fun e w' => e = .returned (.tuple #[]) ∧ QpP lo kp ks t (selP P st).1 (selP P st).2 w w' := by
  obtain ⟨i0, hi0, hz0, hy0, hb0⟩ := info_parts Tryz.infoSStr
  obtain ⟨v0, c0, f0, kl⟩ := h.at_ (i := 0) (by omega)
  have H1 := hide (h.set (i := 0) (v := .int .i64 8) (by unfold sqj; omega) (fun S hS => hS.kind_))
  obtain ⟨b1, hb1⟩ : ∃ b, eatB wSTAR P = b := ⟨_, rfl⟩
  obtain ⟨st0, hst0⟩ : ∃ s, s = { st with kind := 8, star := b1 } := ⟨_, rfl⟩
  obtain ⟨Pa, hPa⟩ : ∃ x, eatP wSTAR P = x := ⟨_, rfl⟩
  obtain ⟨R, hR⟩ : ∃ R, R = if b1 = true then (Pa, st0.list) else listP nameL wCOMMA Pa st0.list := ⟨_, rfl⟩
  have hN : selN P st = R := by unfold selN; rw [hb1, hPa, hR, hst0]
  have hU : selW P st = whereP (nameP (wantP wFROM R.1)) { st0 with list := R.2, table := nameV (wantP wFROM R.1) } := by
    unfold selW
    rw [hN, hst0, hb1]
  have hPl : Pa.1.length ≤ P.1.length := by rw [← hPa]; exact eatP_len _ _
  have HL := hide (show st0.list.length + Pa.1.length + 1 ≤ 1000 ∧ Pa.1.length ≤ P.1.length by rw [hst0]; exact ⟨(by show st.list.length + Pa.1.length + 1 ≤ 1000; omega), hPl⟩)
  have HWl := hide (show st0.wh.length + P.1.length ≤ 1000 by rw [hst0]; exact hl2)
  have HRl := hide (show R.1.1.length ≤ P.1.length by
    rw [hR]
    split
    · exact hPl
    · exact Nat.le_trans (listP_len nameL_len _ _ _).1 hPl)
  have HR := hide hR
  have Hs := hide (And.intro hst0 (And.intro hPa (And.intro hb1 hU)))
  have HF := hide (show selP P st = limP (ordP (whereP (nameP (wantP wFROM R.1)) { st0 with list := R.2, table := nameV (wantP wFROM R.1) }).1 (whereP (nameP (wantP wFROM R.1)) { st0 with list := R.2, table := nameV (wantP wFROM R.1) }).2).1 (ordP (whereP (nameP (wantP wFROM R.1)) { st0 with list := R.2, table := nameV (wantP wFROM R.1) }).1 (whereP (nameP (wantP wFROM R.1)) { st0 with list := R.2, table := nameV (wantP wFROM R.1) }).2).2 by unfold selP selO; rw [hU])
  obtain ⟨FP, hFP⟩ : ∃ x, selP P st = x := ⟨_, rfl⟩
  rw [hFP]
  have HFP := hide hFP
  have C1 := sqeat_any ht (unhide H1).1.ps wSTAR
  rw [hb1, hPa] at C1
  unfold wSTAR at C1
  have C1 := hide C1
  clear h hl hl2 hU hPl hR hst0 hPa hb1 hN hFP
  go_enter Tryz.func216, Tryz.ntmps216
  go_upto_region 1 with fail
  generalize w.setCell ⟨ks, 0, none⟩ (.int .i64 8) = w1 at *
  clear c0 f0 kl
  go_wp2_with fail
  refine (unhide C1).mono ?_
  rintro e w2 ⟨rfl, hh⟩
  have q2 := (unhide H1).trans ((unhide H1).1.parP hh)
  obtain ⟨v5, c5, f5, kl⟩ := q2.1.at_ (i := 5) (by omega)
  have q3 := q2.trans (q2.1.set (i := 5) (v := .bool b1) (by unfold sqj; omega) (fun S hS => hS.star_))
  have d5 : (w2.setCell ⟨ks, 5, none⟩ (.bool b1)).cell? ⟨ks, 5, none⟩ = some (.bool b1) := by
    obtain ⟨S, g1, g2⟩ := q3.1.sq
    rw [g1.cl (by omega), g2.k5]
  have kl3 := q3.1.klt.1
  have HS3 := hide (show QP lo (w2.setCell ⟨ks, 5, none⟩ (.bool b1)) kp ks t Pa { st0 with list := st0.list } ∧ Only (fun b => lo ≤ b) w (w2.setCell ⟨ks, 5, none⟩ (.bool b1)) ∧ Pa.1.length ≤ P.1.length from by
    refine ⟨?_, q3.2, (unhide HL).2⟩
    have e : ({ st0 with list := st0.list } : St) = st0 := rfl
    rw [e, (unhide Hs).1]
    exact q3.1)
  clear C1 hh q2 q3 H1
  go_upto_region 2 with fail
  generalize w2.setCell ⟨ks, 5, none⟩ (.bool b1) = w3 at *
  clear c5 f5 kl
  go_upto_region 3 with fail
  go_loopg [4] (2 * P.1.length + 2) (fun gk mv wr => ∃ (m : Bool) (P1 : Ps) (l : List ByteArray), mv = .bool m ∧ QP lo wr kp ks t P1 { st0 with list := l } ∧ l.length + P1.1.length + (if m = true then 1 else 0) ≤ 1000 ∧ R = (if m = true then listP nameL wCOMMA P1 l else (P1, l)) ∧ Only (fun b => lo ≤ b) w wr ∧ 2 * P1.1.length + (if m = true then 1 else 0) ≤ gk)
  case atStart => (
    have hh := unhide HS3
    have hR := unhide HR
    cases b1 with
    | true => exact ⟨false, Pa, st0.list, rfl, hh.1, by have := unhide HL; simp; omega, by rw [if_neg (by decide : ¬ (false = true))]; exact hR, hh.2.1, by have := hh.2.2; simp; omega⟩
    | false => exact ⟨true, Pa, st0.list, rfl, hh.1, by have := unhide HL; simp; omega, by rw [if_pos rfl]; exact hR, hh.2.1, by have := hh.2.2; simp; omega⟩)
  case round =>
    obtain ⟨m, P1, l, rfl, hQ, hlen, hR, oW, hgk⟩ := hrel
    cases m with
    | false =>
      have hR' : R = (P1, l) := by simpa using hR
      have HW := hide (And.intro hR' (show QpP lo kp ks t P1 { st0 with list := l } w wr from ⟨hQ, oW⟩))
      clear hQ hR oW hR' hlen hgk
      have C2 := sqwant_any ht (unhide HW).2.1.ps wFROM
      unfold wFROM at C2
      have C2 := hide C2
      go_wp2_with fail
      refine (unhide C2).mono ?_
      rintro e w4 ⟨rfl, hh⟩
      have H4 := hide ((unhide HW).2.trans ((unhide HW).2.1.parP hh))
      clear C2 hh
      have C2 := hide (sqname_any ht (unhide H4).1.ps)
      go_wp2_with fail
      refine (unhide C2).mono ?_
      rintro e w5 ⟨rfl, hh⟩
      have q5 := (unhide H4).trans ((unhide H4).1.parP hh)
      obtain ⟨v1, c1, f1, kl⟩ := q5.1.at_ (i := 1) (by omega)
      obtain ⟨nm0, hnm0⟩ : ∃ x, nameV (wantP wFROM P1) = x := ⟨_, rfl⟩
      have e0 : nameV (wantP ⟨#[70, 82, 79, 77]⟩ P1) = nm0 := hnm0
      rw [e0]
      have H6 := hide (show QpP lo kp ks t (nameP (wantP wFROM P1)) { st0 with list := l, table := nm0 } w (w5.setCell ⟨ks, 1, none⟩ (.string nm0)) from q5.trans (q5.1.set (i := 1) (v := .string nm0) (by unfold sqj; omega) (fun S hS => hS.table_)))
      have Hnm := hide hnm0
      clear C2 hh q5 e0 hnm0 H4
      go_upto_region 8 with fail
      generalize w5.setCell ⟨ks, 1, none⟩ (.string nm0) = w6 at *
      clear c1 f1 kl
      have CW := sqwhere_any ht (unhide H6).1 (by
        have h1 := unhide HWl
        have e : ({ st0 with list := l, table := nm0 } : St).wh = st0.wh := rfl
        rw [e]
        have h2 := unhide HRl
        rw [(unhide HW).1] at h2
        have h3 : P1.1.length ≤ P.1.length := h2
        have h4 := Nat.le_trans (nameP_len (wantP wFROM P1)) (wantP_len wFROM P1)
        omega)
      obtain ⟨P4, hP4⟩ : ∃ x, (whereP (nameP (wantP wFROM P1)) { st0 with list := l, table := nm0 }).1 = x := ⟨_, rfl⟩
      obtain ⟨st4, hst4⟩ : ∃ x, (whereP (nameP (wantP wFROM P1)) { st0 with list := l, table := nm0 }).2 = x := ⟨_, rfl⟩
      rw [hP4, hst4] at CW
      have CW := hide CW
      have HF4 := hide (show FP = limP (ordP P4 st4).1 (ordP P4 st4).2 by rw [← unhide HFP, unhide HF, (unhide HW).1, ← hP4, ← hst4, ← unhide Hnm])
      clear hP4 hst4
      go_wp2_with fail
      refine (unhide CW).mono ?_
      rintro e w7 ⟨rfl, hh⟩
      have H7 := hide ((unhide H6).trans hh)
      clear CW hh H6 HW
      -- ORDER
      have C2 := sqeat_any ht (unhide H7).1.ps wORDER
      obtain ⟨b2, hb2⟩ : ∃ b, eatB wORDER P4 = b := ⟨_, rfl⟩
      rw [hb2] at C2
      have Hb2 := hide hb2
      unfold wORDER at C2
      have C2 := hide C2
      clear hb2
      go_wp2_with fail
      refine (unhide C2).mono ?_
      rintro e w8 ⟨rfl, hh⟩
      have H8 := hide (show QpP lo kp ks t (if b2 = true then nextP P4 else P4) st4 w w8 from by
        have e1 : eatP wORDER P4 = if b2 = true then nextP P4 else P4 := by unfold eatP; rw [unhide Hb2]
        rw [← e1]
        exact (unhide H7).trans ((unhide H7).1.parP hh))
      clear C2 hh H7
      obtain ⟨P5, hP5⟩ : ∃ x, (ordP P4 st4).1 = x := ⟨_, rfl⟩
      obtain ⟨st5, hst5⟩ : ∃ x, (ordP P4 st4).2 = x := ⟨_, rfl⟩
      have H5 := hide (And.intro hP5 hst5)
      clear hP5 hst5
      go_upto_if 43 with fail
      go_cut [] from 43 to 55 (fun wx => QpP lo kp ks t P5 st5 w wx)
      case first =>
        cases b2 with
        | false =>
          have FF := hide (show QpP lo kp ks t P5 st5 w w8 by rw [← (unhide H5).1, ← (unhide H5).2]; unfold ordP; rw [unhide Hb2]; exact unhide H8)
          go_wp2_with fail
          go_meet
          exact unhide FF
        | true =>
          have H9 := hide (show QpP lo kp ks t (nextP P4) st4 w w8 from unhide H8)
          have C2 := sqwant_any ht (unhide H9).1.ps wBY
          unfold wBY at C2
          have C2 := hide C2
          go_wp2_with fail
          refine (unhide C2).mono ?_
          rintro e w9 ⟨rfl, hh⟩
          have HA := hide ((unhide H9).trans ((unhide H9).1.parP hh))
          clear C2 hh H9
          have C2 := hide (sqname_any ht (unhide HA).1.ps)
          go_wp2_with fail
          refine (unhide C2).mono ?_
          rintro e wA ⟨rfl, hh⟩
          have qA := (unhide HA).trans ((unhide HA).1.parP hh)
          obtain ⟨v9, c9, f9, kl⟩ := qA.1.at_ (i := 9) (by omega)
          obtain ⟨nm1, hnm1⟩ : ∃ x, nameV (wantP wBY (nextP P4)) = x := ⟨_, rfl⟩
          have e0 : nameV (wantP ⟨#[66, 89]⟩ (nextP P4)) = nm1 := hnm1
          rw [e0]
          have HB := hide (show QpP lo kp ks t (nameP (wantP wBY (nextP P4))) { st4 with order := nm1 } w (wA.setCell ⟨ks, 9, none⟩ (.string nm1)) from qA.trans (qA.1.set (i := 9) (v := .string nm1) (by unfold sqj; omega) (fun S hS => hS.order_)))
          have Hnm1 := hide hnm1
          clear C2 hh qA e0 hnm1 HA
          go_upto_region 12 with fail
          generalize wA.setCell ⟨ks, 9, none⟩ (.string nm1) = wB at *
          clear c9 f9 kl
          have C2 := sqeat_any ht (unhide HB).1.ps wDESC
          obtain ⟨b3, hb3⟩ : ∃ b, eatB wDESC (nameP (wantP wBY (nextP P4))) = b := ⟨_, rfl⟩
          rw [hb3] at C2
          have Hb3 := hide hb3
          unfold wDESC at C2
          have C2 := hide C2
          clear hb3
          go_wp2_with fail
          refine (unhide C2).mono ?_
          rintro e wC ⟨rfl, hh⟩
          have qC := (unhide HB).trans ((unhide HB).1.parP hh)
          obtain ⟨vX, cX, fX, kl⟩ := qC.1.at_ (i := 10) (by omega)
          have FF := hide (show QpP lo kp ks t P5 st5 w (wC.setCell ⟨ks, 10, none⟩ (.bool b3)) by
            have hq := qC.trans (qC.1.set (i := 10) (v := .bool b3) (by unfold sqj; omega) (fun S hS => hS.desc_))
            rw [← (unhide H5).1, ← (unhide H5).2]
            unfold ordP
            rw [unhide Hb2, if_pos rfl, unhide Hnm1, unhide Hb3]
            exact hq)
          clear C2 hh qC HB
          go_wp2_with fail
          go_meet
          exact unhide FF
      case rest =>
      generalize wc = w9 at *
      have H9 := hide hcut
      clear hcut H8
      -- LIMIT
      have C2 := sqeat_any ht (unhide H9).1.ps wLIMIT
      obtain ⟨b4, hb4⟩ : ∃ b, eatB wLIMIT P5 = b := ⟨_, rfl⟩
      rw [hb4] at C2
      have Hb4 := hide hb4
      unfold wLIMIT at C2
      have C2 := hide C2
      have HFx := hide (show FP = limP P5 st5 by rw [unhide HF4, (unhide H5).1, (unhide H5).2])
      clear hb4
      go_wp2_with fail
      refine (unhide C2).mono ?_
      rintro e wA ⟨rfl, hh⟩
      have HA := hide (show QpP lo kp ks t (if b4 = true then nextP P5 else P5) st5 w wA from by
        have e1 : eatP wLIMIT P5 = if b4 = true then nextP P5 else P5 := by unfold eatP; rw [unhide Hb4]
        rw [← e1]
        exact (unhide H9).trans ((unhide H9).1.parP hh))
      clear C2 hh H9
      cases b4 with
      | false =>
        have FF := hide (show QpP lo kp ks t FP.1 FP.2 w wA by rw [unhide HFx]; unfold limP; rw [unhide Hb4]; exact unhide HA)
        go_wp2_with fail
        go_end0
        exact ⟨rfl, unhide FF⟩
      | true =>
        have HB := hide (show QpP lo kp ks t (nextP P5) st5 w wA from unhide HA)
        obtain ⟨v11, c11, f11, kl⟩ := (unhide HB).1.at_ (i := 11) (by omega)
        have HC := hide ((unhide HB).trans ((unhide HB).1.set (i := 11) (v := .bool true) (by unfold sqj; omega) (fun S hS => hS.hasL_)))
        go_upto_region 15 with fail
        generalize wA.setCell ⟨ks, 11, none⟩ (.bool true) = wB at *
        clear c11 f11 kl HA HB
        obtain ⟨k, s, v, ee, h1, hTk⟩ := (unhide HC).1.ps
        have kv := hTk.val
        have c3 : wB.cell? ⟨kp, 3, none⟩ = some (.int .i64 v) := h1.cell 3
        have kpl := h1.lt
        obtain ⟨v12, c12, f12, kl⟩ := (unhide HC).1.at_ (i := 12) (by omega)
        have qD := (unhide HC).1.set (i := 12) (v := .int .i64 v) (by unfold sqj; omega) (fun S hS => hS.lim_)
        have h1D := h1.keep (only1 (p := ks) 12 (.int .i64 v)) (fun e => (unhide HC).1.kne e)
        have d1 : (wB.setCell ⟨ks, 12, none⟩ (.int .i64 v)).cell? ⟨kp, 1, none⟩ = some (.int .i64 k) := h1D.cell 1
        have kpl2 := h1D.lt
        have HD := hide ((unhide HC).trans qD)
        have Hkv := hide kv
        clear h1 hTk qD h1D kv HC
        go_upto_region 16 with fail
        generalize wB.setCell ⟨ks, 12, none⟩ (.int .i64 v) = wC at *
        clear c3 c12 f12 kl kpl
        by_cases h4 : k = 4
        · have b5 : (k == 4) = true := by simp [h4]
          have hn : numB (nextP P5) = true := by rw [(unhide Hkv).2]; exact decide_eq_true h4
          obtain ⟨x, l', b', hx, hnx⟩ := num_head hn
          have h5 := (unhide HD).1.ps
          rw [hx] at h5
          have C := hide (sqstep_any ht h5)
          have Hx := hide (And.intro hn hnx)
          clear h4 hn hx hnx h5
          go_wp2_with fail
          refine (unhide C).mono ?_
          rintro e2 wD ⟨rfl, hh⟩
          have FF := hide (show QpP lo kp ks t FP.1 FP.2 w wD by
            have hq := (unhide HD).trans ((unhide HD).1.parP hh)
            rw [unhide HFx]
            unfold limP
            rw [unhide Hb4, if_pos rfl, (unhide Hx).1, if_pos rfl, (unhide Hx).2, (unhide Hkv).1]
            exact hq)
          clear hh C
          go_wp2_with fail
          go_end0
          exact ⟨rfl, unhide FF⟩
        · have b5 : (k == 4) = false := ne_intO h4
          have hn : numB (nextP P5) = false := by rw [(unhide Hkv).2]; exact decide_eq_false h4
          have C := hide (sqfail_any (unhide HD).1.ps)
          have Hx := hide hn
          clear h4 hn
          go_wp2_with fail
          refine (unhide C).mono ?_
          rintro e2 wD ⟨rfl, hh⟩
          have FF := hide (show QpP lo kp ks t FP.1 FP.2 w wD by
            have hq := (unhide HD).trans ((unhide HD).1.parP hh)
            rw [unhide HFx]
            unfold limP
            rw [unhide Hb4, if_pos rfl, unhide Hx, if_neg (by decide : ¬ (false = true)), (unhide Hkv).1]
            exact hq)
          clear hh C
          go_wp2_with fail
          go_end0
          exact ⟨rfl, unhide FF⟩
    | true =>
      obtain ⟨S, hM, hO⟩ := hQ.sq
      have hlp := hQ.lp
      have klt := hQ.klt
      have oDr : Only (fun _ => False) wr wr.drew := (Only.refl _ wr).drew
      have C1 := sqname_any ht (hQ.ps.keep oDr (fun e => e))
      obtain ⟨lv, hlv⟩ : ∃ x, nameV P1 = x := ⟨_, rfl⟩
      obtain ⟨Pn, hPn⟩ : ∃ x, nameP P1 = x := ⟨_, rfl⟩
      rw [hlv, hPn] at C1
      skip
      have C1 := hide C1
      have HV := hide (And.intro hlv hPn)
      obtain ⟨n, hnn⟩ : ∃ n, l.length = n := ⟨_, rfl⟩
      have hln : S.ln 6 = n := by rw [← hnn]; exact hO.x6.2
      have own0 := hM.own 6 (by unfold sqj; omega)
      rw [hln] at own0
      obtain ⟨a, cap, hcell⟩ := ownsRow_shape own0
      have z0 := hM.cl (i := 6) (by omega)
      rw [hcell] at z0
      have z0d := oDr.cellS z0
      have kld : ks < wr.drew.heap.size := Nat.lt_of_lt_of_le hM.lt oDr.size
      obtain ⟨pc, hpc⟩ := hQ.ps.has
      have HPar := hide (show ∀ b, S.B ks b → b ≠ kp from hM.par hpc)
      have HM := hide hM
      have Hcell := hide hcell
      have Hln := hide hln
      have hl1000 : l.length + P1.1.length + 1 ≤ 1000 := by simpa using hlen
      have l5 : n + 1 ≤ maxLen := by unfold maxLen; omega
      have n1000 : n ≤ 1000 := by omega
      have hlo := hQ.lo_
      have HBl := hide (And.intro hO (And.intro hlen (And.intro hR hgk)))
      have HPP : Hid (∀ (w2 : World) (hh : PaP kp t Pn wr.drew w2) (gg cap3 : Nat) (w5 : World), w5.ownsRow 0 9 1 (.slice (some ⟨gg, 0, none⟩) (n + 1) cap3) (n + 1) (S.xs 6 ++ [.string lv]) → (w2.alloc (.cells #[.string lv] 9)).grownBy w5 (Value.slice a n cap).ownBlock → ((Value.slice a n cap).ownBlock = some gg ∨ gg = w2.heap.size + 1) → QP lo (w5.setCell ⟨ks, 6, none⟩ (.slice (some ⟨gg, 0, none⟩) (n + 1) cap3)) kp ks t Pn { st0 with list := l ++ [lv] } ∧ Only (fun b => lo ≤ b) w (w5.setCell ⟨ks, 6, none⟩ (.slice (some ⟨gg, 0, none⟩) (n + 1) cap3))) := hide (fun w2 hh gg cap3 w5 h1 h2 h3 => by
        have o2 : Only (fun b => b = kp) wr w2 := (oDr.mono (T := fun b => b = kp) (fun _ _ e => e.elim)).trans hh.2 (fun _ _ e => e)
        have k2 := (unhide HM).keep o2 (fun b hb e => unhide HPar b hb e)
        have s2 := o2.size
        have p := k2.push (j := 6) (by unfold sqj; omega) (es := [.string lv]) (n := n + 1) ((Only.refl _ w2).alloc _) h1 (by rw [unhide Hcell]; exact h2) (fun b hb => by
          simp [Value.ownBlock] at hb
          subst hb
          rw [unhide Hcell]
          exact h3.imp id (fun c => by omega)) (by omega)
        have hk : ¬ S.U ks 6 kp := fun c => by
          rcases c with c | c
          · exact unhide HPar ks (.inl rfl) c.symm
          · exact unhide HPar kp (.inr ⟨6, by unfold sqj; omega, c⟩) rfl
        exact ⟨⟨hh.1.keep p.2 hk, hlp, _, p.1, (unhide HBl).1.list_ (by rw [hnn])⟩, (oW.trans o2 (fun b _ e => by have e' : b = kp := e; omega)).trans p.2 (fun b _ c => k2.ulo (by unfold sqj; omega) b c)⟩)
      clear hM hO hQ oW hR hlen hgk hcell hln own0 z0 hpc hlv hPn oDr
      go_upto_region 5 with fail
      refine wp_region_held_drew (S := fun _ => True) (by kernel_rfl) trivial (fun _ => ?_)
      refine takeH 0 21 (v := ?vp0) rfl rfl (by kernel_rfl) (by kernel_rfl) (by kernel_rfl) (fun _ _ _ h => h) (Or.inl ⟨by rfl, ?hp0⟩) trivial ?rp0
      case hp0 => (intro w hSw; clear hSw; go_simp; (try with_reducible rfl))
      case rp0 =>
      try simp only [Act.put, List.setIfInBounds_toArray, List.set_cons_zero, List.set_cons_succ]
      refine takeH 1 22 (v := ?vp1) rfl rfl (by kernel_rfl) (by kernel_rfl) (by kernel_rfl) (fun _ _ _ h => h) (Or.inl ⟨by rfl, ?hp1⟩) trivial ?rp1
      case hp1 => (intro w hSw; clear hSw; go_simp; (try with_reducible rfl))
      case rp1 =>
      try simp only [Act.put, List.setIfInBounds_toArray, List.set_cons_zero, List.set_cons_succ]
      refine takeH 2 23 (v := ?vp2) rfl rfl (by kernel_rfl) (by kernel_rfl) (by kernel_rfl) (fun _ _ _ h => h) (Or.inl ⟨by rfl, ?hp2⟩) trivial ?rp2
      case hp2 => (intro w hSw; clear hSw; go_simp; (try with_reducible rfl))
      case rp2 =>
      try simp only [Act.put, List.setIfInBounds_toArray, List.set_cons_zero, List.set_cons_succ]
      refine takeH 3 24 (v := ?vp3) rfl rfl (by kernel_rfl) (by kernel_rfl) (by kernel_rfl) (fun _ _ _ h => h) (Or.inl ⟨by rfl, ?hp3⟩) trivial ?rp3
      case hp3 => (intro w hSw; clear hSw; go_simp; (try with_reducible rfl))
      case rp3 =>
      try simp only [Act.put, List.setIfInBounds_toArray, List.set_cons_zero, List.set_cons_succ]
      refine takeH 5 26 (v := ?vp5) rfl rfl (by kernel_rfl) (by kernel_rfl) (by kernel_rfl) (fun _ _ _ h => h) (Or.inl ⟨by rfl, ?hp5⟩) trivial ?rp5
      case hp5 => (intro w hSw; clear hSw; go_simp; (try with_reducible rfl))
      case rp5 =>
      try simp only [Act.put, List.setIfInBounds_toArray, List.set_cons_zero, List.set_cons_succ]
      refine pairC 4 6 (by kernel_rfl) rfl rfl 25 27 rfl rfl rfl rfl (v := .slice a n cap) ?pe1 ?pk1 220 Tryz.func220 (by kernel_rfl) (by kernel_rfl) #[.tmp 26] #[225] rfl #[.pointer (some ⟨kp, 0, none⟩)] (by simp [Act.eval]) (R := fun v w' => v = .string lv ∧ PaP kp t Pn wr.drew w') ((unhide C1).mono (by rintro en w' ⟨rfl, o⟩; exact ⟨_, rfl, rfl, o⟩)) ?pk2
      case pe1 => (go_simp; (try with_reducible rfl))
      case pk1 =>
        refine ⟨trivial, ?_⟩
        try simp only [Act.put, List.setIfInBounds_toArray, List.set_cons_zero, List.set_cons_succ]
        refine callH 6 (by kernel_rfl) rfl 27 rfl rfl 220 Tryz.func220 (by kernel_rfl) (by kernel_rfl) #[.tmp 26] #[225] rfl #[.pointer (some ⟨kp, 0, none⟩)] (by simp [Act.eval]) (R := fun v w' => v = .string lv ∧ PaP kp t Pn wr.drew w') ((unhide C1).mono (by rintro en w' ⟨rfl, o⟩; exact ⟨_, rfl, rfl, o⟩)) ?kc
        case kc =>
        rintro _ w2 ⟨rfl, hh⟩
        refine ⟨trivial, ?_⟩
        try simp only [Act.put, List.setIfInBounds_toArray, List.set_cons_zero, List.set_cons_succ]
        have kM := (unhide HM).keep ((Only.refl (fun _ => False) wr).drew.mono (T := fun b => b = kp) (fun _ _ e => e.elim) |>.trans hh.2 (fun _ _ e => e)) (fun b hb e => unhide HPar b hb e)
        have zc := kM.cl (i := 6) (by omega)
        rw [unhide Hcell] at zc
        have zfr := kM.fr 6
        have kl2 := kM.lt
        have own2 : w2.ownsRow 0 9 1 (.slice a n cap) n (S.xs 6) := by have := kM.own 6 (by unfold sqj; omega); rw [unhide Hcell, unhide Hln] at this; exact this
        have zne : (Value.slice a n cap).ownBlock ≠ some ks := fun c => kM.kne (j := 6) (by unfold sqj; omega) (by rw [unhide Hcell]; exact c) rfl
        have oAl : Only (fun _ => False) w2 (w2.alloc (.cells #[.string lv] 9)) := (Only.refl _ _).alloc _
        have y1 := oAl.cellS zc
        have y1f : (w2.alloc (.cells #[.string lv] 9)).frozen? ⟨ks, 6, none⟩ = false := oAl.frS zfr (fun e => e) kl2
        refine soneH 7 (by kernel_rfl) rfl 28 rfl rfl (v := .slice (some ⟨w2.heap.size, 0, none⟩) 1 1) (w1 := (w2.alloc (.cells #[.string lv] 9))) ?oea ?oka
        case oea => (go_simp; (try with_reducible rfl))
        case oka =>
        refine ⟨trivial, ?_⟩
        try simp only [Act.put, List.setIfInBounds_toArray, List.set_cons_zero, List.set_cons_succ]
        refine sappH 8 (by kernel_rfl) rfl 29 rfl rfl _ _ _ rfl 0 9 i0 _ 1 16 Tryz.underlying49 hi0 hz0 hy0 hb0 rfl (by omega) (.slice a n cap) n (S.xs 6) rfl (own2.alloc _) ⟨w2.heap.size, 0, none⟩ 1 1 [.string lv] rfl rfl (World.news_of_block (cs := #[.string lv]) (t := 9) (fr := (0, 0)) (heap_alloc_new w2 _)) (by simp [Value.oneCell']) (by omega) l5 (by omega) (by simp) (w2.heap.size + 1) (by simp) ?apa
        case apa =>
        intro gg cap3 w5 hown1 hgrow hat hlt3
        have y3 := (hgrow.cell_far ⟨ks, 6, none⟩ (by simp; omega) (Ne.symm zne)).trans y1
        have yz := (hgrow.frozen_far ⟨ks, 6, none⟩ (by simp; omega) (Ne.symm zne)).trans y1f
        have HQ9 := hide (unhide HPP w2 hh gg cap3 w5 hown1 hgrow hat)
        refine ⟨trivial, ?_⟩
        try simp only [Act.put, List.setIfInBounds_toArray, List.set_cons_zero, List.set_cons_succ]
        refine takeH 9 30 (v := ?vq9a) rfl rfl (by kernel_rfl) (by kernel_rfl) (by kernel_rfl) (fun _ _ _ h => h) (Or.inl ⟨by rfl, ?hq9a⟩) trivial ?rq9a
        case hq9a => (intro w hSw; clear hSw; go_simp; (try with_reducible rfl))
        case rq9a =>
        try simp only [Act.put, List.setIfInBounds_toArray, List.set_cons_zero, List.set_cons_succ]
        refine takeH 10 31 (v := ?vq10a) rfl rfl (by kernel_rfl) (by kernel_rfl) (by kernel_rfl) (fun _ _ _ h => h) (Or.inl ⟨by rfl, ?hq10a⟩) trivial ?rq10a
        case hq10a => (intro w hSw; clear hSw; go_simp; (try with_reducible rfl))
        case rq10a =>
        try simp only [Act.put, List.setIfInBounds_toArray, List.set_cons_zero, List.set_cons_succ]
        refine storeH_cell 11 (by kernel_rfl) rfl rfl rfl 49 _ _ rfl ⟨ks, 6, none⟩ (.slice (some ⟨gg, 0, none⟩) (n + 1) cap3) rfl rfl (run_store_list y3 yz _ _ _) trivial ?_
        try simp only [Act.put, List.setIfInBounds_toArray, List.set_cons_zero, List.set_cons_succ]
        refine wpAnyH_done (by kernel_rfl) ?_ _
        clear hown1 hgrow hat y3 yz hlt3 kM zc zfr own2 zne oAl y1 y1f hh
        go_upto_region 4 with fail
        generalize w5.setCell ⟨ks, 6, none⟩ (.slice (some ⟨gg, 0, none⟩) (n + 1) cap3) = wA at *
        have C5 := sqeat_any ht (unhide HQ9).1.ps wCOMMA
        obtain ⟨b5, hb5⟩ : ∃ b, eatB wCOMMA Pn = b := ⟨_, rfl⟩
        rw [hb5] at C5
        have Hb5 := hide hb5
        unfold wCOMMA at C5
        have C5 := hide C5
        clear hb5
        go_wp2_with fail
        refine (unhide C5).mono ?_
        rintro e5 wB ⟨rfl, hh⟩
        have HEnd : Hid (∃ (m : Bool) (P1' : Ps) (l' : List ByteArray), (Value.bool b5 : Value) = .bool m ∧ QP lo wB kp ks t P1' { st0 with list := l' } ∧ l'.length + P1'.1.length + (if m = true then 1 else 0) ≤ 1000 ∧ R = (if m = true then listP nameL wCOMMA P1' l' else (P1', l')) ∧ Only (fun b => lo ≤ b) w wB ∧ 2 * P1'.1.length + (if m = true then 1 else 0) < gk) := hide (by
          obtain ⟨hO, hlen, hR, hgk⟩ := unhide HBl
          have hq : QP lo wB kp ks t (eatP wCOMMA Pn) { st0 with list := l ++ [lv] } := (unhide HQ9).1.par hh
          have hon := (unhide HQ9).2.trans hh.2 (fun b _ e => by have e' : b = kp := e; omega)
          have hcmp : nameL P1 = (Pn, lv) := by
            unfold nameL
            rw [(unhide HV).1, (unhide HV).2]
          have hstep := listP_step (sep := wCOMMA) nameL_len P1 l
          rw [hcmp] at hstep
          simp only at hstep
          have hR : R = listP nameL wCOMMA P1 l := by simpa using hR
          have hgk : 2 * P1.1.length + 1 ≤ gk := by simpa using hgk
          have hlen : l.length + P1.1.length + 1 ≤ 1000 := by simpa using hlen
          rw [hstep] at hR
          have hlen4 : Pn.1.length ≤ P1.1.length := by
            have := nameL_len P1
            rw [hcmp] at this
            exact this
          have e1 : eatP wCOMMA Pn = if b5 = true then nextP Pn else Pn := by unfold eatP; rw [unhide Hb5]
          rw [e1] at hq
          cases b5 with
          | true =>
            rw [unhide Hb5, if_pos rfl] at hR
            have e2 := eat_len (unhide Hb5)
            rw [if_pos rfl] at hq
            exact ⟨true, nextP Pn, l ++ [lv], rfl, hq, by simp; omega, by rw [if_pos rfl]; exact hR, hon, by simp; omega⟩
          | false =>
            rw [unhide Hb5, if_neg (by decide : ¬ (false = true))] at hR
            rw [if_neg (by decide : ¬ (false = true))] at hq
            exact ⟨false, Pn, l ++ [lv], rfl, hq, by simp; omega, by rw [if_neg (by decide : ¬ (false = true))]; exact hR, hon, by simp; omega⟩)
        clear C5 hh
        go_wp2_with fail
        obtain ⟨m', P1', l', hm', hq', hl', hr', ho', hg'⟩ := unhide HEnd
        go_roundg (2 * P1'.1.length + (if m' = true then 1 else 0))
        case measure => exact hg'
        case rel => exact ⟨m', P1', l', hm', hq', hl', hr', ho', Nat.le_refl _⟩
      case pk2 =>
        rintro _ w2 ⟨rfl, hh⟩
        refine ⟨trivial, ?_⟩
        try simp only [Act.put, List.setIfInBounds_toArray, List.set_cons_zero, List.set_cons_succ]
        have kM := (unhide HM).keep ((Only.refl (fun _ => False) wr).drew.mono (T := fun b => b = kp) (fun _ _ e => e.elim) |>.trans hh.2 (fun _ _ e => e)) (fun b hb e => unhide HPar b hb e)
        have zc := kM.cl (i := 6) (by omega)
        rw [unhide Hcell] at zc
        have zfr := kM.fr 6
        have kl2 := kM.lt
        have own2 : w2.ownsRow 0 9 1 (.slice a n cap) n (S.xs 6) := by have := kM.own 6 (by unfold sqj; omega); rw [unhide Hcell, unhide Hln] at this; exact this
        have zne : (Value.slice a n cap).ownBlock ≠ some ks := fun c => kM.kne (j := 6) (by unfold sqj; omega) (by rw [unhide Hcell]; exact c) rfl
        have oAl : Only (fun _ => False) w2 (w2.alloc (.cells #[.string lv] 9)) := (Only.refl _ _).alloc _
        have y1 := oAl.cellS zc
        have y1f : (w2.alloc (.cells #[.string lv] 9)).frozen? ⟨ks, 6, none⟩ = false := oAl.frS zfr (fun e => e) kl2
        refine spairH 4 7 (by kernel_rfl) rfl rfl 25 28 rfl rfl rfl rfl (v := .slice a n cap) (w1 := w2) (u := .slice (some ⟨w2.heap.size, 0, none⟩) 1 1) (w2 := (w2.alloc (.cells #[.string lv] 9))) ?se1 ?se2 ?sk1 ?sk2
        case se1 => (go_simp; (try with_reducible rfl))
        case se2 => (go_simp; (try with_reducible rfl))
        case sk1 =>
          refine ⟨trivial, ?_⟩
          try simp only [Act.put, List.setIfInBounds_toArray, List.set_cons_zero, List.set_cons_succ]
          refine soneH 7 (by kernel_rfl) rfl 28 rfl rfl (v := .slice (some ⟨w2.heap.size, 0, none⟩) 1 1) (w1 := (w2.alloc (.cells #[.string lv] 9))) ?oes1 ?oks1
          case oes1 => (go_simp; (try with_reducible rfl))
          case oks1 =>
          refine ⟨trivial, ?_⟩
          try simp only [Act.put, List.setIfInBounds_toArray, List.set_cons_zero, List.set_cons_succ]
          refine sappH 8 (by kernel_rfl) rfl 29 rfl rfl _ _ _ rfl 0 9 i0 _ 1 16 Tryz.underlying49 hi0 hz0 hy0 hb0 rfl (by omega) (.slice a n cap) n (S.xs 6) rfl (own2.alloc _) ⟨w2.heap.size, 0, none⟩ 1 1 [.string lv] rfl rfl (World.news_of_block (cs := #[.string lv]) (t := 9) (fr := (0, 0)) (heap_alloc_new w2 _)) (by simp [Value.oneCell']) (by omega) l5 (by omega) (by simp) (w2.heap.size + 1) (by simp) ?apb
          case apb =>
          intro gg cap3 w5 hown1 hgrow hat hlt3
          have y3 := (hgrow.cell_far ⟨ks, 6, none⟩ (by simp; omega) (Ne.symm zne)).trans y1
          have yz := (hgrow.frozen_far ⟨ks, 6, none⟩ (by simp; omega) (Ne.symm zne)).trans y1f
          have HQ9 := hide (unhide HPP w2 hh gg cap3 w5 hown1 hgrow hat)
          refine ⟨trivial, ?_⟩
          try simp only [Act.put, List.setIfInBounds_toArray, List.set_cons_zero, List.set_cons_succ]
          refine takeH 9 30 (v := ?vq9b) rfl rfl (by kernel_rfl) (by kernel_rfl) (by kernel_rfl) (fun _ _ _ h => h) (Or.inl ⟨by rfl, ?hq9b⟩) trivial ?rq9b
          case hq9b => (intro w hSw; clear hSw; go_simp; (try with_reducible rfl))
          case rq9b =>
          try simp only [Act.put, List.setIfInBounds_toArray, List.set_cons_zero, List.set_cons_succ]
          refine takeH 10 31 (v := ?vq10b) rfl rfl (by kernel_rfl) (by kernel_rfl) (by kernel_rfl) (fun _ _ _ h => h) (Or.inl ⟨by rfl, ?hq10b⟩) trivial ?rq10b
          case hq10b => (intro w hSw; clear hSw; go_simp; (try with_reducible rfl))
          case rq10b =>
          try simp only [Act.put, List.setIfInBounds_toArray, List.set_cons_zero, List.set_cons_succ]
          refine storeH_cell 11 (by kernel_rfl) rfl rfl rfl 49 _ _ rfl ⟨ks, 6, none⟩ (.slice (some ⟨gg, 0, none⟩) (n + 1) cap3) rfl rfl (run_store_list y3 yz _ _ _) trivial ?_
          try simp only [Act.put, List.setIfInBounds_toArray, List.set_cons_zero, List.set_cons_succ]
          refine wpAnyH_done (by kernel_rfl) ?_ _
          clear hown1 hgrow hat y3 yz hlt3 kM zc zfr own2 zne oAl y1 y1f hh
          go_upto_region 4 with fail
          generalize w5.setCell ⟨ks, 6, none⟩ (.slice (some ⟨gg, 0, none⟩) (n + 1) cap3) = wA at *
          have C5 := sqeat_any ht (unhide HQ9).1.ps wCOMMA
          obtain ⟨b5, hb5⟩ : ∃ b, eatB wCOMMA Pn = b := ⟨_, rfl⟩
          rw [hb5] at C5
          have Hb5 := hide hb5
          unfold wCOMMA at C5
          have C5 := hide C5
          clear hb5
          go_wp2_with fail
          refine (unhide C5).mono ?_
          rintro e5 wB ⟨rfl, hh⟩
          have HEnd : Hid (∃ (m : Bool) (P1' : Ps) (l' : List ByteArray), (Value.bool b5 : Value) = .bool m ∧ QP lo wB kp ks t P1' { st0 with list := l' } ∧ l'.length + P1'.1.length + (if m = true then 1 else 0) ≤ 1000 ∧ R = (if m = true then listP nameL wCOMMA P1' l' else (P1', l')) ∧ Only (fun b => lo ≤ b) w wB ∧ 2 * P1'.1.length + (if m = true then 1 else 0) < gk) := hide (by
            obtain ⟨hO, hlen, hR, hgk⟩ := unhide HBl
            have hq : QP lo wB kp ks t (eatP wCOMMA Pn) { st0 with list := l ++ [lv] } := (unhide HQ9).1.par hh
            have hon := (unhide HQ9).2.trans hh.2 (fun b _ e => by have e' : b = kp := e; omega)
            have hcmp : nameL P1 = (Pn, lv) := by
              unfold nameL
              rw [(unhide HV).1, (unhide HV).2]
            have hstep := listP_step (sep := wCOMMA) nameL_len P1 l
            rw [hcmp] at hstep
            simp only at hstep
            have hR : R = listP nameL wCOMMA P1 l := by simpa using hR
            have hgk : 2 * P1.1.length + 1 ≤ gk := by simpa using hgk
            have hlen : l.length + P1.1.length + 1 ≤ 1000 := by simpa using hlen
            rw [hstep] at hR
            have hlen4 : Pn.1.length ≤ P1.1.length := by
              have := nameL_len P1
              rw [hcmp] at this
              exact this
            have e1 : eatP wCOMMA Pn = if b5 = true then nextP Pn else Pn := by unfold eatP; rw [unhide Hb5]
            rw [e1] at hq
            cases b5 with
            | true =>
              rw [unhide Hb5, if_pos rfl] at hR
              have e2 := eat_len (unhide Hb5)
              rw [if_pos rfl] at hq
              exact ⟨true, nextP Pn, l ++ [lv], rfl, hq, by simp; omega, by rw [if_pos rfl]; exact hR, hon, by simp; omega⟩
            | false =>
              rw [unhide Hb5, if_neg (by decide : ¬ (false = true))] at hR
              rw [if_neg (by decide : ¬ (false = true))] at hq
              exact ⟨false, Pn, l ++ [lv], rfl, hq, by simp; omega, by rw [if_neg (by decide : ¬ (false = true))]; exact hR, hon, by simp; omega⟩)
          clear C5 hh
          go_wp2_with fail
          obtain ⟨m', P1', l', hm', hq', hl', hr', ho', hg'⟩ := unhide HEnd
          go_roundg (2 * P1'.1.length + (if m' = true then 1 else 0))
          case measure => exact hg'
          case rel => exact ⟨m', P1', l', hm', hq', hl', hr', ho', Nat.le_refl _⟩
        case sk2 =>
          refine ⟨trivial, ?_⟩
          try simp only [Act.put, List.setIfInBounds_toArray, List.set_cons_zero, List.set_cons_succ]
          refine soneH 4 (by kernel_rfl) rfl 25 rfl rfl (v := .slice a n cap) (w1 := (w2.alloc (.cells #[.string lv] 9))) ?ol ?okl
          case ol => (go_simp; (try with_reducible rfl))
          case okl =>
          refine ⟨trivial, ?_⟩
          try simp only [Act.put, List.setIfInBounds_toArray, List.set_cons_zero, List.set_cons_succ]
          refine sappH 8 (by kernel_rfl) rfl 29 rfl rfl _ _ _ rfl 0 9 i0 _ 1 16 Tryz.underlying49 hi0 hz0 hy0 hb0 rfl (by omega) (.slice a n cap) n (S.xs 6) rfl (own2.alloc _) ⟨w2.heap.size, 0, none⟩ 1 1 [.string lv] rfl rfl (World.news_of_block (cs := #[.string lv]) (t := 9) (fr := (0, 0)) (heap_alloc_new w2 _)) (by simp [Value.oneCell']) (by omega) l5 (by omega) (by simp) (w2.heap.size + 1) (by simp) ?apc
          case apc =>
          intro gg cap3 w5 hown1 hgrow hat hlt3
          have y3 := (hgrow.cell_far ⟨ks, 6, none⟩ (by simp; omega) (Ne.symm zne)).trans y1
          have yz := (hgrow.frozen_far ⟨ks, 6, none⟩ (by simp; omega) (Ne.symm zne)).trans y1f
          have HQ9 := hide (unhide HPP w2 hh gg cap3 w5 hown1 hgrow hat)
          refine ⟨trivial, ?_⟩
          try simp only [Act.put, List.setIfInBounds_toArray, List.set_cons_zero, List.set_cons_succ]
          refine takeH 9 30 (v := ?vq9c) rfl rfl (by kernel_rfl) (by kernel_rfl) (by kernel_rfl) (fun _ _ _ h => h) (Or.inl ⟨by rfl, ?hq9c⟩) trivial ?rq9c
          case hq9c => (intro w hSw; clear hSw; go_simp; (try with_reducible rfl))
          case rq9c =>
          try simp only [Act.put, List.setIfInBounds_toArray, List.set_cons_zero, List.set_cons_succ]
          refine takeH 10 31 (v := ?vq10c) rfl rfl (by kernel_rfl) (by kernel_rfl) (by kernel_rfl) (fun _ _ _ h => h) (Or.inl ⟨by rfl, ?hq10c⟩) trivial ?rq10c
          case hq10c => (intro w hSw; clear hSw; go_simp; (try with_reducible rfl))
          case rq10c =>
          try simp only [Act.put, List.setIfInBounds_toArray, List.set_cons_zero, List.set_cons_succ]
          refine storeH_cell 11 (by kernel_rfl) rfl rfl rfl 49 _ _ rfl ⟨ks, 6, none⟩ (.slice (some ⟨gg, 0, none⟩) (n + 1) cap3) rfl rfl (run_store_list y3 yz _ _ _) trivial ?_
          try simp only [Act.put, List.setIfInBounds_toArray, List.set_cons_zero, List.set_cons_succ]
          refine wpAnyH_done (by kernel_rfl) ?_ _
          clear hown1 hgrow hat y3 yz hlt3 kM zc zfr own2 zne oAl y1 y1f hh
          go_upto_region 4 with fail
          generalize w5.setCell ⟨ks, 6, none⟩ (.slice (some ⟨gg, 0, none⟩) (n + 1) cap3) = wA at *
          have C5 := sqeat_any ht (unhide HQ9).1.ps wCOMMA
          obtain ⟨b5, hb5⟩ : ∃ b, eatB wCOMMA Pn = b := ⟨_, rfl⟩
          rw [hb5] at C5
          have Hb5 := hide hb5
          unfold wCOMMA at C5
          have C5 := hide C5
          clear hb5
          go_wp2_with fail
          refine (unhide C5).mono ?_
          rintro e5 wB ⟨rfl, hh⟩
          have HEnd : Hid (∃ (m : Bool) (P1' : Ps) (l' : List ByteArray), (Value.bool b5 : Value) = .bool m ∧ QP lo wB kp ks t P1' { st0 with list := l' } ∧ l'.length + P1'.1.length + (if m = true then 1 else 0) ≤ 1000 ∧ R = (if m = true then listP nameL wCOMMA P1' l' else (P1', l')) ∧ Only (fun b => lo ≤ b) w wB ∧ 2 * P1'.1.length + (if m = true then 1 else 0) < gk) := hide (by
            obtain ⟨hO, hlen, hR, hgk⟩ := unhide HBl
            have hq : QP lo wB kp ks t (eatP wCOMMA Pn) { st0 with list := l ++ [lv] } := (unhide HQ9).1.par hh
            have hon := (unhide HQ9).2.trans hh.2 (fun b _ e => by have e' : b = kp := e; omega)
            have hcmp : nameL P1 = (Pn, lv) := by
              unfold nameL
              rw [(unhide HV).1, (unhide HV).2]
            have hstep := listP_step (sep := wCOMMA) nameL_len P1 l
            rw [hcmp] at hstep
            simp only at hstep
            have hR : R = listP nameL wCOMMA P1 l := by simpa using hR
            have hgk : 2 * P1.1.length + 1 ≤ gk := by simpa using hgk
            have hlen : l.length + P1.1.length + 1 ≤ 1000 := by simpa using hlen
            rw [hstep] at hR
            have hlen4 : Pn.1.length ≤ P1.1.length := by
              have := nameL_len P1
              rw [hcmp] at this
              exact this
            have e1 : eatP wCOMMA Pn = if b5 = true then nextP Pn else Pn := by unfold eatP; rw [unhide Hb5]
            rw [e1] at hq
            cases b5 with
            | true =>
              rw [unhide Hb5, if_pos rfl] at hR
              have e2 := eat_len (unhide Hb5)
              rw [if_pos rfl] at hq
              exact ⟨true, nextP Pn, l ++ [lv], rfl, hq, by simp; omega, by rw [if_pos rfl]; exact hR, hon, by simp; omega⟩
            | false =>
              rw [unhide Hb5, if_neg (by decide : ¬ (false = true))] at hR
              rw [if_neg (by decide : ¬ (false = true))] at hq
              exact ⟨false, Pn, l ++ [lv], rfl, hq, by simp; omega, by rw [if_neg (by decide : ¬ (false = true))]; exact hR, hon, by simp; omega⟩)
          clear C5 hh
          go_wp2_with fail
          obtain ⟨m', P1', l', hm', hq', hl', hr', ho', hg'⟩ := unhide HEnd
          go_roundg (2 * P1'.1.length + (if m' = true then 1 else 0))
          case measure => exact hg'
          case rel => exact ⟨m', P1', l', hm', hq', hl', hr', ho', Nat.le_refl _⟩
end
end Go.Proofs.Qxb6500412aGreat
