/-
  OWN WORK. QUERY's MODEL: parse: CREATE TABLE (written by tools/gen_qm20.py).
-/
import Derived.Test.Qxb6500412aGreatQM11
import Derived.Test.Qxb6500412aGreatS14
namespace Go.Proofs.Qxb6500412aGreat
open Go.RowKit Go.PlainAid
set_option linter.unusedSimpArgs false
set_option linter.unusedVariables false

section
variable {lo : Nat} {w w' : World} {kr ks : Nat} {tv : Value} {tl : List Tk} {P P' : Ps} {m : Ms} {α : Type} {body : Ps → Ps × α} {sep : ByteArray} {f : List α → Ms} {κ : List α → Int}
/-- A loop's state with a count. -/
def LpK (f : List α → Ms) (κ : List α → Int) (body : Ps → Ps × α) (sep : ByteArray) (w : World) (lo kr ks : Nat) (tv : Value) (tl : List Tk) (R : Ps × List α) (gk : Nat) (kv mv : Value) (wr : World) : Prop := ∃ (k : Int) (b : Bool) (P1 : Ps) (q : List α), kv = .int .i64 k ∧ mv = .bool b ∧ (P1.2 = true → k = κ q) ∧ MQR lo wr kr ks tv tl P1 (f q) ∧ (P1.2 = true → q.length + P1.1.length + gB b P1 ≤ 1000) ∧ (P1.2 = true → R = (if b = true then listP body sep P1 q else (P1, q))) ∧ (P1.2 = false → R.1 = failP) ∧ Only (fun b => lo ≤ b) w wr ∧ 2 * P1.1.length + gB b P1 ≤ gk
theorem LpK.cnt {R : Ps × List α} {k : Int} {b : Bool} {P1 : Ps} {q : List α} (hk : P1.2 = true → k = κ q) (h1 : P1.2 = true → R = (if b = true then listP body sep P1 q else (P1, q))) (h2 : P1.2 = false → R.1 = failP) (hb : b = false ∨ P1.2 = false) : R.1.2 = true → k = κ R.2 := by
  intro hg
  cases hp : P1.2 with
  | true =>
    rcases hb with c | c
    · have e := h1 hp
      rw [c] at e
      rw [e]
      exact hk hp
    · rw [hp] at c; cases c
  | false => rw [h2 hp] at hg; cases hg
theorem LpK.next (hbl : ∀ P, (body P).1.1.length ≤ P.1.length) {R : Ps × List α} {gk : Nat} {P1 : Ps} {q : List α} {k5 : Int} {wA wB : World} {b5 : Bool} (hg : P1.2 = true) (hR : R = listP body sep P1 q) (hlen : q.length + P1.1.length + 1 ≤ 1000) (hgk : 2 * P1.1.length + 1 ≤ gk) (hk5 : (body P1).1.2 = true → k5 = κ (q ++ [(body P1).2])) (hQ : MQR lo wA kr ks tv tl (body P1).1 (f (q ++ [(body P1).2]))) (ho : Only (fun b => lo ≤ b) w wA) (p1 : (body P1).1.2 = true → b5 = eatB sep (body P1).1) (p2 : b5 = true → MRp kr tv tl (nextP (body P1).1) wA wB) (p3 : b5 = false → MRp kr tv tl (body P1).1 wA wB) : ∃ gk', gk' < gk ∧ LpK f κ body sep w lo kr ks tv tl R gk' (.int .i64 k5) (.bool b5) wB := by
  have hl4 := hbl P1
  have hs := listP_step (sep := sep) hbl P1 q
  rw [← hR] at hs
  have hon : ∀ Py, MRp kr tv tl Py wA wB → Only (fun b => lo ≤ b) w wB := fun Py hp => ho.trans hp.2 (fun b _ e => by have e' : b = kr := e; rw [e']; exact hQ.lr)
  cases hp : (body P1).1.2 with
  | true =>
    have e5 := p1 hp
    cases b5 with
    | true =>
      rw [← e5, if_pos rfl] at hs
      have hn := eat_len e5.symm
      refine ⟨2 * (nextP (body P1).1).1.length + 1, by omega, k5, true, nextP (body P1).1, _, rfl, rfl, fun _ => hk5 hp, hQ.par (p2 rfl) next_good, fun _ => ?_, fun _ => hs, fun c => ?_, hon _ (p2 rfl), ?_⟩
      · have := gB_le true (nextP (body P1).1)
        simp
        omega
      · have c' : (body P1).1.2 = false := c
        rw [hp] at c'; cases c'
      · have := gB_le true (nextP (body P1).1)
        omega
    | false =>
      rw [← e5, if_neg (by decide)] at hs
      refine ⟨2 * (body P1).1.1.length, by omega, k5, false, (body P1).1, _, rfl, rfl, fun _ => hk5 hp, hQ.par (p3 rfl) (fun c => c), fun _ => ?_, fun _ => hs, fun c => ?_, hon _ (p3 rfl), ?_⟩
      · show (q ++ [(body P1).2]).length + (body P1).1.1.length + 0 ≤ 1000
        simp
        omega
      · rw [hp] at c; cases c
      · exact Nat.le_refl _
  | false =>
    have e := bad_fail hQ.rd hp
    have hR1 : R.1 = failP := by
      rw [hs, e, if_neg (show ¬ eatB sep failP = true from fun c => by cases c)]
    have key : ∀ b (Py : Ps), Py = failP → MRp kr tv tl Py wA wB → LpK f κ body sep w lo kr ks tv tl R 0 (.int .i64 k5) (.bool b) wB := fun b Py hy hp2 => by
      refine ⟨k5, b, Py, q ++ [(body P1).2], rfl, rfl, fun c => ?_, hQ.par hp2 (fun c => by rw [hy] at c; cases c), fun c => ?_, fun c => ?_, fun _ => hR1, hon _ hp2, ?_⟩
      · rw [hy] at c; cases c
      · rw [hy] at c; cases c
      · rw [hy] at c; cases c
      · rw [hy]; unfold gB; simp [failP]
    cases b5 with
    | true => exact ⟨0, by omega, key true _ (by rw [e]; rfl) (p2 rfl)⟩
    | false => exact ⟨0, by omega, key false _ e (p3 rfl)⟩
theorem LpK.start {R : Ps × List α} {gk : Nat} {wr : World} {k : Int} (h : MqP lo kr ks tv tl P (f []) w wr) (hk : k = κ []) (hR : R = listP body sep P []) (hf : P.2 = false → R.1 = failP) (hl : P.1.length + 1 ≤ 1000) (hg : 2 * P.1.length + 1 ≤ gk) : LpK f κ body sep w lo kr ks tv tl R gk (.int .i64 k) (.bool true) wr := by
  have := gB_le true P
  refine ⟨k, true, P, [], rfl, rfl, fun _ => hk, h.1, fun _ => ?_, fun _ => ?_, hf, h.2, by omega⟩
  · simp; omega
  · rw [if_pos rfl]; exact hR
/-- The type of a column read. -/
theorem ty_read {w0 w1 : World} {bt : Bool} (h0 : MRd w0 kr tv tl P) (h1 : P.2 = true → bt = eatB wTEXT P) : (bt = true → nextP P = tyP P) ∧ (bt = false → wantP wINT P = tyP P) := by
  cases hp : P.2 with
  | true =>
    have e := h1 hp
    unfold tyP
    rw [← e]
    exact ⟨fun c => by rw [c]; rfl, fun c => by rw [c]; rfl⟩
  | false =>
    have e := bad_fail h0 hp
    rw [e]
    exact ⟨fun _ => rfl, fun _ => rfl⟩
theorem Sq.setC_same (S : Sq) (i : Nat) : S.setC i (S.cell i) = S := by
  unfold Sq.setC
  have e : (fun j => if j = i then S.cell i else S.cell j) = S.cell := by
    funext j
    split
    · next c => rw [c]
    · rfl
  cases S
  simp only at e ⊢
  rw [e]
/-- The end of CREATE TABLE. -/
theorem tab_end {R : Ps × List (Cl × Bool)} {P : Ps} {st : St} {k : Int} {w0 : World} (hR : R = tabL P) (h0 : MRd w0 kr tv tl (wantP wRP R.1)) (hk : R.1.2 = true → k = (kyN R.2 : Int)) : (k = 1 → wantP wRP R.1 = (tabP P st).1) ∧ (k ≠ 1 → failP = (tabP P st).1) := by
  have e0 : (tabP P st).1 = if kyN R.2 = 1 then wantP wRP R.1 else failP := by rw [hR]; rfl
  rw [e0]
  cases hp : (wantP wRP R.1).2 with
  | true =>
    have e := hk (want_good hp)
    refine ⟨fun c => ?_, fun c => ?_⟩
    · rw [if_pos (by omega)]
    · rw [if_neg (by omega)]
  | false =>
    have e := bad_fail h0 hp
    rw [e]
    exact ⟨fun _ => by split <;> rfl, fun _ => by split <;> rfl⟩
end
set_option maxRecDepth 100000 in
set_option maxHeartbeats 16000000 in
theorem smparse_CT (t : ByteArray) (ht : t.size ≤ 256) (hc : (toks t 0).2 = true) (hk : eatB wCREATE (toks t 0) = true) (hk2 : eatB wTABLE (nextP (toks t 0)) = true) (w : World) : Calls Tryz.prog 180 #[.string t] w (MpP t w) := by
  obtain ⟨i0, hi0, hz0, hy0, hb0⟩ := info_parts Tryz.infoSCol
  have b1 : ¬ ((t.size : Int) > 256) := by omega
  have N1 := Has.new w (tabV 12 smz) 253
  have o1 : Only (fun _ => False) w (w.alloc (.cells (tabV 12 smz) 253)) := (Only.refl _ w).alloc _
  have HN := hide (And.intro N1 o1)
  rw [smz_tab] at HN
  clear N1 o1
  have C1 := hide (smtokens_any t (w.alloc (.cells #[.int .i64 0, .string ⟨#[]⟩, .slice none 0 0, .int .i64 0, .slice none 0 0, .slice none 0 0, .bool false, .slice none 0 0, .string ⟨#[]⟩, .bool false, .bool false, .int .i64 0] 253)))
  have HT := hide (And.intro ht hc)
  have HK := hide hk
  clear hk
  have HK2 := hide hk2
  clear hk2
  clear ht hc
  go_enter Tryz.func180, Tryz.ntmps180
  go_wp2_with fail
  refine (unhide C1).mono ?_
  rintro e w2 hh
  obtain ⟨tv, hx, hown, ho⟩ := TksP.short hh (unhide HT).1 (unhide HT).2
  subst hx
  obtain ⟨ta, tc, htv⟩ := ownsRow_shape hown
  have g2 : w.heap.size < w2.heap.size := Nat.lt_of_lt_of_le (unhide HN).1.lt ho.size
  have oA : Only (fun _ => False) w2 (w2.alloc (.cells (tabV 12 smz) 253)) := (Only.refl _ _).alloc _
  have oB : Only (fun _ => False) (w2.alloc (.cells (tabV 12 smz) 253)) ((w2.alloc (.cells (tabV 12 smz) 253)).alloc (.cells #[tv, .int .i64 0, .bool false] 325)) := (Only.refl _ _).alloc _
  have N2 := (Has.new w2 (tabV 12 smz) 253).keep oB (fun e => e)
  have N3 := Has.new (w2.alloc (.cells (tabV 12 smz) 253)) #[tv, .int .i64 0, .bool false] 325
  have sz : (w2.alloc (.cells (tabV 12 smz) 253)).heap.size = w2.heap.size + 1 := by simp
  rw [sz] at N3
  have H0 := hide (MQR.start (lo := w.heap.size + 1) N3 ((hown.quiet oA).quiet oB) (unhide HT).1 (unhide HT).2 N2 (by omega) (by omega))
  have HG := hide (show Has ((w2.alloc (.cells (tabV 12 smz) 253)).alloc (.cells #[tv, .int .i64 0, .bool false] 325)) w.heap.size #[.int .i64 0, .string ⟨#[]⟩, .slice none 0 0, .int .i64 0, .slice none 0 0, .slice none 0 0, .bool false, .slice none 0 0, .string ⟨#[]⟩, .bool false, .bool false, .int .i64 0] 253 ∧ Only (fun _ => False) w ((w2.alloc (.cells (tabV 12 smz) 253)).alloc (.cells #[tv, .int .i64 0, .bool false] 325)) from ⟨(((unhide HN).1.keep ho (fun e => e)).keep oA (fun e => e)).keep oB (fun e => e), (((unhide HN).2.trans ho (fun _ _ e => e)).trans oA (fun _ _ e => e)).trans oB (fun _ _ e => e)⟩)
  rw [smz_tab] at H0 HG
  rw [htv] at H0 HG ⊢
  clear N2 N3 oA oB sz hown ho hh HN C1 htv tv g2 b1
  have hta : (toks t 0).1.length ≤ 256 := Nat.le_trans (toks_len (t := t) (i := 0) (Nat.zero_le _)) (by have := (unhide HT).1; omega)
  generalize htn : (toks t 0).1.length = tn at H0 HG ⊢
  have HTn := hide (And.intro htn hta)
  clear htn hta
  go_upto_region 8 with fail
  generalize (w2.alloc (.cells #[.int .i64 0, .string ⟨#[]⟩, .slice none 0 0, .int .i64 0, .slice none 0 0, .slice none 0 0, .bool false, .slice none 0 0, .string ⟨#[]⟩, .bool false, .bool false, .int .i64 0] 253)).alloc (.cells #[.slice ta tn tc, .int .i64 0, .bool false] 325) = w3 at *
  generalize w2.heap.size + 1 = kr at *
  generalize w2.heap.size = ks at *
  obtain ⟨tv, htv⟩ : ∃ v, Value.slice ta tn tc = v := ⟨_, rfl⟩
  rw [htv] at H0
  have Htv := hide htv
  obtain ⟨g, hg⟩ : ∃ g, w.heap.size = g := ⟨_, rfl⟩
  rw [hg] at H0 HG ⊢
  have Hg := hide hg
  obtain ⟨P0, hP0⟩ : ∃ P, toks t 0 = P := ⟨_, rfl⟩
  have HPQ := hide (show parQ t = senP P0 St.z by rw [← hP0]; rfl)
  obtain ⟨tl, htl⟩ : ∃ l, (toks t 0).1 = l := ⟨_, rfl⟩
  rw [htl] at H0 HTn
  have HPl := hide (show P0.1.length ≤ 256 by rw [← hP0, htl]; have := (unhide HTn); omega)
  rw [hP0] at H0 HT HK HK2
  have HQ3 := hide (show MqP (g + 1) kr ks tv tl P0 (Ms.of St.z) w3 w3 from ⟨unhide H0, Only.refl _ _⟩)
  clear H0 htv hg hP0 htl
  have C1 := smeat_no (unhide HQ3).1.rd (⟨#[66, 69, 71, 73, 78]⟩ : ByteArray) (.inl (by decide +kernel)) (unhide HT).2 (eat_only (unhide HK) (show wCREATE ≠ wBEGIN by decide))
  have C1 := hide C1
  go_wp2_with fail
  refine (unhide C1).mono ?_
  rintro e w4 ⟨rfl, hh⟩
  have HR1 := hide ((unhide HQ3).trans ((unhide HQ3).1.parP hh (fun c => c)))
  clear C1 hh HQ3
  have C1 := smeat_no (unhide HR1).1.rd (⟨#[67, 79, 77, 77, 73, 84]⟩ : ByteArray) (.inl (by decide +kernel)) (unhide HT).2 (eat_only (unhide HK) (show wCREATE ≠ wCOMMIT by decide))
  have C1 := hide C1
  go_wp2_with fail
  refine (unhide C1).mono ?_
  rintro e w5 ⟨rfl, hh⟩
  have HR2 := hide ((unhide HR1).trans ((unhide HR1).1.parP hh (fun c => c)))
  clear C1 hh HR1
  have C1 := smeat_no (unhide HR2).1.rd (⟨#[82, 79, 76, 76, 66, 65, 67, 75]⟩ : ByteArray) (.inl (by decide +kernel)) (unhide HT).2 (eat_only (unhide HK) (show wCREATE ≠ wROLLBACK by decide))
  have C1 := hide C1
  go_wp2_with fail
  refine (unhide C1).mono ?_
  rintro e w6 ⟨rfl, hh⟩
  have HR3 := hide ((unhide HR2).trans ((unhide HR2).1.parP hh (fun c => c)))
  clear C1 hh HR2
  have C1 := smeat_yes (unhide HR3).1.rd (⟨#[67, 82, 69, 65, 84, 69]⟩ : ByteArray) (.inl (by decide +kernel)) (unhide HT).2 (unhide HK)
  have C1 := hide C1
  go_wp2_with fail
  refine (unhide C1).mono ?_
  rintro e w7 ⟨rfl, hh⟩
  have HR4 := hide ((unhide HR3).trans ((unhide HR3).1.parP hh next_good))
  clear C1 hh HR3
  have C1 := smeat_yes (unhide HR4).1.rd (⟨#[84, 65, 66, 76, 69]⟩ : ByteArray) (.inl (by decide +kernel)) (unhide HT).2 (unhide HK2)
  have C1 := hide C1
  go_wp2_with fail
  refine (unhide C1).mono ?_
  rintro e w8 ⟨rfl, hh⟩
  have HR5 := hide ((unhide HR4).trans ((unhide HR4).1.parP hh next_good))
  clear C1 hh HR4
  obtain ⟨v0, c0, f0, kl⟩ := (unhide HR5).1.at_ (i := 0) (by omega)
  have HR6 := hide ((unhide HR5).trans ((unhide HR5).1.set (i := 0) (v := .int .i64 4) (by unfold smj; omega) rfl (fun S _ hS => hS.kind_)))
  clear  HR5
  go_upto_region 17 with fail
  generalize w8.setCell ⟨ks, 0, none⟩ (.int .i64 4) = w9 at *
  clear c0 f0 kl
  have C1 := smname_any (unhide HR6).1.rd
  unfold QmNm at C1
  have C1 := hide C1
  go_wp2_with fail
  refine (unhide C1).mono ?_
  rintro e w10 ⟨nv, rfl, hnv, hh⟩
  have HR7 := hide ((unhide HR6).trans ((unhide HR6).1.parP hh name_good))
  clear C1 hh HR6
  have Hnv := hide hnv
  clear hnv
  obtain ⟨v0, c0, f0, kl⟩ := (unhide HR7).1.at_ (i := 1) (by omega)
  have HR8 := hide ((unhide HR7).trans ((unhide HR7).1.set (i := 1) (v := .string nv) (by unfold smj; omega) rfl (fun S hc hS => by rw [unhide Hnv (name_good hc)]; exact hS.table_)))
  clear Hnv HR7
  go_upto_region 18 with fail
  generalize w10.setCell ⟨ks, 1, none⟩ (.string nv) = w11 at *
  clear c0 f0 kl
  have C1 := smwant_any (unhide HR8).1.rd (⟨#[40]⟩ : ByteArray) (.inr (by decide +kernel))
  have C1 := hide C1
  go_wp2_with fail
  refine (unhide C1).mono ?_
  rintro e w12 ⟨rfl, hh⟩
  have HR9 := hide ((unhide HR8).trans ((unhide HR8).1.parP (P' := (wantP wLP (nameP (nextP (nextP P0))))) hh want_good))
  clear C1 hh HR8
  obtain ⟨nm, hnm⟩ : ∃ x, x = nameV (nextP (nextP P0)) := ⟨_, rfl⟩
  obtain ⟨Pa, hPa⟩ : ∃ x, x = wantP wLP (nameP (nextP (nextP P0))) := ⟨_, rfl⟩
  obtain ⟨R, hR⟩ : ∃ R, R = listP colL wCOMMA Pa [] := ⟨_, rfl⟩
  have hPl : Pa.1.length ≤ P0.1.length := by rw [hPa]; exact (Nat.le_trans (wantP_len _ _) (Nat.le_trans (nameP_len _) (Nat.le_trans (nextP_len _) (nextP_len _))))
  have HS := hide (show LpK (fun q => ({ Ms.of St.z with kind := 4, table := nm, defs := q.map (·.1), pk := pkF 0 q 0 } : Ms)) (fun q => (kyN q : Int)) colL wCOMMA w3 (g + 1) kr ks tv tl R (2 * Pa.1.length + 1) (.int .i64 0) (.bool true) w12 from LpK.start (P := Pa) (by rw [hnm, hPa]; exact unhide HR9) rfl hR (fun c => by (rw [hR]; exact list_fail (bad_fail (by rw [hPa]; exact (unhide HR9).1.rd) c) rfl)) (by have := unhide HPl; omega) (Nat.le_refl _))
  have HE := hide (And.intro hnm (show R = tabL (nextP (nextP P0)) by rw [hR, hPa]; rfl))
  clear HR9 hnm hPa hR hPl
  go_upto_region 21 with fail
  go_loopg [8, 9, 10] (2 * Pa.1.length + 1) (fun gk kv mv _ wr => LpK (fun q => ({ Ms.of St.z with kind := 4, table := nm, defs := q.map (·.1), pk := pkF 0 q 0 } : Ms)) (fun q => (kyN q : Int)) colL wCOMMA w3 (g + 1) kr ks tv tl R gk kv mv wr)
  case atStart => exact unhide HS
  case round =>
    clear HS
    obtain ⟨k, b, P1, q, rfl, rfl, hky, hrest⟩ := hrel
    have HKy := hide hky
    clear hky
    have hrel : LpI (fun q => ({ Ms.of St.z with kind := 4, table := nm, defs := q.map (·.1), pk := pkF 0 q 0 } : Ms)) colL wCOMMA w3 (g + 1) kr ks tv tl R gk (.bool b) wr → True := fun _ => trivial
    clear hrel
    obtain ⟨hQ, hlen, hR1, hR2, oW, hgk⟩ := hrest
    skip
    obtain ⟨i, bad, hc, hP1⟩ := hQ.rd
    have c2 : wr.cell? ⟨kr, 2, none⟩ = some (.bool bad) := hc.has.cell 2
    have kl := hc.has.lt
    have HB := hide (And.intro hQ (And.intro hlen (And.intro hR1 (And.intro hR2 (And.intro oW (And.intro hgk hP1))))))
    clear hQ hlen hR1 hR2 oW hgk hP1 hc
    go_upto_region 21 with fail
    go_cut [56] from 49 to 55 (fun bv wx => bv = .bool (b && !bad) ∧ wr = wx)
    case first =>
      cases b with
      | false => (go_wp2_with fail; go_meet; exact ⟨rfl, rfl⟩)
      | true => (cases bad with | false => (go_wp2_with fail; go_meet; exact ⟨rfl, rfl⟩) | true => (go_wp2_with fail; go_meet; exact ⟨rfl, rfl⟩))
    case rest =>
    obtain ⟨rfl, hwc⟩ := hcut
    subst hwc
    clear c2 kl
    obtain ⟨c, hcc⟩ : ∃ c, (b && !bad) = c := ⟨_, rfl⟩
    rw [hcc]
    cases c with
    | false =>
      have hbb : b = false ∨ P1.2 = false := by
        cases b with
        | false => exact .inl rfl
        | true => (cases bad with | false => (cases hcc) | true => exact .inr (by rw [(unhide HB).2.2.2.2.2.2]; rfl))
      have HD := hide (LpI.done (f := fun q => ({ Ms.of St.z with kind := 4, table := nm, defs := q.map (·.1), pk := pkF 0 q 0 } : Ms)) (body := colL) (sep := wCOMMA) (unhide HB).1 (unhide HB).2.2.1 (unhide HB).2.2.2.1 (unhide HB).2.2.2.2.1 hbb)
      have HKD := hide (LpK.cnt (κ := fun q => (kyN q : Int)) (unhide HKy) (unhide HB).2.2.1 (unhide HB).2.2.2.1 hbb)
      clear HB hcc hbb HKy
      have C1 := smwant_any (unhide HD).1.rd (⟨#[41]⟩ : ByteArray) (.inr (by decide +kernel))
      have C1 := hide C1
      go_wp2_with fail
      refine (unhide C1).mono ?_
      rintro e w51 ⟨rfl, hh⟩
      have HR10 := hide ((unhide HD).trans ((unhide HD).1.parP (P' := (wantP wRP R.1)) hh want_good))
      clear C1 hh HD
      obtain ⟨FP, hFP⟩ : ∃ x, x = tabP (nextP (nextP P0)) St.z := ⟨_, rfl⟩
      have HTE := hide (tab_end (st := St.z) (unhide HE).2 (unhide HR10).1.rd (unhide HKD))
      rw [← hFP] at HTE
      have HF2 := hide (show FP.2 = { St.z with kind := 4, table := nm, defs := R.2.map (·.1), pk := pkF 0 R.2 0 } by rw [hFP, (unhide HE).1, (unhide HE).2]; rfl)
      have HFP := hide hFP
      clear hFP
      obtain ⟨ib, bad, hcx, hPx⟩ := (unhide HR10).1.rd
      have e2 : w51.cell? ⟨kr, 2, none⟩ = some (.bool bad) := hcx.has.cell 2
      have f2 := hcx.has.free 2
      have kl4 := hcx.has.lt
      have HJ := hide hcx
      clear hcx hPx
      obtain ⟨kb, hkb⟩ : ∃ b, (k != 1) = b := ⟨_, rfl⟩
      have Hkb := hide hkb
      go_upto_region 32 with fail
      go_cut [84] from 83 to 83 (fun v wx => v = .bool kb ∧ w51 = wx)
      case first => (go_wp2_with fail; go_meet; exact ⟨by first | rfl | rw [hkb], rfl⟩)
      case rest =>
      obtain ⟨rfl, hwx⟩ := hcut
      subst hwx
      clear hkb
      go_upto_if 84 with fail
      go_cut [] from 84 to 87 (fun wx => MqP (g + 1) kr ks tv tl FP.1 (Ms.of FP.2) w3 wx)
      case first =>
        have hmo : Ms.of FP.2 = ({ Ms.of St.z with kind := 4, table := nm, defs := (R.2).map (·.1), pk := pkF 0 (R.2) 0 } : Ms) := by rw [unhide HF2]; simp [Ms.of, St.z]
        cases kb with
        | false =>
          have FF := hide (show MqP (g + 1) kr ks tv tl FP.1 (Ms.of FP.2) w3 w51 from by
            have e1 : k = 1 := by have := unhide Hkb; simpa using this
            rw [hmo, ← (unhide HTE).1 e1]
            exact unhide HR10)
          clear hmo
          go_wp2_with fail
          go_meet
          exact unhide FF
        | true =>
          have FF := hide (show MqP (g + 1) kr ks tv tl FP.1 (Ms.of FP.2) w3 (w51.setCell ⟨kr, 2, none⟩ (.bool true)) from by
            have e1 : k ≠ 1 := by have := unhide Hkb; simpa using this
            rw [hmo, ← (unhide HTE).2 e1]
            have hf := (unhide HJ).fail
            exact (unhide HR10).trans ((unhide HR10).1.parP hf (fun c => by cases c)))
          clear hmo
          go_wp2_with fail
          go_meet
          exact unhide FF
      case rest =>
      have HR200 := hide hcut
      clear hcut HJ Hkb HTE HKD e2 f2 kl4 HR10
      generalize wc = w200 at *
      go_upto_region 94 with fail
      have EQ := show parQ t = (FP.1, FP.2) from ((unhide HPQ).trans (sen_CREATE (unhide HK))).trans (by unfold creP; rw [unhide HK2, if_pos rfl, ← unhide HFP])
      have hq := unhide HR200
      obtain ⟨i, bad, hc, hP⟩ := hq.1.rd
      obtain ⟨S, hM, hO, hLn⟩ := hq.1.sq
      have hGe := (unhide HG).1.keep hq.2 (fun (c : g + 1 ≤ g) => by omega)
      have oW := (unhide HG).2.lateS hq.2 (fun k hk => by have e' : g + 1 ≤ k := hk; have := unhide Hg; omega)
      have hB := par_bool (unhide HT).1 EQ hc hP
      have HF := hide (fun (w' : World) (h2 : Only (fun k => k = g) w200.drew w') => MpP.fin (t := t) (unhide Hg) hM hO EQ rfl oW (((Only.refl (fun k => k = g) w200).drew).trans h2 (fun _ _ h => h)))
      have S0 : Has w200 ks (tabV 12 S.cell) 253 ∧ w200.cell? ⟨kr, 2, none⟩ = some (.bool bad) ∧ w200.cell? ⟨kr, 1, none⟩ = some (.int .i64 (i : Int)) ∧ w200.cell? ⟨kr, 0, none⟩ = some (.slice ta tn tc) := ⟨hM.has, hc.has.cell 2, hc.has.cell 1, by rw [unhide Htv]; exact hc.has.cell 0⟩
      have hone := tab12_all hM.one
      have hkg : ks ≠ g := by have := hq.1.klt; omega
      have hrg : kr ≠ g := by have := hq.1.lr; omega
      rw [(unhide HTn).1] at hB
      have hi256 : (i : Int) ≤ 256 := by have := hc.le; have := (unhide HTn); omega
      have htn256 : (tn : Int) ≤ 256 := by have := (unhide HTn); omega
      clear HR200 hq hc hP hM hO hLn oW EQ HG HPQ HT HTn Htv Hg HK HPl
      cases bad with
      | false =>
        rw [Bool.not_false, Bool.true_and] at hB
        obtain ⟨eb, heb⟩ : ∃ b, decide ((i : Int) = (tn : Int)) = b := ⟨_, rfl⟩
        have heb2 : ((i : Int) == (tn : Int)) = eb := by rw [← heb]; simp [BEq.beq]
        rw [heb] at hB
        have HB := hide hB
        clear hB heb
        refine wp_region_held_drew (S := (fun w' => Has w' ks (tabV 12 S.cell) 253 ∧ w'.cell? ⟨kr, 2, none⟩ = some (.bool false) ∧ w'.cell? ⟨kr, 1, none⟩ = some (.int .i64 (i : Int)) ∧ w'.cell? ⟨kr, 0, none⟩ = some (.slice ta tn tc))) (by kernel_rfl) S0 (fun hH0 => ?_)
        refine takeH 0 282 (v := .agg (tabV 12 S.cell)) rfl rfl (by kernel_rfl) (by kernel_rfl) (by kernel_rfl) (fun _ _ _ h => h) (yieldsIf_load_mst (by rfl) _ rfl ks rfl _ rfl (fun w h => h.1)) hH0 ?ref0
        case ref0 =>
        try simp only [Act.put, List.setIfInBounds_toArray, List.set_cons_zero, List.set_cons_succ]
        refine takeH 1 283 (v := ?vef1) rfl rfl (by kernel_rfl) (by kernel_rfl) (by kernel_rfl) (fun _ _ _ h => h) (Or.inl ⟨by rfl, ?hef1⟩) hH0 ?ref1
        case hef1 => (intro w hSw; clear hSw; go_simp; (try with_reducible rfl))
        case ref1 =>
        try simp only [Act.put, List.setIfInBounds_toArray, List.set_cons_zero, List.set_cons_succ]
        refine takeH 2 284 (v := ?vef2) rfl rfl (by kernel_rfl) (by kernel_rfl) (by kernel_rfl) (fun _ _ _ h => h) (Or.inl ⟨by rfl, ?hef2⟩) hH0 ?ref2
        case hef2 => (intro w hSw; clear hSw; go_simp; (try with_reducible rfl))
        case ref2 =>
        try simp only [Act.put, List.setIfInBounds_toArray, List.set_cons_zero, List.set_cons_succ]
        refine takeH 3 285 (v := ?vef3) rfl rfl (by kernel_rfl) (by kernel_rfl) (by kernel_rfl) (fun _ _ _ h => h) (Or.inl ⟨by rfl, ?hef3⟩) hH0 ?ref3
        case hef3 => (intro w hSw; clear hSw; go_simp; (try with_reducible rfl))
        case ref3 =>
        try simp only [Act.put, List.setIfInBounds_toArray, List.set_cons_zero, List.set_cons_succ]
        refine takeH 4 286 (v := ?vef4) rfl rfl (by kernel_rfl) (by kernel_rfl) (by kernel_rfl) (fun _ _ _ h => h) (Or.inl ⟨by rfl, ?hef4⟩) hH0 ?ref4
        case hef4 => (intro w hSw; obtain ⟨_, s1, s2, s3⟩ := hSw; go_simp; (try with_reducible rfl))
        case ref4 =>
        try simp only [Act.put, List.setIfInBounds_toArray, List.set_cons_zero, List.set_cons_succ]
        refine takeH 5 287 (v := ?vef5) rfl rfl (by kernel_rfl) (by kernel_rfl) (by kernel_rfl) (fun _ _ _ h => h) (Or.inl ⟨by rfl, ?hef5⟩) hH0 ?ref5
        case hef5 => (intro w hSw; clear hSw; go_simp; (try with_reducible rfl))
        case ref5 =>
        try simp only [Act.put, List.setIfInBounds_toArray, List.set_cons_zero, List.set_cons_succ]
        refine takeH 6 288 (v := ?vef6) rfl rfl (by kernel_rfl) (by kernel_rfl) (by kernel_rfl) (fun _ _ _ h => h) (Or.inl ⟨by rfl, ?hef6⟩) hH0 ?ref6
        case hef6 => (intro w hSw; clear hSw; go_simp; (try with_reducible rfl))
        case ref6 =>
        try simp only [Act.put, List.setIfInBounds_toArray, List.set_cons_zero, List.set_cons_succ]
        refine takeH 7 289 (v := ?vef7) rfl rfl (by kernel_rfl) (by kernel_rfl) (by kernel_rfl) (fun _ _ _ h => h) (Or.inl ⟨by rfl, ?hef7⟩) hH0 ?ref7
        case hef7 => (intro w hSw; clear hSw; go_simp; (try with_reducible rfl))
        case ref7 =>
        try simp only [Act.put, List.setIfInBounds_toArray, List.set_cons_zero, List.set_cons_succ]
        refine takeH 8 290 (v := ?vef8) rfl rfl (by kernel_rfl) (by kernel_rfl) (by kernel_rfl) (fun _ _ _ h => h) (Or.inl ⟨by rfl, ?hef8⟩) hH0 ?ref8
        case hef8 => (intro w hSw; clear hSw; go_simp; (try with_reducible rfl))
        case ref8 =>
        try simp only [Act.put, List.setIfInBounds_toArray, List.set_cons_zero, List.set_cons_succ]
        refine takeH 9 291 (v := ?vef9) rfl rfl (by kernel_rfl) (by kernel_rfl) (by kernel_rfl) (fun _ _ _ h => h) (Or.inl ⟨by rfl, ?hef9⟩) hH0 ?ref9
        case hef9 => (intro w hSw; clear hSw; go_simp; (try with_reducible rfl))
        case ref9 =>
        try simp only [Act.put, List.setIfInBounds_toArray, List.set_cons_zero, List.set_cons_succ]
        refine takeH 10 292 (v := ?vef10) rfl rfl (by kernel_rfl) (by kernel_rfl) (by kernel_rfl) (fun _ _ _ h => h) (Or.inl ⟨by rfl, ?hef10⟩) hH0 ?ref10
        case hef10 => (intro w hSw; obtain ⟨_, s1, s2, s3⟩ := hSw; go_simp; (try with_reducible rfl))
        case ref10 =>
        try simp only [Act.put, List.setIfInBounds_toArray, List.set_cons_zero, List.set_cons_succ]
        refine takeH 11 293 (v := ?vef11) rfl rfl (by kernel_rfl) (by kernel_rfl) (by kernel_rfl) (fun _ _ _ h => h) (Or.inl ⟨by rfl, ?hef11⟩) hH0 ?ref11
        case hef11 => (intro w hSw; clear hSw; go_simp; (try with_reducible rfl))
        case ref11 =>
        try simp only [Act.put, List.setIfInBounds_toArray, List.set_cons_zero, List.set_cons_succ]
        refine takeH 12 294 (v := ?vef12) rfl rfl (by kernel_rfl) (by kernel_rfl) (by kernel_rfl) (fun _ _ _ h => h) (Or.inl ⟨by rfl, ?hef12⟩) hH0 ?ref12
        case hef12 => (intro w hSw; clear hSw; go_simp; (try with_reducible rfl))
        case ref12 =>
        try simp only [Act.put, List.setIfInBounds_toArray, List.set_cons_zero, List.set_cons_succ]
        refine takeH 13 295 (v := ?vef13) rfl rfl (by kernel_rfl) (by kernel_rfl) (by kernel_rfl) (fun _ _ _ h => h) (Or.inl ⟨by rfl, ?hef13⟩) hH0 ?ref13
        case hef13 => (intro w hSw; clear hSw; go_simp; (try with_reducible rfl))
        case ref13 =>
        try simp only [Act.put, List.setIfInBounds_toArray, List.set_cons_zero, List.set_cons_succ]
        refine takeH 14 296 (v := ?vef14) rfl rfl (by kernel_rfl) (by kernel_rfl) (by kernel_rfl) (fun _ _ _ h => h) (Or.inl ⟨by rfl, ?hef14⟩) hH0 ?ref14
        case hef14 => (intro w hSw; obtain ⟨_, s1, s2, s3⟩ := hSw; go_simp; (try with_reducible rfl))
        case ref14 =>
        try simp only [Act.put, List.setIfInBounds_toArray, List.set_cons_zero, List.set_cons_succ]
        refine takeH 15 297 (v := ?vef15) rfl rfl (by kernel_rfl) (by kernel_rfl) (by kernel_rfl) (fun _ _ _ h => h) (Or.inl ⟨by rfl, ?hef15⟩) hH0 ?ref15
        case hef15 => (intro w hSw; clear hSw; go_simp; (try with_reducible rfl))
        case ref15 =>
        try simp only [Act.put, List.setIfInBounds_toArray, List.set_cons_zero, List.set_cons_succ]
        refine takeH 16 298 (v := ?vef16) rfl rfl (by kernel_rfl) (by kernel_rfl) (by kernel_rfl) (fun _ _ _ h => h) (Or.inl ⟨by rfl, ?hef16⟩) hH0 ?ref16
        case hef16 => (intro w hSw; clear hSw; go_simp; (try with_reducible rfl))
        case ref16 =>
        try simp only [Act.put, List.setIfInBounds_toArray, List.set_cons_zero, List.set_cons_succ]
        refine takeH 17 299 (v := ?vef17) rfl rfl (by kernel_rfl) (by kernel_rfl) (by kernel_rfl) (fun _ _ _ h => h) (Or.inl ⟨by rfl, ?hef17⟩) hH0 ?ref17
        case hef17 => (intro w hSw; clear hSw; go_simp; (try with_reducible rfl))
        case ref17 =>
        try simp only [Act.put, List.setIfInBounds_toArray, List.set_cons_zero, List.set_cons_succ]
        refine storeH_row 253 18 (by kernel_rfl) rfl rfl rfl _ _ rfl g (tabV 12 S.cell) #[.int .i64 0, .string ⟨#[]⟩, .slice none 0 0, .int .i64 0, .slice none 0 0, .slice none 0 0, .bool false, .slice none 0 0, .string ⟨#[]⟩, .bool false, .bool false, .int .i64 0] rfl rfl (hGe.keep (show Only (fun _ => False) w200 w200.drew from (Only.refl _ w200).drew) (fun e => e)) Tryz.sizeSMStmt rfl hone ?_
        intro w9 hn9 ho9
        refine ⟨⟨hH0.1.keep ho9 hkg, cell_keep hH0.2.1 ho9 hrg, cell_keep hH0.2.2.1 ho9 hrg, cell_keep hH0.2.2.2 ho9 hrg⟩, ?_⟩
        try simp only [Act.put, List.setIfInBounds_toArray, List.set_cons_zero, List.set_cons_succ]
        have hH9 : Has w9 ks (tabV 12 S.cell) 253 ∧ w9.cell? ⟨kr, 2, none⟩ = some (.bool false) ∧ w9.cell? ⟨kr, 1, none⟩ = some (.int .i64 (i : Int)) ∧ w9.cell? ⟨kr, 0, none⟩ = some (.slice ta tn tc) := ⟨hH0.1.keep ho9 hkg, cell_keep hH0.2.1 ho9 hrg, cell_keep hH0.2.2.1 ho9 hrg, cell_keep hH0.2.2.2 ho9 hrg⟩
        refine takeH 19 3 (v := ?vef19) rfl rfl (by kernel_rfl) (by kernel_rfl) (by kernel_rfl) (fun _ _ _ h => h) (Or.inl ⟨by rfl, ?hef19⟩) hH9 ?ref19
        case hef19 => (intro w hSw; clear hSw; go_simp; (try with_reducible rfl))
        case ref19 =>
        try simp only [Act.put, List.setIfInBounds_toArray, List.set_cons_zero, List.set_cons_succ]
        refine wpAnyH_done (by kernel_rfl) ?_ _
        have FF := hide (unhide HF w9 ho9)
        rw [unhide HB] at FF
        clear HF HB ho9 hH9 hH0
        go_wp2_with fail
        refine bodyPost_ret (sres_mst rfl _ rfl hn9 rfl) rfl ?_
        exact unhide FF
      | true =>
        have HB := hide (show parB t = false from hB)
        clear hB
        refine wp_region_held_drew (S := (fun w' => Has w' ks (tabV 12 S.cell) 253 ∧ w'.cell? ⟨kr, 2, none⟩ = some (.bool true) ∧ w'.cell? ⟨kr, 1, none⟩ = some (.int .i64 (i : Int)) ∧ w'.cell? ⟨kr, 0, none⟩ = some (.slice ta tn tc))) (by kernel_rfl) S0 (fun hH0 => ?_)
        refine takeH 0 282 (v := .agg (tabV 12 S.cell)) rfl rfl (by kernel_rfl) (by kernel_rfl) (by kernel_rfl) (fun _ _ _ h => h) (yieldsIf_load_mst (by rfl) _ rfl ks rfl _ rfl (fun w h => h.1)) hH0 ?ret0
        case ret0 =>
        try simp only [Act.put, List.setIfInBounds_toArray, List.set_cons_zero, List.set_cons_succ]
        refine takeH 1 283 (v := ?vet1) rfl rfl (by kernel_rfl) (by kernel_rfl) (by kernel_rfl) (fun _ _ _ h => h) (Or.inl ⟨by rfl, ?het1⟩) hH0 ?ret1
        case het1 => (intro w hSw; clear hSw; go_simp; (try with_reducible rfl))
        case ret1 =>
        try simp only [Act.put, List.setIfInBounds_toArray, List.set_cons_zero, List.set_cons_succ]
        refine takeH 2 284 (v := ?vet2) rfl rfl (by kernel_rfl) (by kernel_rfl) (by kernel_rfl) (fun _ _ _ h => h) (Or.inl ⟨by rfl, ?het2⟩) hH0 ?ret2
        case het2 => (intro w hSw; clear hSw; go_simp; (try with_reducible rfl))
        case ret2 =>
        try simp only [Act.put, List.setIfInBounds_toArray, List.set_cons_zero, List.set_cons_succ]
        refine takeH 3 285 (v := ?vet3) rfl rfl (by kernel_rfl) (by kernel_rfl) (by kernel_rfl) (fun _ _ _ h => h) (Or.inl ⟨by rfl, ?het3⟩) hH0 ?ret3
        case het3 => (intro w hSw; clear hSw; go_simp; (try with_reducible rfl))
        case ret3 =>
        try simp only [Act.put, List.setIfInBounds_toArray, List.set_cons_zero, List.set_cons_succ]
        refine takeH 4 286 (v := ?vet4) rfl rfl (by kernel_rfl) (by kernel_rfl) (by kernel_rfl) (fun _ _ _ h => h) (Or.inl ⟨by rfl, ?het4⟩) hH0 ?ret4
        case het4 => (intro w hSw; obtain ⟨_, s1, s2, s3⟩ := hSw; go_simp; (try with_reducible rfl))
        case ret4 =>
        try simp only [Act.put, List.setIfInBounds_toArray, List.set_cons_zero, List.set_cons_succ]
        refine takeH 5 287 (v := ?vet5) rfl rfl (by kernel_rfl) (by kernel_rfl) (by kernel_rfl) (fun _ _ _ h => h) (Or.inl ⟨by rfl, ?het5⟩) hH0 ?ret5
        case het5 => (intro w hSw; clear hSw; go_simp; (try with_reducible rfl))
        case ret5 =>
        try simp only [Act.put, List.setIfInBounds_toArray, List.set_cons_zero, List.set_cons_succ]
        refine takeH 6 288 (v := ?vet6) rfl rfl (by kernel_rfl) (by kernel_rfl) (by kernel_rfl) (fun _ _ _ h => h) (Or.inl ⟨by rfl, ?het6⟩) hH0 ?ret6
        case het6 => (intro w hSw; clear hSw; go_simp; (try with_reducible rfl))
        case ret6 =>
        try simp only [Act.put, List.setIfInBounds_toArray, List.set_cons_zero, List.set_cons_succ]
        refine takeH 7 289 (v := undef) rfl rfl (by kernel_rfl) (by kernel_rfl) (by kernel_rfl) (fun _ _ _ h => h) (Or.inr ⟨by rfl, rfl⟩) hH0 ?ret7
        case ret7 =>
        try simp only [Act.put, List.setIfInBounds_toArray, List.set_cons_zero, List.set_cons_succ]
        refine takeH 8 290 (v := undef) rfl rfl (by kernel_rfl) (by kernel_rfl) (by kernel_rfl) (fun _ _ _ h => h) (Or.inr ⟨by rfl, rfl⟩) hH0 ?ret8
        case ret8 =>
        try simp only [Act.put, List.setIfInBounds_toArray, List.set_cons_zero, List.set_cons_succ]
        refine takeH 9 291 (v := undef) rfl rfl (by kernel_rfl) (by kernel_rfl) (by kernel_rfl) (fun _ _ _ h => h) (Or.inr ⟨by rfl, rfl⟩) hH0 ?ret9
        case ret9 =>
        try simp only [Act.put, List.setIfInBounds_toArray, List.set_cons_zero, List.set_cons_succ]
        refine takeH 10 292 (v := undef) rfl rfl (by kernel_rfl) (by kernel_rfl) (by kernel_rfl) (fun _ _ _ h => h) (Or.inr ⟨by rfl, rfl⟩) hH0 ?ret10
        case ret10 =>
        try simp only [Act.put, List.setIfInBounds_toArray, List.set_cons_zero, List.set_cons_succ]
        refine takeH 11 293 (v := undef) rfl rfl (by kernel_rfl) (by kernel_rfl) (by kernel_rfl) (fun _ _ _ h => h) (Or.inr ⟨by rfl, rfl⟩) hH0 ?ret11
        case ret11 =>
        try simp only [Act.put, List.setIfInBounds_toArray, List.set_cons_zero, List.set_cons_succ]
        refine takeH 12 294 (v := undef) rfl rfl (by kernel_rfl) (by kernel_rfl) (by kernel_rfl) (fun _ _ _ h => h) (Or.inr ⟨by rfl, rfl⟩) hH0 ?ret12
        case ret12 =>
        try simp only [Act.put, List.setIfInBounds_toArray, List.set_cons_zero, List.set_cons_succ]
        refine takeH 13 295 (v := undef) rfl rfl (by kernel_rfl) (by kernel_rfl) (by kernel_rfl) (fun _ _ _ h => h) (Or.inr ⟨by rfl, rfl⟩) hH0 ?ret13
        case ret13 =>
        try simp only [Act.put, List.setIfInBounds_toArray, List.set_cons_zero, List.set_cons_succ]
        refine takeH 14 296 (v := undef) rfl rfl (by kernel_rfl) (by kernel_rfl) (by kernel_rfl) (fun _ _ _ h => h) (Or.inr ⟨by rfl, rfl⟩) hH0 ?ret14
        case ret14 =>
        try simp only [Act.put, List.setIfInBounds_toArray, List.set_cons_zero, List.set_cons_succ]
        refine takeH 15 297 (v := undef) rfl rfl (by kernel_rfl) (by kernel_rfl) (by kernel_rfl) (fun _ _ _ h => h) (Or.inr ⟨by rfl, rfl⟩) hH0 ?ret15
        case ret15 =>
        try simp only [Act.put, List.setIfInBounds_toArray, List.set_cons_zero, List.set_cons_succ]
        refine takeH 16 298 (v := undef) rfl rfl (by kernel_rfl) (by kernel_rfl) (by kernel_rfl) (fun _ _ _ h => h) (Or.inr ⟨by rfl, rfl⟩) hH0 ?ret16
        case ret16 =>
        try simp only [Act.put, List.setIfInBounds_toArray, List.set_cons_zero, List.set_cons_succ]
        refine takeH 17 299 (v := ?vet17) rfl rfl (by kernel_rfl) (by kernel_rfl) (by kernel_rfl) (fun _ _ _ h => h) (Or.inl ⟨by rfl, ?het17⟩) hH0 ?ret17
        case het17 => (intro w hSw; clear hSw; go_simp; (try with_reducible rfl))
        case ret17 =>
        try simp only [Act.put, List.setIfInBounds_toArray, List.set_cons_zero, List.set_cons_succ]
        refine storeH_row 253 18 (by kernel_rfl) rfl rfl rfl _ _ rfl g (tabV 12 S.cell) #[.int .i64 0, .string ⟨#[]⟩, .slice none 0 0, .int .i64 0, .slice none 0 0, .slice none 0 0, .bool false, .slice none 0 0, .string ⟨#[]⟩, .bool false, .bool false, .int .i64 0] rfl rfl (hGe.keep (show Only (fun _ => False) w200 w200.drew from (Only.refl _ w200).drew) (fun e => e)) Tryz.sizeSMStmt rfl hone ?_
        intro w9 hn9 ho9
        refine ⟨⟨hH0.1.keep ho9 hkg, cell_keep hH0.2.1 ho9 hrg, cell_keep hH0.2.2.1 ho9 hrg, cell_keep hH0.2.2.2 ho9 hrg⟩, ?_⟩
        try simp only [Act.put, List.setIfInBounds_toArray, List.set_cons_zero, List.set_cons_succ]
        have hH9 : Has w9 ks (tabV 12 S.cell) 253 ∧ w9.cell? ⟨kr, 2, none⟩ = some (.bool true) ∧ w9.cell? ⟨kr, 1, none⟩ = some (.int .i64 (i : Int)) ∧ w9.cell? ⟨kr, 0, none⟩ = some (.slice ta tn tc) := ⟨hH0.1.keep ho9 hkg, cell_keep hH0.2.1 ho9 hrg, cell_keep hH0.2.2.1 ho9 hrg, cell_keep hH0.2.2.2 ho9 hrg⟩
        refine takeH 19 3 (v := ?vet19) rfl rfl (by kernel_rfl) (by kernel_rfl) (by kernel_rfl) (fun _ _ _ h => h) (Or.inl ⟨by rfl, ?het19⟩) hH9 ?ret19
        case het19 => (intro w hSw; clear hSw; go_simp; (try with_reducible rfl))
        case ret19 =>
        try simp only [Act.put, List.setIfInBounds_toArray, List.set_cons_zero, List.set_cons_succ]
        refine wpAnyH_done (by kernel_rfl) ?_ _
        have FF := hide (unhide HF w9 ho9)
        rw [unhide HB] at FF
        clear HF HB ho9 hH9 hH0
        go_wp2_with fail
        refine bodyPost_ret (sres_mst rfl _ rfl hn9 rfl) rfl ?_
        exact unhide FF
    | true =>
      have hb1 : b = true := by cases b; exact hcc; rfl
      have hb2 : bad = false := by cases bad; rfl; (rw [hb1] at hcc; cases hcc)
      have hg1 : P1.2 = true := by rw [(unhide HB).2.2.2.2.2.2, hb2]; rfl
      subst hb1
      clear hcc hb2
      have hQ := (unhide HB).1
      have hl1 : q.length + P1.1.length + 1 ≤ 1000 := by have h := (unhide HB).2.1 hg1; unfold gB at h; rw [hg1] at h; simpa using h
      have hgk1 : 2 * P1.1.length + 1 ≤ gk := by have h := (unhide HB).2.2.2.2.2.1; unfold gB at h; rw [hg1] at h; simpa using h
      have hR1 : R = listP colL wCOMMA P1 q := (unhide HB).2.2.1 hg1
      have hkk : k = (kyN q : Int) := unhide HKy hg1
      have hkb : (kyN q : Int) ≤ 1000 := by have h1 : kyN q ≤ q.length := List.length_filter_le _ _; omega
      obtain ⟨kn, hkn⟩ : ∃ n, kyN q = n := ⟨_, rfl⟩
      rw [hkn] at hkk hkb
      subst hkk
      have Hkn := hide hkn
      clear hkn HKy
      obtain ⟨S, hM, hO, hLn⟩ := hQ.sq
      have hO := hO hg1
      have hlr := hQ.lr
      have klt := hQ.klt
      have oW := (unhide HB).2.2.2.2.1
      have tlt : ∀ b, tv.ownBlock = some b → b < wr.heap.size := fun b hb => ownsRow_lt hQ.rd.own b hb
      have blt := hM.blt
      have C1 := smname_any hQ.rd
      unfold QmNm at C1
      have C1 := hide C1
      have HM := hide hM
      have HRd0 := hide hQ.rd
      have HBO := hide (And.intro hO (And.intro hLn (And.intro hg1 (And.intro hR1 (And.intro hl1 (And.intro hgk1 oW))))))
      have HBl := hide blt
      have HTl := hide tlt
      have HRd := hide (fun (wa wb : World) (S1 : Sq) (Px Py : Ps) (h2 : MRd wa kr tv tl Px) (h1 : SMM (g + 1) wa ks S1) (hp : MRp kr tv tl Py wa wb) => show SMM (g + 1) wb ks S1 from by
        obtain ⟨c, hc⟩ := h2.hasR
        exact h1.keep hp.2 (fun b hb e => h1.par hc b hb e))
      clear HB hQ hM hO hLn hR1 hl1 hgk1 oW blt tlt hg1
      go_wp2_with fail
      refine (unhide C1).mono ?_
      rintro e wa ⟨nv, rfl, hnv, hh⟩
      have sza : wr.heap.size ≤ wa.heap.size := hh.2.size
      have oC : Only (fun _ => False) wa (wa.alloc (.cells #[.string nv, .bool false] 149)) := (Only.refl _ wa).alloc _
      have HC := hide (Has.new wa #[.string nv, .bool false] 149)
      have HX := hide (show SMM (g + 1) (wa.alloc (.cells #[.string nv, .bool false] 149)) ks S ∧ MRd (wa.alloc (.cells #[.string nv, .bool false] 149)) kr tv tl (nameP P1) ∧ Only (fun b => g + 1 ≤ b) w3 (wa.alloc (.cells #[.string nv, .bool false] 149)) from ⟨(unhide HRd _ _ S _ _ (unhide HRd0) (unhide HM) hh).quiet oC, hh.1.quiet oC, ((unhide HBO).2.2.2.2.2.2.trans hh.2 (fun b _ e => by have e' : b = kr := e; omega)).trans oC (fun _ _ e => e.elim)⟩)
      obtain ⟨P2, hP2⟩ : ∃ x, nameP P1 = x := ⟨_, rfl⟩
      rw [hP2] at HX
      have HNV := hide (And.intro (hnv (unhide HBO).2.2.1) hP2)
      have HBl2 := hide (show (∀ b, (b = ks ∨ ∃ j, smj j ∧ (S.cell j).ownBlock = some b) → b < wa.heap.size) ∧ (∀ b, tv.ownBlock = some b → b < wa.heap.size) from ⟨fun b hb => by have := unhide HBl b hb; omega, fun b hb => by have := unhide HTl b hb; omega⟩)
      have kcp : wa.heap.size ≠ kr := by omega
      have kck : wa.heap.size ≠ ks := by omega
      have kcl : g + 1 ≤ wa.heap.size := by omega
      clear C1 hh HM HRd0 HBl HTl oC hnv hP2 klt sza
      go_upto_region 24 with fail
      generalize wa.alloc (.cells #[.string nv, .bool false] 149) = w1 at *
      generalize wa.heap.size = kc at *
      have HSt := hide (fun (wa wb : World) (Px : Ps) (o : Only (fun b => b = kc) wa wb) (h1 : SMM (g + 1) wa ks S) (h2 : MRd wa kr tv tl Px) (h3 : Only (fun b => g + 1 ≤ b) w3 wa) => show SMM (g + 1) wb ks S ∧ MRd wb kr tv tl Px ∧ Only (fun b => g + 1 ≤ b) w3 wb from ⟨h1.keep o (fun b hb e => by have e' : b = kc := e; have := (unhide HBl2).1 b hb; omega), h2.keep o (fun e => kcp (Eq.symm e)) (fun b hb e => by have e' : b = kc := e; have := (unhide HBl2).2 b hb; omega), h3.trans o (fun b _ e => by have e' : b = kc := e; omega)⟩)
      have C1 := hide (smeat_any (unhide HX).2.1 (⟨#[84, 69, 88, 84]⟩ : ByteArray) (.inl (by decide +kernel)))
      go_wp2_with fail
      refine (unhide C1).mono ?_
      rintro e w4 ⟨bt, rfl, p1, p2, p3⟩
      have HBT := hide (And.intro p1 (And.intro p2 p3))
      have hty := ty_read (w1 := w1) (unhide HX).2.1 p1
      have HTY := hide hty
      clear C1 p1 p2 p3 hty
      obtain ⟨P3, hP3⟩ : ∃ x, tyP P2 = x := ⟨_, rfl⟩
      rw [hP3] at HTY
      have HP3 := hide hP3
      clear hP3
      go_upto_if 63 with fail
      go_cut [] from 63 to 66 (fun wx => Has wx kc #[.string nv, .bool bt] 149 ∧ SMM (g + 1) wx ks S ∧ MRd wx kr tv tl P3 ∧ Only (fun b => g + 1 ≤ b) w3 wx)
      case first =>
        cases bt with
        | true =>
          have hp := (unhide HBT).2.1 (by trivial)
          have C4' := (unhide HC).keep hp.2 kcp
          have d1 : w4.cell? ⟨kc, 1, none⟩ = some (.bool false) := C4'.cell 1
          have g1 := C4'.free 1
          have kcl4 := C4'.lt
          have FF := hide (show Has (w4.setCell ⟨kc, 1, none⟩ (.bool true)) kc #[.string nv, .bool true] 149 ∧ SMM (g + 1) (w4.setCell ⟨kc, 1, none⟩ (.bool true)) ks S ∧ MRd (w4.setCell ⟨kc, 1, none⟩ (.bool true)) kr tv tl P3 ∧ Only (fun b => g + 1 ≤ b) w3 (w4.setCell ⟨kc, 1, none⟩ (.bool true)) from ⟨C4'.setCell 1 _, by
            rw [← (unhide HTY).1 (by trivial)]
            exact unhide HSt w4 _ _ (only1 (p := kc) 1 (.bool true)) (unhide HRd _ _ S _ _ (unhide HX).2.1 (unhide HX).1 hp) hp.1 ((unhide HX).2.2.trans hp.2 (fun b _ e => by have e' : b = kr := e; omega))⟩)
          clear hp C4'
          go_wp2_with fail
          go_meet
          exact unhide FF
        | false =>
          have hp := (unhide HBT).2.2 rfl
          have C := hide (smwant_any hp.1 (⟨#[73, 78, 84]⟩ : ByteArray) (.inl (by decide +kernel)))
          have HP := hide hp
          clear hp
          go_wp2_with fail
          refine (unhide C).mono ?_
          rintro e6 w6 ⟨rfl, hh⟩
          have FF := hide (show Has w6 kc #[.string nv, .bool false] 149 ∧ SMM (g + 1) w6 ks S ∧ MRd w6 kr tv tl P3 ∧ Only (fun b => g + 1 ≤ b) w3 w6 from by
            have hp := unhide HP
            have h4 := unhide HRd _ _ S _ _ (unhide HX).2.1 (unhide HX).1 hp
            refine ⟨((unhide HC).keep hp.2 kcp).keep hh.2 kcp, unhide HRd _ _ S _ _ hp.1 h4 hh, ?_, ((unhide HX).2.2.trans hp.2 (fun b _ e => by have e' : b = kr := e; omega)).trans hh.2 (fun b _ e => by have e' : b = kr := e; omega)⟩
            rw [← (unhide HTY).2 (by trivial)]
            exact hh.1)
          clear hh C HP
          go_wp2_with fail
          go_meet
          exact unhide FF
      case rest =>
      generalize wc = w6 at *
      have HX6 := hide hcut
      clear hcut HX HC
      have C1 := hide (smeat_any (unhide HX6).2.2.1 (⟨#[75, 69, 89]⟩ : ByteArray) (.inl (by decide +kernel)))
      go_wp2_with fail
      refine (unhide C1).mono ?_
      rintro e w7 ⟨bk, rfl, p1, p2, p3⟩
      have hpe := MRp.eat (x := wKEY) (unhide HX6).2.2.1 p1 p2 p3
      have HBk := hide p1
      have HX7 := hide (show Has w7 kc #[.string nv, .bool bt] 149 ∧ SMM (g + 1) w7 ks S ∧ MRd w7 kr tv tl (eatP wKEY P3) ∧ Only (fun b => g + 1 ≤ b) w3 w7 from ⟨(unhide HX6).1.keep hpe.2 kcp, unhide HRd _ _ S _ _ (unhide HX6).2.2.1 (unhide HX6).2.1 hpe, hpe.1, (unhide HX6).2.2.2.trans hpe.2 (fun b _ e => by have e' : b = kr := e; omega)⟩)
      obtain ⟨P4, hP4⟩ : ∃ x, eatP wKEY P3 = x := ⟨_, rfl⟩
      rw [hP4] at HX7
      have HP4 := hide hP4
      clear C1 p1 p2 p3 hpe HX6 hP4
      obtain ⟨pk1, hpk1⟩ : ∃ x : Int, x = (if bk = true then (q.length : Int) else pkF 0 q 0) := ⟨_, rfl⟩
      have Hpk1 := hide hpk1
      clear hpk1
      go_upto_if 68 with fail
      go_cut [8] from 68 to 74 (fun kv wx => kv = .int .i64 ((kn + (if bk = true then 1 else 0) : Nat) : Int) ∧ Has wx kc #[.string nv, .bool bt] 149 ∧ SMM (g + 1) wx ks (S.setC 3 (.int .i64 pk1)) ∧ MRd wx kr tv tl P4 ∧ Only (fun b => g + 1 ≤ b) w3 wx)
      case first =>
        cases bk with
        | false =>
          have FF := hide (show Has w7 kc #[.string nv, .bool bt] 149 ∧ SMM (g + 1) w7 ks (S.setC 3 (.int .i64 pk1)) ∧ MRd w7 kr tv tl P4 ∧ Only (fun b => g + 1 ≤ b) w3 w7 from ⟨(unhide HX7).1, by
            have e : (.int .i64 pk1 : Value) = S.cell 3 := by rw [unhide Hpk1]; exact (unhide HBO).1.k3.symm
            rw [e, Sq.setC_same]
            exact (unhide HX7).2.1, (unhide HX7).2.2⟩)
          go_wp2_with fail
          go_meet
          exact ⟨by simp, unhide FF⟩
        | true =>
          have hM7 := (unhide HX7).2.1
          have hln : S.ln 2 = q.length := by rw [(unhide HBO).1.x2.2]; simp
          have own2 := hM7.own 2 (by unfold smj; omega)
          obtain ⟨a, cap, hcell⟩ := ownsRow_shape own2
          rw [hln] at hcell
          have z0 := hM7.cl (i := 2) (by omega)
          rw [hcell] at z0
          have z3 := hM7.cl (i := 3) (by omega)
          have zf3 := hM7.fr 3
          have kl7 := hM7.lt
          obtain ⟨ln, hlnn⟩ : ∃ n, q.length = n := ⟨_, rfl⟩
          rw [hlnn] at z0
          have o8 : Only (fun b => b = ks) w7 (w7.setCell ⟨ks, 3, none⟩ (.int .i64 (ln : Int))) := only1 _ _
          have FF := hide (show Has (w7.setCell ⟨ks, 3, none⟩ (.int .i64 (ln : Int))) kc #[.string nv, .bool bt] 149 ∧ SMM (g + 1) (w7.setCell ⟨ks, 3, none⟩ (.int .i64 (ln : Int))) ks (S.setC 3 (.int .i64 pk1)) ∧ MRd (w7.setCell ⟨ks, 3, none⟩ (.int .i64 (ln : Int))) kr tv tl P4 ∧ Only (fun b => g + 1 ≤ b) w3 (w7.setCell ⟨ks, 3, none⟩ (.int .i64 (ln : Int))) from by
            have e : pk1 = (ln : Int) := by rw [unhide Hpk1, hlnn]; rfl
            rw [e]
            obtain ⟨rc, hrc⟩ := (unhide HX7).2.2.1.hasR
            refine ⟨(unhide HX7).1.keep o8 kck, hM7.setC (by unfold smj; omega) _ rfl, (unhide HX7).2.2.1.keep o8 (fun c => hM7.par hrc ks (.inl rfl) (Eq.symm c)) (fun b hb c => hM7.tok (unhide HX7).2.2.1.own b (.inl c) hb), (unhide HX7).2.2.2.trans o8 (fun b _ c => ?_)⟩
            have c' : b = ks := c
            have := hM7.new ks (.inl rfl)
            omega)
          have lnb : (ln : Int) ≤ 1000 := by have := (unhide HBO).2.2.2.2.1; omega
          clear hM7 hln own2 hcell hlnn o8
          go_wp2_with fail
          go_meet
          exact ⟨by go_num, unhide FF⟩
      case rest =>
      obtain ⟨hkv, hC, hM, hPs, hOn⟩ := hcut
      obtain ⟨k2, hk2⟩ : ∃ n : Nat, kn + (if bk = true then 1 else 0) = n := ⟨_, rfl⟩
      rw [hk2] at hkv
      subst hkv
      have Hk2 := hide hk2
      clear hk2 HX7
      generalize wc = w8 at *
      obtain ⟨S1, hS1⟩ : ∃ x, S.setC 3 (.int .i64 pk1) = x := ⟨_, rfl⟩
      have hO1 : SmOf S1 { Ms.of St.z with kind := 4, table := nm, defs := q.map (·.1), pk := pk1 } := by rw [← hS1]; exact (unhide HBO).1.pk_
      have hLn1 : ∀ j, smj j → S1.ln j ≤ 1000 := fun j hj => by rw [← hS1]; exact (unhide HBO).2.1 j hj
      rw [hS1] at hM
      clear hS1
      have own8 := hM.own 2 (by unfold smj; omega)
      have hln : S1.ln 2 = q.length := by rw [hO1.x2.2]; simp
      rw [hln] at own8
      have hl1000 := (unhide HBO).2.2.2.2.1
      obtain ⟨n, hnn⟩ : ∃ n, q.length = n := ⟨_, rfl⟩
      rw [hnn] at own8 hl1000
      obtain ⟨a, cap, hcell⟩ := ownsRow_shape own8
      have z0 := hM.cl (i := 2) (by omega)
      rw [hcell] at z0 own8
      have zf := hM.fr 2
      have kl8 := hM.lt
      have own1 : w8.ownsRow 0 149 2 (.slice a n cap) n (S1.xs 2) := own8
      have zne : (Value.slice a n cap).ownBlock ≠ some ks := fun c => hM.kne (j := 2) (by unfold smj; omega) (by rw [hcell]; exact c) rfl
      have e0 : w8.cell? ⟨kc, 0, none⟩ = some (.string nv) := hC.cell 0
      have e1 : w8.cell? ⟨kc, 1, none⟩ = some (.bool bt) := hC.cell 1
      have kcl8 := hC.lt
      have oA : Only (fun _ => False) w8 (w8.alloc (.cells #[.string nv, .bool bt] 149)) := (Only.refl _ w8).alloc _
      have z1 := oA.cellS z0
      have z1f : (w8.alloc (.cells #[.string nv, .bool bt] 149)).frozen? ⟨ks, 2, none⟩ = false := oA.frS zf (fun e => e) kl8
      have l5 : n + 1 ≤ maxLen := by unfold maxLen; omega
      have hlo8 : g + 1 ≤ w8.heap.size := by omega
      have HQ8 := hide (show MQR (g + 1) w8 kr ks tv tl P4 { Ms.of St.z with kind := 4, table := nm, defs := q.map (·.1), pk := pk1 } from ⟨hPs, hlr, S1, hM, fun _ => hO1, hLn1⟩)
      have HPP := hide (fun (v' : Value) (w9 : World) (h1 : w9.ownsRow 0 149 2 v' (n + 1) (S1.xs 2 ++ [.string nv, .bool bt])) (h2 : (w8.alloc (.cells #[.string nv, .bool bt] 149)).grownBy w9 (Value.slice a n cap).ownBlock) (h3 : ∀ b, v'.ownBlock = some b → (Value.slice a n cap).ownBlock = some b ∨ w8.heap.size ≤ b) => show MqP (g + 1) kr ks tv tl P4 { Ms.of St.z with kind := 4, table := nm, defs := q.map (·.1) ++ [(nv, bt)], pk := pk1 } w3 (w9.setCell ⟨ks, 2, none⟩ v') from by
        have p := hM.push (j := 2) (by unfold smj; omega) (es := [.string nv, .bool bt]) (n := n + 1) oA h1 (by rw [hcell]; exact h2) (fun b hb => by rw [hcell]; exact h3 b hb) hlo8
        obtain ⟨cc, hcc⟩ := hPs.hasR
        have hk : ¬ S1.U ks 2 kr := fun c => by
          rcases c with c | c
          · exact hM.par hcc ks (.inl rfl) c.symm
          · exact hM.par hcc kr (.inr ⟨2, by unfold smj; omega, c⟩) rfl
        have ht2 : ∀ b, tv.ownBlock = some b → ¬ S1.U ks 2 b := fun b hb c => by
          rcases c with c | c
          · exact hM.tok hPs.own b (.inl c) hb
          · exact hM.tok hPs.own b (.inr ⟨2, by unfold smj; omega, c⟩) hb
        refine ⟨⟨hPs.keep p.2 hk ht2, hlr, _, p.1, fun _ => hO1.defs_ (c := (nv, bt)) rfl (by rw [List.length_map, hnn]), fun j hj => ?_⟩, hOn.trans p.2 (fun b _ c => hM.ulo (by unfold smj; omega) b c)⟩
        show (if j = 2 then n + 1 else S1.ln j) ≤ 1000
        split
        · omega
        · exact hLn1 j hj)
      have hnq : q.length = n := hnn
      have HNx := hide (fun (wA wB : World) (b5 : Bool) (hA : MqP (g + 1) kr ks tv tl P4 { Ms.of St.z with kind := 4, table := nm, defs := q.map (·.1) ++ [(nv, bt)], pk := pk1 } w3 wA) (p1 : P4.2 = true → b5 = eatB wCOMMA P4) (p2 : b5 = true → MRp kr tv tl (nextP P4) wA wB) (p3 : b5 = false → MRp kr tv tl P4 wA wB) => show ∃ gk', gk' < gk ∧ LpK (fun q => ({ Ms.of St.z with kind := 4, table := nm, defs := q.map (·.1), pk := pkF 0 q 0 } : Ms)) (fun q => (kyN q : Int)) colL wCOMMA w3 (g + 1) kr ks tv tl R gk' (.int .i64 (k2 : Int)) (.bool b5) wB from by
        obtain ⟨hO, hLn, hg1, hR1, hl1, hgk1, oW⟩ := unhide HBO
        have hc1 : (colL P1).1 = P4 := by unfold colL; simp only; rw [(unhide HNV).2, unhide HP3, unhide HP4]
        refine LpK.next (body := colL) (κ := fun q => (kyN q : Int)) colL_len hg1 hR1 hl1 hgk1 (fun hc => ?_) ?_ hA.2 (by rw [hc1]; exact p1) (by rw [hc1]; exact p2) (by rw [hc1]; exact p3)
        · have hg4 : P4.2 = true := by rw [← hc1]; exact hc
          have hg3 : P3.2 = true := by rw [← unhide HP4] at hg4; exact eat_good hg4
          rw [← unhide Hk2, kyN_snoc, unhide Hkn]
          have e : (colL P1).2.2 = bk := by unfold colL; simp only; rw [(unhide HNV).2, unhide HP3]; exact (unhide HBk hg3).symm
          rw [e]
        · rw [hc1]
          cases hg4 : P4.2 with
          | false => exact hA.1.any hg4
          | true =>
            have hg3 : P3.2 = true := by rw [← unhide HP4] at hg4; exact eat_good hg4
            have hg2 : P2.2 = true := by rw [← unhide HP3] at hg3; exact ty_good hg3
            have ek : (colL P1).2.2 = bk := by unfold colL; simp only; rw [(unhide HNV).2, unhide HP3]; exact (unhide HBk hg3).symm
            have et : (colL P1).2.1 = (nv, bt) := by unfold colL; simp only; rw [(unhide HNV).2, (unhide HNV).1]; congr 1; exact ((unhide HBT).1 hg2).symm
            have e1 : (q ++ [(colL P1).2]).map (·.1) = q.map (·.1) ++ [(nv, bt)] := by rw [List.map_append]; simp [et]
            have e2 : pkF 0 (q ++ [(colL P1).2]) 0 = pk1 := by rw [pkF_snoc, ek, unhide Hpk1]; simp
            show MQR (g + 1) wA kr ks tv tl P4 { Ms.of St.z with kind := 4, table := nm, defs := (q ++ [(colL P1).2]).map (·.1), pk := pkF 0 (q ++ [(colL P1).2]) 0 }
            rw [e1, e2]
            exact hA.1)
      clear hM own8 hln hcell hnn hPs hC hOn hO1 hLn1 HQ8 hnq
      go_upto_region 30 with fail
      go_wp2_with (at_builtin; refine wpList_append2 _ rfl _ _ 77 rfl 149 i0 _ 2 24 Tryz.underlying77 hi0 hz0 hy0 hb0 rfl (by decide) _ _ _ rfl (own1.alloc _) ⟨w8.heap.size, 0, none⟩ 1 1 [.string nv, .bool bt] rfl rfl ?ap11 ?ap12 ?ap13 ?ap14 ?_)
      (try case ap11 => exact news_ok _ [.string nv, .bool bt] 149 _ rfl)
      (try case ap12 => first | rfl | exact ⟨rfl, rfl⟩ | (intro u hu; simp at hu; rcases hu with rfl | rfl <;> rfl))
      (try case ap13 => unfold maxLen; omega)
      (try case ap14 => omega)
      intro v' w9 hown hgrow hwhere
      have HQ9 := hide (unhide HPP v' w9 hown hgrow (fun b hb => (hwhere b hb).imp id (fun c => by omega)))
      have y3 := (hgrow.cell_far ⟨ks, 2, none⟩ (by simp; omega) (Ne.symm zne)).trans z1
      have yz := (hgrow.frozen_far ⟨ks, 2, none⟩ (by simp; omega) (Ne.symm zne)).trans z1f
      obtain ⟨va, vc, hv'⟩ := ownsRow_shape hown
      rw [hv'] at HQ9 ⊢
      clear hown hgrow hwhere HPP z0 zf own1 zne z1 z1f oA e0 e1 hv'
      go_upto_region 22 with fail
      clear y3 yz
      generalize w9.setCell ⟨ks, 2, none⟩ (.slice va (n + 1) vc) = wA at *
      have C5 := hide (smeat_any (unhide HQ9).1.rd (⟨#[44]⟩ : ByteArray) (.inr (by decide +kernel)))
      go_wp2_with fail
      refine (unhide C5).mono ?_
      rintro e5 wB ⟨b5, rfl, p1, p2, p3⟩
      have HEnd := hide (unhide HNx wA wB b5 (unhide HQ9) p1 p2 p3)
      clear C5 p1 p2 p3 HNx
      go_wp2_with fail
      obtain ⟨gk', hg', hw'⟩ := unhide HEnd
      go_roundg gk'
      case measure => exact hg'
      case rel => exact hw'
end Go.Proofs.Qxb6500412aGreat
