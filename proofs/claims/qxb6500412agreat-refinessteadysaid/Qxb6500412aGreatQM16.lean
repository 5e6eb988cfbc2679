/-
  OWN WORK. QUERY's MODEL: parse: SELECT (written by tools/gen_qm15.py).
-/
import Derived.Test.Qxb6500412aGreatQM11
import Derived.Test.Qxb6500412aGreatS13
namespace Go.Proofs.Qxb6500412aGreat
open Go.RowKit Go.PlainAid
set_option linter.unusedSimpArgs false
set_option linter.unusedVariables false

section
variable {lo : Nat} {w w0 : World} {kr ks : Nat} {tv : Value} {l : List Tk} {P : Ps} {m : Ms} {st : St}
theorem ord_no (h : MQR lo w kr ks tv l P (Ms.of st)) (hb : P.2 = true → false = eatB wORDER P) : MQR lo w kr ks tv l (ordP P st).1 (Ms.of (ordP P st).2) := by
  cases hp : P.2 with
  | true =>
    have e : ordP P st = (P, st) := by unfold ordP; rw [← hb hp]; rfl
    rw [e]; exact h
  | false =>
    have e := bad_fail h.rd hp
    rw [e] at h ⊢
    exact h
theorem ord_yes (h0 : MRd w0 kr tv l P) (h : MQR lo w kr ks tv l (eatP wDESC (nameP (wantP wBY (nextP P)))) { Ms.of st with order := nameV (wantP wBY (nextP P)), desc := eatB wDESC (nameP (wantP wBY (nextP P))) }) (hb : P.2 = true → true = eatB wORDER P) : MQR lo w kr ks tv l (ordP P st).1 (Ms.of (ordP P st).2) := by
  cases hp : P.2 with
  | true =>
    have e : ordP P st = (eatP wDESC (nameP (wantP wBY (nextP P))), { st with order := nameV (wantP wBY (nextP P)), desc := eatB wDESC (nameP (wantP wBY (nextP P))) }) := by unfold ordP; rw [← hb hp]; rfl
    rw [e]; exact h
  | false =>
    have e := bad_fail h0 hp
    rw [e] at h ⊢
    exact h.any rfl
theorem lim_no (h : MQR lo w kr ks tv l P (Ms.of st)) (hb : P.2 = true → false = eatB wLIMIT P) : MQR lo w kr ks tv l (limP P st).1 (Ms.of (limP P st).2) := by
  cases hp : P.2 with
  | true =>
    have e : limP P st = (P, st) := by unfold limP; rw [← hb hp]; rfl
    rw [e]; exact h
  | false =>
    have e := bad_fail h.rd hp
    rw [e] at h ⊢
    exact h
theorem lim_num {v : Int} (h0 : MRd w0 kr tv l P) (h : MQR lo w kr ks tv l (nextP (nextP P)) { Ms.of st with hasL := true, lim := v }) (hb : P.2 = true → true = eatB wLIMIT P) (hv : P.2 = true → numB (nextP P) = true ∧ v = valV (nextP P)) : MQR lo w kr ks tv l (limP P st).1 (Ms.of (limP P st).2) := by
  cases hp : P.2 with
  | true =>
    have e : limP P st = (nextP (nextP P), { st with hasL := true, lim := valV (nextP P) }) := by unfold limP; rw [← hb hp, (hv hp).1]; rfl
    rw [e]
    rw [(hv hp).2] at h
    exact h
  | false =>
    have e := bad_fail h0 hp
    rw [e] at h ⊢
    exact h.any rfl
theorem lim_bad (h0 : MRd w0 kr tv l P) (h : MQR lo w kr ks tv l failP m) (hb : P.2 = true → true = eatB wLIMIT P) (hv : P.2 = true → numB (nextP P) = false) : MQR lo w kr ks tv l (limP P st).1 (Ms.of (limP P st).2) := by
  cases hp : P.2 with
  | true =>
    have e : (limP P st).1 = failP := by unfold limP; rw [← hb hp, hv hp]; rfl
    rw [e]; exact h.any rfl
  | false =>
    have e := bad_fail h0 hp
    rw [e]
    exact h.any rfl
def nmT : Option Tk → Bool
  | some (.num _) => true
  | _ => false
theorem nmT_at {i : Nat} (h : nmT l[i]? = true) : ∃ v, l[i]? = some (.num v) ∧ i < l.length := by
  by_cases hi : i < l.length
  · obtain ⟨y, hy⟩ : ∃ y, l[i]? = some y := ⟨_, List.getElem?_eq_getElem hi⟩
    rw [hy] at h
    cases y with
    | num v => exact ⟨v, hy, hi⟩
    | word s => cases h
    | str s => cases h
    | sign s => cases h
  · rw [List.getElem?_eq_none (by omega)] at h; cases h
theorem nm_yes {i : Nat} {bad : Bool} {v : Int} (hP : P = (if bad = true then failP else (l.drop i, true))) (hi : i < l.length) (hy : l[i]? = some (.num v)) (hp : P.2 = true) : numB P = true ∧ v = valV P := by
  rcases seen hP with ⟨e, _⟩ | ⟨_, e1, e2⟩
  · rw [e] at hp; cases hp
  · rw [dropAt hi hy] at e1
    unfold numB valV
    rw [e1]
    exact ⟨rfl, rfl⟩
theorem nm_no {i : Nat} {bad : Bool} (hP : P = (if bad = true then failP else (l.drop i, true))) (h : nmT l[i]? = false) (hp : P.2 = true) : numB P = false := by
  rcases seen hP with ⟨e, _⟩ | ⟨_, e1, e2⟩
  · rw [e] at hp; cases hp
  · unfold numB
    rw [e1]
    by_cases hi : i < l.length
    · obtain ⟨y, hy⟩ : ∃ y, l[i]? = some y := ⟨_, List.getElem?_eq_getElem hi⟩
      rw [hy] at h
      rw [dropAt hi hy]
      cases y with
      | num v => cases h
      | word s => rfl
      | str s => rfl
      | sign s => rfl
    · rw [List.drop_eq_nil_of_le (by omega)]
end
set_option maxRecDepth 100000 in
set_option maxHeartbeats 16000000 in
theorem smparse_SELECT (t : ByteArray) (ht : t.size ≤ 256) (hc : (toks t 0).2 = true) (hk : eatB wSELECT (toks t 0) = true) (w : World) : Calls Tryz.prog 180 #[.string t] w (MpP t w) := by
  obtain ⟨i1, hi1, hz1, hy1, hb1⟩ := info_parts Tryz.infoSStr
  have b1 : ¬ ((t.size : Int) > 256) := by omega
  have N1 := Has.new w (tabV 12 smz) 253
  have o1 : Only (fun _ => False) w (w.alloc (.cells (tabV 12 smz) 253)) := (Only.refl _ w).alloc _
  have HN := hide (And.intro N1 o1)
  rw [smz_tab] at HN
  clear N1 o1
  have C1 := hide (smtokens_any t (w.alloc (.cells #[.int .i64 0, .string ⟨#[]⟩, .slice none 0 0, .int .i64 0, .slice none 0 0, .slice none 0 0, .bool false, .slice none 0 0, .string ⟨#[]⟩, .bool false, .bool false, .int .i64 0] 253)))
  have HT := hide (And.intro ht hc)
  have HK := hide hk
  clear hk
  clear ht hc
  go_enter Tryz.func180, Tryz.ntmps180
  go_wp2_with fail
  refine (unhide C1).mono ?_
  rintro e w2 hh
  obtain ⟨tv, hx, hown, ho⟩ := TksP.short hh (unhide HT).1 (unhide HT).2
  subst hx
  obtain ⟨ta, tc, htv⟩ := ownsRow_shape hown
  have g2 : w.heap.size < w2.heap.size := Nat.lt_of_lt_of_le (unhide HN).1.lt ho.size
  have oA : Only (fun _ => False) w2 (w2.alloc (.cells (tabV 12 smz) 253)) := (Only.refl _ _).alloc _
  have oB : Only (fun _ => False) (w2.alloc (.cells (tabV 12 smz) 253)) ((w2.alloc (.cells (tabV 12 smz) 253)).alloc (.cells #[tv, .int .i64 0, .bool false] 325)) := (Only.refl _ _).alloc _
  have N2 := (Has.new w2 (tabV 12 smz) 253).keep oB (fun e => e)
  have N3 := Has.new (w2.alloc (.cells (tabV 12 smz) 253)) #[tv, .int .i64 0, .bool false] 325
  have sz : (w2.alloc (.cells (tabV 12 smz) 253)).heap.size = w2.heap.size + 1 := by simp
  rw [sz] at N3
  have H0 := hide (MQR.start (lo := w.heap.size + 1) N3 ((hown.quiet oA).quiet oB) (unhide HT).1 (unhide HT).2 N2 (by omega) (by omega))
  have HG := hide (show Has ((w2.alloc (.cells (tabV 12 smz) 253)).alloc (.cells #[tv, .int .i64 0, .bool false] 325)) w.heap.size #[.int .i64 0, .string ⟨#[]⟩, .slice none 0 0, .int .i64 0, .slice none 0 0, .slice none 0 0, .bool false, .slice none 0 0, .string ⟨#[]⟩, .bool false, .bool false, .int .i64 0] 253 ∧ Only (fun _ => False) w ((w2.alloc (.cells (tabV 12 smz) 253)).alloc (.cells #[tv, .int .i64 0, .bool false] 325)) from ⟨(((unhide HN).1.keep ho (fun e => e)).keep oA (fun e => e)).keep oB (fun e => e), (((unhide HN).2.trans ho (fun _ _ e => e)).trans oA (fun _ _ e => e)).trans oB (fun _ _ e => e)⟩)
  rw [smz_tab] at H0 HG
  rw [htv] at H0 HG ⊢
  clear N2 N3 oA oB sz hown ho hh HN C1 htv tv g2 b1
  have hta : (toks t 0).1.length ≤ 256 := Nat.le_trans (toks_len (t := t) (i := 0) (Nat.zero_le _)) (by have := (unhide HT).1; omega)
  generalize htn : (toks t 0).1.length = tn at H0 HG ⊢
  have HTn := hide (And.intro htn hta)
  clear htn hta
  go_upto_region 8 with fail
  generalize (w2.alloc (.cells #[.int .i64 0, .string ⟨#[]⟩, .slice none 0 0, .int .i64 0, .slice none 0 0, .slice none 0 0, .bool false, .slice none 0 0, .string ⟨#[]⟩, .bool false, .bool false, .int .i64 0] 253)).alloc (.cells #[.slice ta tn tc, .int .i64 0, .bool false] 325) = w3 at *
  generalize w2.heap.size + 1 = kr at *
  generalize w2.heap.size = ks at *
  obtain ⟨tv, htv⟩ : ∃ v, Value.slice ta tn tc = v := ⟨_, rfl⟩
  rw [htv] at H0
  have Htv := hide htv
  obtain ⟨g, hg⟩ : ∃ g, w.heap.size = g := ⟨_, rfl⟩
  rw [hg] at H0 HG ⊢
  have Hg := hide hg
  obtain ⟨P0, hP0⟩ : ∃ P, toks t 0 = P := ⟨_, rfl⟩
  have HPQ := hide (show parQ t = senP P0 St.z by rw [← hP0]; rfl)
  obtain ⟨tl, htl⟩ : ∃ l, (toks t 0).1 = l := ⟨_, rfl⟩
  rw [htl] at H0 HTn
  have HPl := hide (show P0.1.length ≤ 256 by rw [← hP0, htl]; have := (unhide HTn); omega)
  rw [hP0] at H0 HT HK
  have HQ3 := hide (show MqP (g + 1) kr ks tv tl P0 (Ms.of St.z) w3 w3 from ⟨unhide H0, Only.refl _ _⟩)
  clear H0 htv hg hP0 htl
  have C1 := smeat_no (unhide HQ3).1.rd (⟨#[66, 69, 71, 73, 78]⟩ : ByteArray) (.inl (by decide +kernel)) (unhide HT).2 (eat_only (unhide HK) (show wSELECT ≠ wBEGIN by decide))
  have C1 := hide C1
  go_wp2_with fail
  refine (unhide C1).mono ?_
  rintro e w4 ⟨rfl, hh⟩
  have HR1 := hide ((unhide HQ3).trans ((unhide HQ3).1.parP hh (fun c => c)))
  clear C1 hh HQ3
  have C1 := smeat_no (unhide HR1).1.rd (⟨#[67, 79, 77, 77, 73, 84]⟩ : ByteArray) (.inl (by decide +kernel)) (unhide HT).2 (eat_only (unhide HK) (show wSELECT ≠ wCOMMIT by decide))
  have C1 := hide C1
  go_wp2_with fail
  refine (unhide C1).mono ?_
  rintro e w5 ⟨rfl, hh⟩
  have HR2 := hide ((unhide HR1).trans ((unhide HR1).1.parP hh (fun c => c)))
  clear C1 hh HR1
  have C1 := smeat_no (unhide HR2).1.rd (⟨#[82, 79, 76, 76, 66, 65, 67, 75]⟩ : ByteArray) (.inl (by decide +kernel)) (unhide HT).2 (eat_only (unhide HK) (show wSELECT ≠ wROLLBACK by decide))
  have C1 := hide C1
  go_wp2_with fail
  refine (unhide C1).mono ?_
  rintro e w6 ⟨rfl, hh⟩
  have HR3 := hide ((unhide HR2).trans ((unhide HR2).1.parP hh (fun c => c)))
  clear C1 hh HR2
  have C1 := smeat_no (unhide HR3).1.rd (⟨#[67, 82, 69, 65, 84, 69]⟩ : ByteArray) (.inl (by decide +kernel)) (unhide HT).2 (eat_only (unhide HK) (show wSELECT ≠ wCREATE by decide))
  have C1 := hide C1
  go_wp2_with fail
  refine (unhide C1).mono ?_
  rintro e w7 ⟨rfl, hh⟩
  have HR4 := hide ((unhide HR3).trans ((unhide HR3).1.parP hh (fun c => c)))
  clear C1 hh HR3
  have C1 := smeat_no (unhide HR4).1.rd (⟨#[68, 82, 79, 80]⟩ : ByteArray) (.inl (by decide +kernel)) (unhide HT).2 (eat_only (unhide HK) (show wSELECT ≠ wDROP by decide))
  have C1 := hide C1
  go_wp2_with fail
  refine (unhide C1).mono ?_
  rintro e w8 ⟨rfl, hh⟩
  have HR5 := hide ((unhide HR4).trans ((unhide HR4).1.parP hh (fun c => c)))
  clear C1 hh HR4
  have C1 := smeat_no (unhide HR5).1.rd (⟨#[73, 78, 83, 69, 82, 84]⟩ : ByteArray) (.inl (by decide +kernel)) (unhide HT).2 (eat_only (unhide HK) (show wSELECT ≠ wINSERT by decide))
  have C1 := hide C1
  go_wp2_with fail
  refine (unhide C1).mono ?_
  rintro e w9 ⟨rfl, hh⟩
  have HR6 := hide ((unhide HR5).trans ((unhide HR5).1.parP hh (fun c => c)))
  clear C1 hh HR5
  have C1 := smeat_yes (unhide HR6).1.rd (⟨#[83, 69, 76, 69, 67, 84]⟩ : ByteArray) (.inl (by decide +kernel)) (unhide HT).2 (unhide HK)
  have C1 := hide C1
  go_wp2_with fail
  refine (unhide C1).mono ?_
  rintro e w10 ⟨rfl, hh⟩
  have HR7 := hide ((unhide HR6).trans ((unhide HR6).1.parP hh next_good))
  clear C1 hh HR6
  obtain ⟨v0, c0, f0, kl⟩ := (unhide HR7).1.at_ (i := 0) (by omega)
  have HR8 := hide ((unhide HR7).trans ((unhide HR7).1.set (i := 0) (v := .int .i64 8) (by unfold smj; omega) rfl (fun S _ hS => hS.kind_)))
  clear  HR7
  go_upto_region 58 with fail
  generalize w10.setCell ⟨ks, 0, none⟩ (.int .i64 8) = w11 at *
  clear c0 f0 kl
  obtain ⟨Q, hQd⟩ : ∃ x, x = selN (nextP P0) St.z := ⟨_, rfl⟩
  obtain ⟨sb, hsb⟩ : ∃ b, b = eatB wSTAR (nextP P0) := ⟨_, rfl⟩
  have HQd := hide (And.intro hQd hsb)
  have HQl := hide (show Q.1.1.length ≤ P0.1.length by
    rw [hQd]; unfold selN
    split
    · exact Nat.le_trans (eatP_len _ _) (nextP_len P0)
    · exact Nat.le_trans (listP_len nameL_len _ _ _).1 (Nat.le_trans (eatP_len _ _) (nextP_len P0)))
  clear hQd hsb
  have C1 := smeat_any (unhide HR8).1.rd (⟨#[42]⟩ : ByteArray) (.inr (by decide +kernel))
  have C1 := hide C1
  go_wp2_with fail
  refine (unhide C1).mono ?_
  rintro e w12 ⟨b, rfl, p1, p2, p3⟩
  have eb : b = sb := by rw [(unhide HQd).2]; exact p1 (unhide HT).2
  have HS0 := hide (show (sb = true → MqP (g + 1) kr ks tv tl (nextP (nextP P0)) { Ms.of St.z with kind := 8 } w3 w12) ∧ (sb = false → MqP (g + 1) kr ks tv tl (nextP P0) { Ms.of St.z with kind := 8 } w3 w12) from ⟨fun c => (unhide HR8).trans ((unhide HR8).1.parP (p2 (eb.trans c)) next_good), fun c => (unhide HR8).trans ((unhide HR8).1.parP (p3 (eb.trans c)) (fun c => c))⟩)
  clear C1 p1 p2 p3
  subst eb
  clear HR8
  go_upto_if 150 with fail
  go_cut [12] from 150 to 168 (fun _ wx => MqP (g + 1) kr ks tv tl Q.1 ({ Ms.of St.z with kind := 8, star := b, names := Q.2 } : Ms) w3 wx)
  case first =>
    cases b with
    | true =>
      have hq := (unhide HS0).1 rfl
      obtain ⟨v0, c0, f0, kl⟩ := hq.1.at_ (i := 6) (by omega)
      have FF := hide (show MqP (g + 1) kr ks tv tl Q.1 ({ Ms.of St.z with kind := 8, star := true, names := Q.2 } : Ms) w3 (w12.setCell ⟨ks, 6, none⟩ (.bool true)) from by
        have e : Q = (nextP (nextP P0), []) := by rw [(unhide HQd).1]; unfold selN; rw [← (unhide HQd).2, eatP_t (unhide HQd).2.symm]; rfl
        rw [e]
        exact hq.trans (hq.1.set (i := 6) (v := .bool true) (by unfold smj; omega) rfl (fun S _ hS => hS.star_)))
      clear hq HS0
      go_wp2_with fail
      go_meet
      exact unhide FF
    | false =>
      have hR : Q = listP nameL wCOMMA (nextP P0) [] := by rw [(unhide HQd).1]; unfold selN; rw [← (unhide HQd).2, eatP_f (unhide HQd).2.symm]; rfl
      obtain ⟨R, hRQ⟩ : ∃ R, Q = R := ⟨_, rfl⟩
      rw [hRQ] at hR
      have HS := hide (show LpI (fun q => ({ Ms.of St.z with kind := 8, names := q } : Ms)) nameL wCOMMA w3 (g + 1) kr ks tv tl R (2 * (nextP P0).1.length + 1) (.bool true) w12 from LpI.start (P := nextP P0) ((unhide HS0).2 rfl) hR (fun c => by (rw [hR]; exact list_fail (bad_fail ((unhide HS0).2 rfl).1.rd c) rfl)) (by have h1 := nextP_len P0; have := unhide HPl; omega) (Nat.le_refl _))
      have HRQ := hide hRQ
      clear hR hRQ HS0
      go_upto_region 61 with fail
      go_loopg [12] (2 * (nextP P0).1.length + 1) (fun gk mv wr => LpI (fun q => ({ Ms.of St.z with kind := 8, names := q } : Ms)) nameL wCOMMA w3 (g + 1) kr ks tv tl R gk mv wr)
      case atStart => exact unhide HS
      case round =>
        clear HS
        obtain ⟨b, P1, q, rfl, hQ, hlen, hR1, hR2, oW, hgk⟩ := hrel
        obtain ⟨i, bad, hc, hP1⟩ := hQ.rd
        have c2 : wr.cell? ⟨kr, 2, none⟩ = some (.bool bad) := hc.has.cell 2
        have kl := hc.has.lt
        have HB := hide (And.intro hQ (And.intro hlen (And.intro hR1 (And.intro hR2 (And.intro oW (And.intro hgk hP1))))))
        clear hQ hlen hR1 hR2 oW hgk hP1 hc
        go_upto_region 61 with fail
        go_cut [159] from 152 to 158 (fun bv wx => bv = .bool (b && !bad) ∧ wr = wx)
        case first =>
          cases b with
          | false => (go_wp2_with fail; go_meet; exact ⟨rfl, rfl⟩)
          | true => (cases bad with | false => (go_wp2_with fail; go_meet; exact ⟨rfl, rfl⟩) | true => (go_wp2_with fail; go_meet; exact ⟨rfl, rfl⟩))
        case rest =>
        obtain ⟨rfl, hwc⟩ := hcut
        subst hwc
        clear c2 kl
        obtain ⟨c, hcc⟩ : ∃ c, (b && !bad) = c := ⟨_, rfl⟩
        rw [hcc]
        cases c with
        | false =>
          have HD := hide (LpI.done (f := fun q => ({ Ms.of St.z with kind := 8, names := q } : Ms)) (body := nameL) (sep := wCOMMA) (unhide HB).1 (unhide HB).2.2.1 (unhide HB).2.2.2.1 (unhide HB).2.2.2.2.1 (by
            cases b with
            | false => exact .inl rfl
            | true => (cases bad with | false => (cases hcc) | true => exact .inr (by rw [(unhide HB).2.2.2.2.2.2]; rfl))))
          clear HB hcc
          go_wp2_with fail
          go_meet
          rw [unhide HRQ]
          exact unhide HD
        | true =>
          have hb1 : b = true := by cases b; exact hcc; rfl
          have hb2 : bad = false := by cases bad; rfl; (rw [hb1] at hcc; cases hcc)
          have hg1 : P1.2 = true := by rw [(unhide HB).2.2.2.2.2.2, hb2]; rfl
          subst hb1
          clear hcc hb2
          have hQ := (unhide HB).1
          have hl1 : q.length + P1.1.length + 1 ≤ 1000 := by have h := (unhide HB).2.1 hg1; unfold gB at h; rw [hg1] at h; simpa using h
          have hgk1 : 2 * P1.1.length + 1 ≤ gk := by have h := (unhide HB).2.2.2.2.2.1; unfold gB at h; rw [hg1] at h; simpa using h
          have hR1 : R = listP nameL wCOMMA P1 q := (unhide HB).2.2.1 hg1
          obtain ⟨S, hM, hO, hLn⟩ := hQ.sq
          have hO := hO hg1
          have oDr : Only (fun _ => False) wr wr.drew := (Only.refl _ wr).drew
          have C1 := smname_any (hQ.rd.quiet oDr)
          unfold QmNm at C1
          have C1 := hide C1
          obtain ⟨n, hnn⟩ : ∃ n, (({ Ms.of St.z with kind := 8, names := q } : Ms)).names.length = n := ⟨_, rfl⟩
          have hln : S.ln 4 = n := by rw [← hnn]; exact hO.x4.2
          have own0 := hM.own 4 (by unfold smj; omega)
          rw [hln] at own0
          obtain ⟨a, cap, hcell⟩ := ownsRow_shape own0
          have z0 := hM.cl (i := 4) (by omega)
          rw [hcell] at z0
          have z0d := oDr.cellS z0
          have kld : ks < wr.drew.heap.size := Nat.lt_of_lt_of_le hM.lt oDr.size
          have HM := hide hM
          have Hcell := hide hcell
          have Hln := hide hln
          have n1000 : n + 1 ≤ 1000 := (by have h : q.length = n := hnn; omega)
          have l5 : n + 1 ≤ maxLen := by unfold maxLen; omega
          have HKM := hide (fun (wc : World) (Px : Ps) (hh : MRp kr tv tl Px wr.drew wc) => show SMM (g + 1) wc ks S from (by obtain ⟨c, hc⟩ := hQ.rd.hasR; exact (hM.quiet oDr).keep hh.2 (fun b hb e => hM.par hc b hb e)))
          have HPP := hide (fun (lv : ByteArray) (wc : World) (hlv : P1.2 = true → lv = nameV P1) (hh : MRp kr tv tl (nameP P1) wr.drew wc) (gg cap3 : Nat) (w5 : World) (h1 : w5.ownsRow 0 9 1 (.slice (some ⟨gg, 0, none⟩) (n + 1) cap3) (n + 1) (S.xs 4 ++ [.string lv])) (h2 : (wc.alloc (.cells #[.string lv] 9)).grownBy w5 (Value.slice a n cap).ownBlock) (h3 : (Value.slice a n cap).ownBlock = some gg ∨ gg = wc.heap.size + 1) => show MqP (g + 1) kr ks tv tl (nameP P1) ({ Ms.of St.z with kind := 8, names := q ++ [nameV P1] }) wr (w5.setCell ⟨ks, 4, none⟩ (.slice (some ⟨gg, 0, none⟩) (n + 1) cap3)) ∧ CellN (w5.setCell ⟨ks, 4, none⟩ (.slice (some ⟨gg, 0, none⟩) (n + 1) cap3)) ks 5 (S.ln 5) from (by
            have p := MQR.app (j := 4) (m' := { Ms.of St.z with kind := 8, names := q ++ [nameV P1] }) (hQ.quiet oDr) (hM.quiet oDr) hLn hh (by unfold smj; omega) hcell n1000 ((Only.refl _ wc).alloc _) h1 h2 (h3.imp id (fun c => by omega)) (fun hc => by
              have e := hlv (name_good hc)
              subst e
              exact hO.names_ rfl (by rw [← hnn]))
            exact ⟨⟨p.1.1, (oDr.mono (fun _ _ e => e.elim)).trans p.1.2 (fun _ _ e => e)⟩, p.2 5 (by unfold smj; omega) (by omega)⟩))
          clear hM hO hLn hcell hln own0 z0 hnn oDr
          have HN := hide (fun (wA wB : World) (b5 : Bool) (hA : MqP (g + 1) kr ks tv tl (nameP P1) { Ms.of St.z with kind := 8, names := q ++ [nameV P1] } wr wA) => LpI.next (f := fun q => ({ Ms.of St.z with kind := 8, names := q } : Ms)) (body := nameL) (sep := wCOMMA) (wB := wB) (b5 := b5) nameL_len hg1 hR1 hl1 hgk1 hA.1 ((unhide HB).2.2.2.2.1.trans hA.2 (fun _ _ e => e)))
          clear HB hQ hR1 hl1 hgk1
          go_upto_region 63 with fail
          refine wp_region_held_drew (S := fun _ => True) (by kernel_rfl) trivial (fun _ => ?_)
          refine takeH 0 162 (v := ?vp0x) rfl rfl (by kernel_rfl) (by kernel_rfl) (by kernel_rfl) (fun _ _ _ h => h) (Or.inl ⟨by rfl, ?hp0x⟩) trivial ?rp0x
          case hp0x => (intro w hSw; clear hSw; go_simp; (try with_reducible rfl))
          case rp0x =>
          try simp only [Act.put, List.setIfInBounds_toArray, List.set_cons_zero, List.set_cons_succ]
          refine takeH 2 164 (v := ?vp2x) rfl rfl (by kernel_rfl) (by kernel_rfl) (by kernel_rfl) (fun _ _ _ h => h) (Or.inl ⟨by rfl, ?hp2x⟩) trivial ?rp2x
          case hp2x => (intro w hSw; clear hSw; go_simp; (try with_reducible rfl))
          case rp2x =>
          try simp only [Act.put, List.setIfInBounds_toArray, List.set_cons_zero, List.set_cons_succ]
          refine pairC 1 3 (by kernel_rfl) rfl rfl 163 165 rfl rfl rfl rfl (v := .slice a n cap) ?pe1x ?pk1x 265 Tryz.func265 (by kernel_rfl) (by kernel_rfl) #[.tmp 164] #[323] rfl #[.pointer (some ⟨kr, 0, none⟩)] (by simp [Act.eval]) (R := fun v w' => ∃ lv, v = .string lv ∧ (P1.2 = true → lv = nameV P1) ∧ MRp kr tv tl (nameP P1) wr.drew w') ((unhide C1).mono (by rintro en w' ⟨lv, rfl, a, o⟩; exact ⟨_, rfl, lv, rfl, a, o⟩)) ?pk2x
          case pe1x => (go_simp; (try with_reducible rfl))
          case pk1x =>
            refine ⟨trivial, ?_⟩
            try simp only [Act.put, List.setIfInBounds_toArray, List.set_cons_zero, List.set_cons_succ]
            refine callH 3 (by kernel_rfl) rfl 165 rfl rfl 265 Tryz.func265 (by kernel_rfl) (by kernel_rfl) #[.tmp 164] #[323] rfl #[.pointer (some ⟨kr, 0, none⟩)] (by simp [Act.eval]) (R := fun v w' => ∃ lv, v = .string lv ∧ (P1.2 = true → lv = nameV P1) ∧ MRp kr tv tl (nameP P1) wr.drew w') ((unhide C1).mono (by rintro en w' ⟨lv, rfl, a, o⟩; exact ⟨_, rfl, lv, rfl, a, o⟩)) ?kcx
            case kcx =>
            rintro _ wc ⟨lv, rfl, hlv, hh⟩
            refine ⟨trivial, ?_⟩
            try simp only [Act.put, List.setIfInBounds_toArray, List.set_cons_zero, List.set_cons_succ]
            have kM := unhide HKM wc _ hh
            have zc := kM.cl (i := 4) (by omega)
            rw [unhide Hcell] at zc
            have zfr := kM.fr 4
            have kl2 := kM.lt
            have own2 : wc.ownsRow 0 9 1 (.slice a n cap) n (S.xs 4) := by have := kM.own 4 (by unfold smj; omega); rw [unhide Hcell, unhide Hln] at this; exact this
            have zne : (Value.slice a n cap).ownBlock ≠ some ks := fun c => kM.kne (j := 4) (by unfold smj; omega) (by rw [unhide Hcell]; exact c) rfl
            have oAl : Only (fun _ => False) wc (wc.alloc (.cells #[.string lv] 9)) := (Only.refl _ _).alloc _
            have y1 := oAl.cellS zc
            have y1f : (wc.alloc (.cells #[.string lv] 9)).frozen? ⟨ks, 4, none⟩ = false := oAl.frS zfr (fun e => e) kl2
            refine soneH 4 (by kernel_rfl) rfl 166 rfl rfl (v := .slice (some ⟨wc.heap.size, 0, none⟩) 1 1) (w1 := (wc.alloc (.cells #[.string lv] 9))) ?oexa ?okxa
            case oexa => (go_simp; (try with_reducible rfl))
            case okxa =>
            refine ⟨trivial, ?_⟩
            try simp only [Act.put, List.setIfInBounds_toArray, List.set_cons_zero, List.set_cons_succ]
            refine sappH 5 (by kernel_rfl) rfl 167 rfl rfl _ _ _ rfl 0 9 i1 _ 1 16 Tryz.underlying49 hi1 hz1 hy1 hb1 rfl (by omega) (.slice a n cap) n (S.xs 4) rfl (own2.alloc _) ⟨wc.heap.size, 0, none⟩ 1 1 [.string lv] rfl rfl (World.news_of_block (cs := #[.string lv]) (t := 9) (fr := (0, 0)) (heap_alloc_new wc _)) (by simp [Value.oneCell']) (by omega) l5 (by omega) (by simp) (wc.heap.size + 1) (by simp) ?apxa
            case apxa =>
            intro gg cap3 w5 hown1 hgrow hat hlt3
            have y3 := (hgrow.cell_far ⟨ks, 4, none⟩ (by simp; omega) (Ne.symm zne)).trans y1
            have yz := (hgrow.frozen_far ⟨ks, 4, none⟩ (by simp; omega) (Ne.symm zne)).trans y1f
            have HA2 := hide (unhide HPP lv wc hlv hh gg cap3 w5 hown1 hgrow hat)
            have HA := hide (unhide HA2).1
            refine ⟨trivial, ?_⟩
            try simp only [Act.put, List.setIfInBounds_toArray, List.set_cons_zero, List.set_cons_succ]
            refine takeH 6 168 (v := ?vq6xa) rfl rfl (by kernel_rfl) (by kernel_rfl) (by kernel_rfl) (fun _ _ _ h => h) (Or.inl ⟨by rfl, ?hq6xa⟩) trivial ?rq6xa
            case hq6xa => (intro w hSw; clear hSw; go_simp; (try with_reducible rfl))
            case rq6xa =>
            try simp only [Act.put, List.setIfInBounds_toArray, List.set_cons_zero, List.set_cons_succ]
            refine storeH_cell 7 (by kernel_rfl) rfl rfl rfl 49 _ _ rfl ⟨ks, 4, none⟩ (.slice (some ⟨gg, 0, none⟩) (n + 1) cap3) rfl rfl (run_store_list y3 yz _ _ _) trivial ?_
            try simp only [Act.put, List.setIfInBounds_toArray, List.set_cons_zero, List.set_cons_succ]
            refine wpAnyH_done (by kernel_rfl) ?_ _
            clear hown1 hgrow hat y3 yz hlt3 kM zc zfr own2 zne oAl y1 y1f hh
            clear HA2
            go_upto_region 62 with fail
            generalize w5.setCell ⟨ks, 4, none⟩ (.slice (some ⟨gg, 0, none⟩) (n + 1) cap3) = wA at *
            have C5 := hide (smeat_any (unhide HA).1.rd (⟨#[44]⟩ : ByteArray) (.inr (by decide +kernel)))
            go_wp2_with fail
            refine (unhide C5).mono ?_
            rintro e5 wB ⟨b5, rfl, p1, p2, p3⟩
            have HEnd := hide (unhide HN wA wB b5 (unhide HA) p1 p2 p3)
            clear C5 p1 p2 p3 HN HA
            go_wp2_with fail
            obtain ⟨gk', hg', hw'⟩ := unhide HEnd
            go_roundg gk'
            case measure => exact hg'
            case rel => exact hw'
          case pk2x =>
            rintro _ wc ⟨lv, rfl, hlv, hh⟩
            refine ⟨trivial, ?_⟩
            try simp only [Act.put, List.setIfInBounds_toArray, List.set_cons_zero, List.set_cons_succ]
            have kM := unhide HKM wc _ hh
            have zc := kM.cl (i := 4) (by omega)
            rw [unhide Hcell] at zc
            have zfr := kM.fr 4
            have kl2 := kM.lt
            have own2 : wc.ownsRow 0 9 1 (.slice a n cap) n (S.xs 4) := by have := kM.own 4 (by unfold smj; omega); rw [unhide Hcell, unhide Hln] at this; exact this
            have zne : (Value.slice a n cap).ownBlock ≠ some ks := fun c => kM.kne (j := 4) (by unfold smj; omega) (by rw [unhide Hcell]; exact c) rfl
            have oAl : Only (fun _ => False) wc (wc.alloc (.cells #[.string lv] 9)) := (Only.refl _ _).alloc _
            have y1 := oAl.cellS zc
            have y1f : (wc.alloc (.cells #[.string lv] 9)).frozen? ⟨ks, 4, none⟩ = false := oAl.frS zfr (fun e => e) kl2
            refine spairH 1 4 (by kernel_rfl) rfl rfl 163 166 rfl rfl rfl rfl (v := .slice a n cap) (w1 := wc) (u := .slice (some ⟨wc.heap.size, 0, none⟩) 1 1) (w2 := (wc.alloc (.cells #[.string lv] 9))) ?se1x ?se2x ?sk1x ?sk2x
            case se1x => (go_simp; (try with_reducible rfl))
            case se2x => (go_simp; (try with_reducible rfl))
            case sk1x =>
              refine ⟨trivial, ?_⟩
              try simp only [Act.put, List.setIfInBounds_toArray, List.set_cons_zero, List.set_cons_succ]
              refine soneH 4 (by kernel_rfl) rfl 166 rfl rfl (v := .slice (some ⟨wc.heap.size, 0, none⟩) 1 1) (w1 := (wc.alloc (.cells #[.string lv] 9))) ?oexb ?okxb
              case oexb => (go_simp; (try with_reducible rfl))
              case okxb =>
              refine ⟨trivial, ?_⟩
              try simp only [Act.put, List.setIfInBounds_toArray, List.set_cons_zero, List.set_cons_succ]
              refine sappH 5 (by kernel_rfl) rfl 167 rfl rfl _ _ _ rfl 0 9 i1 _ 1 16 Tryz.underlying49 hi1 hz1 hy1 hb1 rfl (by omega) (.slice a n cap) n (S.xs 4) rfl (own2.alloc _) ⟨wc.heap.size, 0, none⟩ 1 1 [.string lv] rfl rfl (World.news_of_block (cs := #[.string lv]) (t := 9) (fr := (0, 0)) (heap_alloc_new wc _)) (by simp [Value.oneCell']) (by omega) l5 (by omega) (by simp) (wc.heap.size + 1) (by simp) ?apxb
              case apxb =>
              intro gg cap3 w5 hown1 hgrow hat hlt3
              have y3 := (hgrow.cell_far ⟨ks, 4, none⟩ (by simp; omega) (Ne.symm zne)).trans y1
              have yz := (hgrow.frozen_far ⟨ks, 4, none⟩ (by simp; omega) (Ne.symm zne)).trans y1f
              have HA2 := hide (unhide HPP lv wc hlv hh gg cap3 w5 hown1 hgrow hat)
              have HA := hide (unhide HA2).1
              refine ⟨trivial, ?_⟩
              try simp only [Act.put, List.setIfInBounds_toArray, List.set_cons_zero, List.set_cons_succ]
              refine takeH 6 168 (v := ?vq6xb) rfl rfl (by kernel_rfl) (by kernel_rfl) (by kernel_rfl) (fun _ _ _ h => h) (Or.inl ⟨by rfl, ?hq6xb⟩) trivial ?rq6xb
              case hq6xb => (intro w hSw; clear hSw; go_simp; (try with_reducible rfl))
              case rq6xb =>
              try simp only [Act.put, List.setIfInBounds_toArray, List.set_cons_zero, List.set_cons_succ]
              refine storeH_cell 7 (by kernel_rfl) rfl rfl rfl 49 _ _ rfl ⟨ks, 4, none⟩ (.slice (some ⟨gg, 0, none⟩) (n + 1) cap3) rfl rfl (run_store_list y3 yz _ _ _) trivial ?_
              try simp only [Act.put, List.setIfInBounds_toArray, List.set_cons_zero, List.set_cons_succ]
              refine wpAnyH_done (by kernel_rfl) ?_ _
              clear hown1 hgrow hat y3 yz hlt3 kM zc zfr own2 zne oAl y1 y1f hh
              clear HA2
              go_upto_region 62 with fail
              generalize w5.setCell ⟨ks, 4, none⟩ (.slice (some ⟨gg, 0, none⟩) (n + 1) cap3) = wA at *
              have C5 := hide (smeat_any (unhide HA).1.rd (⟨#[44]⟩ : ByteArray) (.inr (by decide +kernel)))
              go_wp2_with fail
              refine (unhide C5).mono ?_
              rintro e5 wB ⟨b5, rfl, p1, p2, p3⟩
              have HEnd := hide (unhide HN wA wB b5 (unhide HA) p1 p2 p3)
              clear C5 p1 p2 p3 HN HA
              go_wp2_with fail
              obtain ⟨gk', hg', hw'⟩ := unhide HEnd
              go_roundg gk'
              case measure => exact hg'
              case rel => exact hw'
            case sk2x =>
              refine ⟨trivial, ?_⟩
              try simp only [Act.put, List.setIfInBounds_toArray, List.set_cons_zero, List.set_cons_succ]
              refine soneH 1 (by kernel_rfl) rfl 163 rfl rfl (v := .slice a n cap) (w1 := (wc.alloc (.cells #[.string lv] 9))) ?olx ?oklx
              case olx => (go_simp; (try with_reducible rfl))
              case oklx =>
              refine ⟨trivial, ?_⟩
              try simp only [Act.put, List.setIfInBounds_toArray, List.set_cons_zero, List.set_cons_succ]
              refine sappH 5 (by kernel_rfl) rfl 167 rfl rfl _ _ _ rfl 0 9 i1 _ 1 16 Tryz.underlying49 hi1 hz1 hy1 hb1 rfl (by omega) (.slice a n cap) n (S.xs 4) rfl (own2.alloc _) ⟨wc.heap.size, 0, none⟩ 1 1 [.string lv] rfl rfl (World.news_of_block (cs := #[.string lv]) (t := 9) (fr := (0, 0)) (heap_alloc_new wc _)) (by simp [Value.oneCell']) (by omega) l5 (by omega) (by simp) (wc.heap.size + 1) (by simp) ?apxc
              case apxc =>
              intro gg cap3 w5 hown1 hgrow hat hlt3
              have y3 := (hgrow.cell_far ⟨ks, 4, none⟩ (by simp; omega) (Ne.symm zne)).trans y1
              have yz := (hgrow.frozen_far ⟨ks, 4, none⟩ (by simp; omega) (Ne.symm zne)).trans y1f
              have HA2 := hide (unhide HPP lv wc hlv hh gg cap3 w5 hown1 hgrow hat)
              have HA := hide (unhide HA2).1
              refine ⟨trivial, ?_⟩
              try simp only [Act.put, List.setIfInBounds_toArray, List.set_cons_zero, List.set_cons_succ]
              refine takeH 6 168 (v := ?vq6xc) rfl rfl (by kernel_rfl) (by kernel_rfl) (by kernel_rfl) (fun _ _ _ h => h) (Or.inl ⟨by rfl, ?hq6xc⟩) trivial ?rq6xc
              case hq6xc => (intro w hSw; clear hSw; go_simp; (try with_reducible rfl))
              case rq6xc =>
              try simp only [Act.put, List.setIfInBounds_toArray, List.set_cons_zero, List.set_cons_succ]
              refine storeH_cell 7 (by kernel_rfl) rfl rfl rfl 49 _ _ rfl ⟨ks, 4, none⟩ (.slice (some ⟨gg, 0, none⟩) (n + 1) cap3) rfl rfl (run_store_list y3 yz _ _ _) trivial ?_
              try simp only [Act.put, List.setIfInBounds_toArray, List.set_cons_zero, List.set_cons_succ]
              refine wpAnyH_done (by kernel_rfl) ?_ _
              clear hown1 hgrow hat y3 yz hlt3 kM zc zfr own2 zne oAl y1 y1f hh
              clear HA2
              go_upto_region 62 with fail
              generalize w5.setCell ⟨ks, 4, none⟩ (.slice (some ⟨gg, 0, none⟩) (n + 1) cap3) = wA at *
              have C5 := hide (smeat_any (unhide HA).1.rd (⟨#[44]⟩ : ByteArray) (.inr (by decide +kernel)))
              go_wp2_with fail
              refine (unhide C5).mono ?_
              rintro e5 wB ⟨b5, rfl, p1, p2, p3⟩
              have HEnd := hide (unhide HN wA wB b5 (unhide HA) p1 p2 p3)
              clear C5 p1 p2 p3 HN HA
              go_wp2_with fail
              obtain ⟨gk', hg', hw'⟩ := unhide HEnd
              go_roundg gk'
              case measure => exact hg'
              case rel => exact hw'
  case rest =>
  have HR70 := hide hcut
  clear hcut HS0
  generalize wc = w70 at *
  have C1 := smwant_any (unhide HR70).1.rd (⟨#[70, 82, 79, 77]⟩ : ByteArray) (.inl (by decide +kernel))
  have C1 := hide C1
  go_wp2_with fail
  refine (unhide C1).mono ?_
  rintro e w71 ⟨rfl, hh⟩
  have HR71 := hide ((unhide HR70).trans ((unhide HR70).1.parP (P' := (wantP wFROM Q.1)) hh want_good))
  clear C1 hh HR70
  have C1 := smname_any (unhide HR71).1.rd
  unfold QmNm at C1
  have C1 := hide C1
  go_wp2_with fail
  refine (unhide C1).mono ?_
  rintro e w72 ⟨nv, rfl, hnv, hh⟩
  have HR72 := hide ((unhide HR71).trans ((unhide HR71).1.parP hh name_good))
  clear C1 hh HR71
  have Hnv := hide hnv
  clear hnv
  obtain ⟨v0, c0, f0, kl⟩ := (unhide HR72).1.at_ (i := 1) (by omega)
  have HR73 := hide ((unhide HR72).trans ((unhide HR72).1.set (i := 1) (v := .string nv) (by unfold smj; omega) rfl (fun S hc hS => by rw [unhide Hnv (name_good hc)]; exact hS.table_)))
  clear Hnv HR72
  go_upto_region 66 with fail
  generalize w72.setCell ⟨ks, 1, none⟩ (.string nv) = w73 at *
  clear c0 f0 kl
  have C1 := smwhere_any (unhide HR73).1 (show 0 + (nameP (wantP wFROM Q.1)).1.length + 1 ≤ 1000 by have h1 : (nameP (wantP wFROM Q.1)).1.length ≤ P0.1.length := (Nat.le_trans (nameP_len _) (Nat.le_trans (wantP_len _ _) (unhide HQl))); have := unhide HPl; omega)
  have C1 := hide C1
  go_wp2_with fail
  refine (unhide C1).mono ?_
  rintro e w74 ⟨rfl, hh⟩
  have HR74 := hide ((unhide HR73).trans hh)
  clear C1 hh HR73
  obtain ⟨Pw, hPw⟩ : ∃ x, x = (whQ (nameP (wantP wFROM Q.1)) []).1 := ⟨_, rfl⟩
  obtain ⟨sw, hsw⟩ : ∃ x, x = ({ St.z with kind := 8, star := b, list := Q.2, table := nameV (wantP wFROM Q.1), wh := (whQ (nameP (wantP wFROM Q.1)) []).2 } : St) := ⟨_, rfl⟩
  have HR80 := hide (show MqP (g + 1) kr ks tv tl Pw (Ms.of sw) w3 w74 from by rw [hPw, hsw]; have h := unhide HR74; have e : Ms.of ({ St.z with kind := 8, star := b, list := Q.2, table := nameV (wantP wFROM Q.1), wh := (whQ (nameP (wantP wFROM Q.1)) []).2 } : St) = ({ Ms.of St.z with kind := 8, star := b, names := Q.2, table := nameV (wantP wFROM Q.1), wh := (whQ (nameP (wantP wFROM Q.1)) []).2 } : Ms) := (by simp [Ms.of, St.z]); rw [e]; exact h)
  have HW := hide (show selW (nextP P0) St.z = (Pw, sw) by unfold selW; rw [whereP_eq, ← (unhide HQd).1, ← (unhide HQd).2, hPw, hsw]; rfl)
  clear HR74 hPw hsw
  have C1 := smeat_any (unhide HR80).1.rd (⟨#[79, 82, 68, 69, 82]⟩ : ByteArray) (.inl (by decide +kernel))
  have C1 := hide C1
  go_wp2_with fail
  refine (unhide C1).mono ?_
  rintro e w75 ⟨bo, rfl, p1, p2, p3⟩
  have HEo := hide (And.intro p1 (And.intro p2 p3))
  clear C1 p1 p2 p3
  go_upto_if 177 with fail
  go_cut [] from 177 to 185 (fun wx => MqP (g + 1) kr ks tv tl (ordP Pw sw).1 (Ms.of (ordP Pw sw).2) w3 wx)
  case first =>
    cases bo with
    | false =>
      have FF := hide (show MqP (g + 1) kr ks tv tl (ordP Pw sw).1 (Ms.of (ordP Pw sw).2) w3 w75 from by
        have h := (unhide HR80).trans ((unhide HR80).1.parP ((unhide HEo).2.2 rfl) (fun c => c))
        exact ⟨ord_no h.1 (unhide HEo).1, h.2⟩)
      go_wp2_with fail
      go_meet
      exact unhide FF
    | true =>
      have HR90 := hide ((unhide HR80).trans ((unhide HR80).1.parP ((unhide HEo).2.1 (by trivial)) next_good))
      have C1 := smwant_any (unhide HR90).1.rd (⟨#[66, 89]⟩ : ByteArray) (.inl (by decide +kernel))
      have C1 := hide C1
      go_wp2_with fail
      refine (unhide C1).mono ?_
      rintro e w76 ⟨rfl, hh⟩
      have HR91 := hide ((unhide HR90).trans ((unhide HR90).1.parP (P' := (wantP wBY (nextP Pw))) hh want_good))
      clear C1 hh HR90
      have C1 := smname_any (unhide HR91).1.rd
      unfold QmNm at C1
      have C1 := hide C1
      go_wp2_with fail
      refine (unhide C1).mono ?_
      rintro e w77 ⟨nv, rfl, hnv, hh⟩
      have HR92 := hide ((unhide HR91).trans ((unhide HR91).1.parP hh name_good))
      clear C1 hh HR91
      have Hnv := hide hnv
      clear hnv
      obtain ⟨v0, c0, f0, kl⟩ := (unhide HR92).1.at_ (i := 8) (by omega)
      have HR93 := hide ((unhide HR92).trans ((unhide HR92).1.set (i := 8) (v := .string nv) (by unfold smj; omega) rfl (fun S hc hS => by rw [unhide Hnv (name_good hc)]; exact hS.order_)))
      clear Hnv HR92
      go_upto_region 70 with fail
      generalize w77.setCell ⟨ks, 8, none⟩ (.string nv) = w78 at *
      clear c0 f0 kl
      have C1 := smeat_any (unhide HR93).1.rd (⟨#[68, 69, 83, 67]⟩ : ByteArray) (.inl (by decide +kernel))
      have C1 := hide C1
      go_wp2_with fail
      refine (unhide C1).mono ?_
      rintro e w79 ⟨bd, rfl, p1, p2, p3⟩
      have hq := (unhide HR93).trans ((unhide HR93).1.parP (MRp.eat (x := wDESC) (unhide HR93).1.rd p1 p2 p3) eat_good)
      obtain ⟨v0, c0, f0, kl⟩ := hq.1.at_ (i := 9) (by omega)
      have FF := hide (show MqP (g + 1) kr ks tv tl (ordP Pw sw).1 (Ms.of (ordP Pw sw).2) w3 (w79.setCell ⟨ks, 9, none⟩ (.bool bd)) from by
        have h := hq.trans (hq.1.set (i := 9) (v := .bool bd) (m' := { Ms.of sw with order := nameV (wantP wBY (nextP Pw)), desc := eatB wDESC (nameP (wantP wBY (nextP Pw))) }) (by unfold smj; omega) rfl (fun S hc hS => by rw [p1 (eat_good hc)]; exact hS.desc_))
        exact ⟨ord_yes (unhide HR80).1.rd h.1 (unhide HEo).1, h.2⟩)
      clear hq C1 p1 p2 p3 HR93
      go_wp2_with fail
      go_meet
      exact unhide FF
  case rest =>
  have HR100 := hide hcut
  clear hcut HEo HR80
  generalize wc = w100 at *
  obtain ⟨Po, hPo⟩ : ∃ x, x = (ordP Pw sw).1 := ⟨_, rfl⟩
  obtain ⟨so, hso⟩ : ∃ x, x = (ordP Pw sw).2 := ⟨_, rfl⟩
  rw [← hPo, ← hso] at HR100
  have HO := hide (show selO (nextP P0) St.z = (Po, so) by unfold selO; rw [unhide HW, hPo, hso])
  clear hPo hso HW
  have C1 := smeat_any (unhide HR100).1.rd (⟨#[76, 73, 77, 73, 84]⟩ : ByteArray) (.inl (by decide +kernel))
  have C1 := hide C1
  go_wp2_with fail
  refine (unhide C1).mono ?_
  rintro e w101 ⟨bl, rfl, p1, p2, p3⟩
  have HEl := hide (And.intro p1 (And.intro p2 p3))
  clear C1 p1 p2 p3
  go_upto_if 187 with fail
  go_cut [] from 187 to 234 (fun wx => MqP (g + 1) kr ks tv tl (limP Po so).1 (Ms.of (limP Po so).2) w3 wx)
  case first =>
    cases bl with
    | false =>
      have FF := hide (show MqP (g + 1) kr ks tv tl (limP Po so).1 (Ms.of (limP Po so).2) w3 w101 from by
        have h := (unhide HR100).trans ((unhide HR100).1.parP ((unhide HEl).2.2 rfl) (fun c => c))
        exact ⟨lim_no h.1 (unhide HEl).1, h.2⟩)
      go_wp2_with fail
      go_meet
      exact unhide FF
    | true =>
      have HR110 := hide ((unhide HR100).trans ((unhide HR100).1.parP ((unhide HEl).2.1 (by trivial)) next_good))
      obtain ⟨v0, c0, f0, kl⟩ := (unhide HR110).1.at_ (i := 10) (by omega)
      have HR111 := hide ((unhide HR110).trans ((unhide HR110).1.set (i := 10) (v := .bool true) (by unfold smj; omega) rfl (fun S _ hS => hS.hasL_)))
      clear  HR110
      go_upto_region 73 with fail
      generalize w101.setCell ⟨ks, 10, none⟩ (.bool true) = w102 at *
      clear c0 f0 kl
      obtain ⟨j, bad, hc, hPj⟩ := (unhide HR111).1.rd
      have c0 : w102.cell? ⟨kr, 0, none⟩ = some tv := hc.has.cell 0
      have c1 : w102.cell? ⟨kr, 1, none⟩ = some (.int .i64 (j : Int)) := hc.has.cell 1
      have kl := hc.has.lt
      obtain ⟨cb, hcb⟩ : ∃ b, nmT tl[j]? = b := ⟨_, rfl⟩
      have HJ := hide (And.intro hc (And.intro hPj hcb))
      have l1 := hc.l256
      have hown := hc.own
      rw [← unhide Htv] at hown c0
      have htn := (unhide HTn).1
      clear hc hPj
      go_cut [212] from 189 to 211 (fun bv wx => bv = .bool cb ∧ Only (fun _ => False) w102 wx)
      case first =>
        by_cases hj : j < tl.length
        · obtain ⟨y, hy⟩ : ∃ y, tl[j]? = some y := ⟨_, List.getElem?_eq_getElem hj⟩
          obtain ⟨gt, rfl, d0, d1, d2⟩ := OwnT.at_ hown hy
          rw [hy] at hcb
          have b1 : decide ((j : Int) < (tn : Int)) = true := decide_eq_true (by omega)
          have b1p : (j : Int) < (tn : Int) := by omega
          clear hown hy hj d2 htn
          cases y with
          | num v =>
            simp only [tkK, tkT] at d0 d1
            have Hcb := hide (show true = cb from hcb)
            clear hcb
            go_quiet (fail)
            go_wp2_with fail
            go_meet
            exact ⟨by rw [← unhide Hcb], onlyQ _ _⟩
          | word s =>
            simp only [tkK, tkT] at d0 d1
            have Hcb := hide (show false = cb from hcb)
            clear hcb
            go_quiet (fail)
            go_wp2_with fail
            go_meet
            exact ⟨by rw [← unhide Hcb], onlyQ _ _⟩
          | str s =>
            simp only [tkK, tkT] at d0 d1
            have Hcb := hide (show false = cb from hcb)
            clear hcb
            go_quiet (fail)
            go_wp2_with fail
            go_meet
            exact ⟨by rw [← unhide Hcb], onlyQ _ _⟩
          | sign s =>
            simp only [tkK, tkT] at d0 d1
            have Hcb := hide (show false = cb from hcb)
            clear hcb
            go_quiet (fail)
            go_wp2_with fail
            go_meet
            exact ⟨by rw [← unhide Hcb], onlyQ _ _⟩
        · have b1 : decide ((j : Int) < (tn : Int)) = false := decide_eq_false (by omega)
          have b1p : ¬ (j : Int) < (tn : Int) := by omega
          have Hcb := hide (show false = cb by rw [← hcb, List.getElem?_eq_none (by omega)]; rfl)
          clear hown hj hcb htn
          go_quiet (fail)
          go_wp2_with fail
          go_meet
          exact ⟨by rw [← unhide Hcb], onlyQ _ _⟩
      case rest =>
      obtain ⟨rfl, o4⟩ := hcut
      generalize wc = w120 at *
      have HQ4 := hide (show MqP (g + 1) kr ks tv tl (nextP Po) { Ms.of so with hasL := true } w3 w120 from ⟨(unhide HR111).1.quiet o4, (unhide HR111).2.trans (o4.mono (fun _ _ e => e.elim)) (fun _ _ e => e)⟩)
      have hc4 := (unhide HJ).1.keep o4 (fun e => e) (fun _ _ e => e)
      have HJ4 := hide (And.intro hc4 (unhide HJ).2)
      have e0 : w120.cell? ⟨kr, 0, none⟩ = some tv := hc4.has.cell 0
      have e1 : w120.cell? ⟨kr, 1, none⟩ = some (.int .i64 (j : Int)) := hc4.has.cell 1
      have e2 : w120.cell? ⟨kr, 2, none⟩ = some (.bool bad) := hc4.has.cell 2
      have f1 := hc4.has.free 1
      have f2 := hc4.has.free 2
      have kl4 := hc4.has.lt
      have own4 := hc4.own
      rw [← unhide Htv] at e0 own4
      clear HJ HR111 c0 c1 kl hown hcb hc4 o4
      go_upto_if 212 with fail
      cases cb with
      | false =>
        have FF := hide (show MqP (g + 1) kr ks tv tl (limP Po so).1 (Ms.of (limP Po so).2) w3 (w120.setCell ⟨kr, 2, none⟩ (.bool true)) from by
          have hf := (unhide HJ4).1.fail
          have h := (unhide HQ4).trans ((unhide HQ4).1.parP hf (fun c => by cases c))
          exact ⟨lim_bad (unhide HR100).1.rd h.1 (unhide HEl).1 (fun hp => nm_no (unhide HJ4).2.1 (unhide HJ4).2.2 hp), h.2⟩)
        clear own4 htn
        go_wp2_with fail
        go_meet
        exact unhide FF
      | true =>
        obtain ⟨v, hy, hj⟩ := nmT_at (unhide HJ4).2.2
        obtain ⟨gt, hta, _, _, d2⟩ := OwnT.at_ own4 hy
        subst hta
        have d2 : w120.cell? ⟨gt, j * 3 + 2, none⟩ = some (.int .i64 v) := d2
        have jw : IntKind.i64.wrap ((j : Int) + 1) = ((j + 1 : Nat) : Int) := by rw [IntWalk.i64_in] <;> omega
        have b1p : (j : Int) < (tn : Int) := by omega
        have jw2 : IntKind.i64.wrap (j : Int) = (j : Int) := by rw [IntWalk.i64_in] <;> omega
        obtain ⟨vx, x1, xf, xl⟩ := (unhide HQ4).1.at_ (i := 11) (by omega)
        have gne : gt ≠ ks := by
          obtain ⟨S, hM, _, _⟩ := (unhide HQ4).1.sq
          intro c
          exact hM.tok (unhide HQ4).1.rd.own ks (.inl rfl) (by rw [← unhide Htv, c]; rfl)
        have rne : kr ≠ ks := (unhide HQ4).1.kne
        have HS := hide (And.intro hy hj)
        clear own4 hy hj htn
        go_upto_region 74 with fail
        have S0 : w120.cell? ⟨kr, 0, none⟩ = some (.slice (some ⟨gt, 0, none⟩) tn tc) ∧ w120.cell? ⟨kr, 1, none⟩ = some (.int .i64 (j : Int)) ∧ w120.cell? ⟨gt, j * 3 + 2, none⟩ = some (.int .i64 v) := ⟨e0, e1, d2⟩
        have run1 := run_store_int (w := w120.drew) (ad := ⟨ks, 11, none⟩) (old := vx) (by simpa using x1) (by simpa using xf) v
        have o5 : Only (fun b => b = ks) w120 (w120.drew.setCell ⟨ks, 11, none⟩ (.int .i64 v)) := ((Only.refl _ w120).drew).trans (only1 (p := ks) _ _) (fun _ _ h => h)
        have S5 : (w120.drew.setCell ⟨ks, 11, none⟩ (.int .i64 v)).cell? ⟨kr, 0, none⟩ = some (.slice (some ⟨gt, 0, none⟩) tn tc) ∧ (w120.drew.setCell ⟨ks, 11, none⟩ (.int .i64 v)).cell? ⟨kr, 1, none⟩ = some (.int .i64 (j : Int)) ∧ (w120.drew.setCell ⟨ks, 11, none⟩ (.int .i64 v)).cell? ⟨gt, j * 3 + 2, none⟩ = some (.int .i64 v) := ⟨cell_keep e0 o5 rne, cell_keep e1 o5 rne, cell_keep d2 o5 gne⟩
        clear e0 e1 d2 x1 xf
        refine wp_region_held_drew (S := (fun w' => w'.cell? ⟨kr, 0, none⟩ = some (.slice (some ⟨gt, 0, none⟩) tn tc) ∧ w'.cell? ⟨kr, 1, none⟩ = some (.int .i64 (j : Int)) ∧ w'.cell? ⟨gt, j * 3 + 2, none⟩ = some (.int .i64 v))) (by kernel_rfl) S0 (fun hH0 => ?_)
        refine takeH 0 213 (v := ?vwa1) rfl rfl (by kernel_rfl) (by kernel_rfl) (by kernel_rfl) (fun _ _ _ h => h) (Or.inl ⟨by rfl, ?hwa1⟩) hH0 ?rwa1
        case hwa1 => (intro w hSw; clear hSw; go_simp; (try with_reducible rfl))
        case rwa1 =>
        try simp only [Act.put, List.setIfInBounds_toArray, List.set_cons_zero, List.set_cons_succ]
        refine takeH 1 214 (v := ?vwa2) rfl rfl (by kernel_rfl) (by kernel_rfl) (by kernel_rfl) (fun _ _ _ h => h) (Or.inl ⟨by rfl, ?hwa2⟩) hH0 ?rwa2
        case hwa2 => (intro w hSw; clear hSw; go_simp; (try with_reducible rfl))
        case rwa2 =>
        try simp only [Act.put, List.setIfInBounds_toArray, List.set_cons_zero, List.set_cons_succ]
        refine takeH 2 215 (v := ?vwa3) rfl rfl (by kernel_rfl) (by kernel_rfl) (by kernel_rfl) (fun _ _ _ h => h) (Or.inl ⟨by rfl, ?hwa3⟩) hH0 ?rwa3
        case hwa3 => (intro w hSw; clear hSw; go_simp; (try with_reducible rfl))
        case rwa3 =>
        try simp only [Act.put, List.setIfInBounds_toArray, List.set_cons_zero, List.set_cons_succ]
        refine takeH 3 216 (v := ?vwa4) rfl rfl (by kernel_rfl) (by kernel_rfl) (by kernel_rfl) (fun _ _ _ h => h) (Or.inl ⟨by rfl, ?hwa4⟩) hH0 ?rwa4
        case hwa4 => (intro w hSw; obtain ⟨s0, s1, s2⟩ := hSw; go_simp; (try with_reducible rfl))
        case rwa4 =>
        try simp only [Act.put, List.setIfInBounds_toArray, List.set_cons_zero, List.set_cons_succ]
        refine takeH 4 217 (v := ?vwa5) rfl rfl (by kernel_rfl) (by kernel_rfl) (by kernel_rfl) (fun _ _ _ h => h) (Or.inl ⟨by rfl, ?hwa5⟩) hH0 ?rwa5
        case hwa5 => (intro w hSw; clear hSw; go_simp; (try with_reducible rfl))
        case rwa5 =>
        try simp only [Act.put, List.setIfInBounds_toArray, List.set_cons_zero, List.set_cons_succ]
        refine takeH 5 218 (v := ?vwa6) rfl rfl (by kernel_rfl) (by kernel_rfl) (by kernel_rfl) (fun _ _ _ h => h) (Or.inl ⟨by rfl, ?hwa6⟩) hH0 ?rwa6
        case hwa6 => (intro w hSw; clear hSw; go_simp; (try with_reducible rfl))
        case rwa6 =>
        try simp only [Act.put, List.setIfInBounds_toArray, List.set_cons_zero, List.set_cons_succ]
        refine takeH 6 219 (v := ?vwa7) rfl rfl (by kernel_rfl) (by kernel_rfl) (by kernel_rfl) (fun _ _ _ h => h) (Or.inl ⟨by rfl, ?hwa7⟩) hH0 ?rwa7
        case hwa7 => (intro w hSw; clear hSw; go_simp; (try with_reducible rfl))
        case rwa7 =>
        try simp only [Act.put, List.setIfInBounds_toArray, List.set_cons_zero, List.set_cons_succ]
        refine takeH 7 220 (v := ?vwa8) rfl rfl (by kernel_rfl) (by kernel_rfl) (by kernel_rfl) (fun _ _ _ h => h) (Or.inl ⟨by rfl, ?hwa8⟩) hH0 ?rwa8
        case hwa8 => (intro w hSw; obtain ⟨s0, s1, s2⟩ := hSw; go_simp; (try with_reducible rfl))
        case rwa8 =>
        try simp only [Act.put, List.setIfInBounds_toArray, List.set_cons_zero, List.set_cons_succ]
        refine takeH 8 221 (v := ?vwa9) rfl rfl (by kernel_rfl) (by kernel_rfl) (by kernel_rfl) (fun _ _ _ h => h) (Or.inl ⟨by rfl, ?hwa9⟩) hH0 ?rwa9
        case hwa9 => (intro w hSw; clear hSw; go_simp; (try with_reducible rfl))
        case rwa9 =>
        try simp only [Act.put, List.setIfInBounds_toArray, List.set_cons_zero, List.set_cons_succ]
        refine takeH 9 222 (v := ?vwa10) rfl rfl (by kernel_rfl) (by kernel_rfl) (by kernel_rfl) (fun _ _ _ h => h) (Or.inl ⟨by rfl, ?hwa10⟩) hH0 ?rwa10
        case hwa10 => (intro w hSw; clear hSw; go_simp; (try with_reducible rfl))
        case rwa10 =>
        try simp only [Act.put, List.setIfInBounds_toArray, List.set_cons_zero, List.set_cons_succ]
        refine takeH 10 223 (v := ?vwa11) rfl rfl (by kernel_rfl) (by kernel_rfl) (by kernel_rfl) (fun _ _ _ h => h) (Or.inl ⟨by rfl, ?hwa11⟩) hH0 ?rwa11
        case hwa11 => (intro w hSw; obtain ⟨s0, s1, s2⟩ := hSw; go_simp; (try with_reducible rfl))
        case rwa11 =>
        try simp only [Act.put, List.setIfInBounds_toArray, List.set_cons_zero, List.set_cons_succ]
        refine takeH 11 224 (v := ?vwa12) rfl rfl (by kernel_rfl) (by kernel_rfl) (by kernel_rfl) (fun _ _ _ h => h) (Or.inl ⟨by rfl, ?hwa12⟩) hH0 ?rwa12
        case hwa12 => (intro w hSw; clear hSw; go_simp; (try with_reducible rfl))
        case rwa12 =>
        try simp only [Act.put, List.setIfInBounds_toArray, List.set_cons_zero, List.set_cons_succ]
        refine storeH_any 12 (by kernel_rfl) rfl rfl rfl 3 _ _ rfl ⟨ks, 11, none⟩ (.int .i64 v) rfl rfl run1 S5 ?_
        try simp only [Act.put, List.setIfInBounds_toArray, List.set_cons_zero, List.set_cons_succ]
        refine wpAnyH_done (by kernel_rfl) ?_ _
        have hq5 := (unhide HQ4).trans (show MqP (g + 1) kr ks tv tl (nextP Po) { Ms.of so with hasL := true } w120 w120.drew from ⟨(unhide HQ4).1.quiet ((Only.refl _ w120).drew), (Only.refl _ w120).drew⟩)
        have hq6 := hq5.trans (hq5.1.set (i := 11) (v := .int .i64 v) (by unfold smj; omega) rfl (fun S _ hS => hS.lim_))
        have hc5 := (unhide HJ4).1.keep o5 rne (fun b hb e => by
          have e' : b = ks := e
          rw [e', ← unhide Htv] at hb
          have : gt = ks := by simpa [Value.ownBlock] using hb
          exact gne this)
        go_upto_region 75 with fail
        generalize w120.drew.setCell ⟨ks, 11, none⟩ (.int .i64 v) = w5 at *
        have y1 : w5.cell? ⟨kr, 1, none⟩ = some (.int .i64 (j : Int)) := hc5.has.cell 1
        have yf := hc5.has.free 1
        have yl := hc5.has.lt
        have FF := hide (show MqP (g + 1) kr ks tv tl (limP Po so).1 (Ms.of (limP Po so).2) w3 (w5.setCell ⟨kr, 1, none⟩ (.int .i64 ((j + 1 : Nat) : Int))) from by
          have hf := hc5.nxt (unhide HS).2 (unhide HJ4).2.1
          have h := hq6.trans (hq6.1.parP hf next_good)
          exact ⟨lim_num (unhide HR100).1.rd h.1 (unhide HEl).1 (fun hp => nm_yes (unhide HJ4).2.1 (unhide HS).2 (unhide HS).1 hp), h.2⟩)
        clear hc5 hq5 hq6 S5 S0 run1 o5
        go_wp2_with fail
        go_meet
        exact unhide FF
  case rest =>
  have HR130 := hide hcut
  clear hcut HEl HR100
  generalize wc = w130 at *
  go_upto_region 94 with fail
  have EQ := show parQ t = ((limP Po so).1, (limP Po so).2) from ((unhide HPQ).trans (sen_SELECT (unhide HK))).trans (by unfold selP; rw [unhide HO])
  have hq := unhide HR130
  obtain ⟨i, bad, hc, hP⟩ := hq.1.rd
  obtain ⟨S, hM, hO, hLn⟩ := hq.1.sq
  have hGe := (unhide HG).1.keep hq.2 (fun (c : g + 1 ≤ g) => by omega)
  have oW := (unhide HG).2.lateS hq.2 (fun k hk => by have e' : g + 1 ≤ k := hk; have := unhide Hg; omega)
  have hB := par_bool (unhide HT).1 EQ hc hP
  have HF := hide (fun (w' : World) (h2 : Only (fun k => k = g) w130.drew w') => MpP.fin (t := t) (unhide Hg) hM hO EQ rfl oW (((Only.refl (fun k => k = g) w130).drew).trans h2 (fun _ _ h => h)))
  have S0 : Has w130 ks (tabV 12 S.cell) 253 ∧ w130.cell? ⟨kr, 2, none⟩ = some (.bool bad) ∧ w130.cell? ⟨kr, 1, none⟩ = some (.int .i64 (i : Int)) ∧ w130.cell? ⟨kr, 0, none⟩ = some (.slice ta tn tc) := ⟨hM.has, hc.has.cell 2, hc.has.cell 1, by rw [unhide Htv]; exact hc.has.cell 0⟩
  have hone := tab12_all hM.one
  have hkg : ks ≠ g := by have := hq.1.klt; omega
  have hrg : kr ≠ g := by have := hq.1.lr; omega
  rw [(unhide HTn).1] at hB
  have hi256 : (i : Int) ≤ 256 := by have := hc.le; have := (unhide HTn); omega
  have htn256 : (tn : Int) ≤ 256 := by have := (unhide HTn); omega
  clear HR130 hq hc hP hM hO hLn oW EQ HG HPQ HT HTn Htv Hg HK HPl
  cases bad with
  | false =>
    rw [Bool.not_false, Bool.true_and] at hB
    obtain ⟨eb, heb⟩ : ∃ b, decide ((i : Int) = (tn : Int)) = b := ⟨_, rfl⟩
    have heb2 : ((i : Int) == (tn : Int)) = eb := by rw [← heb]; simp [BEq.beq]
    rw [heb] at hB
    have HB := hide hB
    clear hB heb
    refine wp_region_held_drew (S := (fun w' => Has w' ks (tabV 12 S.cell) 253 ∧ w'.cell? ⟨kr, 2, none⟩ = some (.bool false) ∧ w'.cell? ⟨kr, 1, none⟩ = some (.int .i64 (i : Int)) ∧ w'.cell? ⟨kr, 0, none⟩ = some (.slice ta tn tc))) (by kernel_rfl) S0 (fun hH0 => ?_)
    refine takeH 0 282 (v := .agg (tabV 12 S.cell)) rfl rfl (by kernel_rfl) (by kernel_rfl) (by kernel_rfl) (fun _ _ _ h => h) (yieldsIf_load_mst (by rfl) _ rfl ks rfl _ rfl (fun w h => h.1)) hH0 ?ref0
    case ref0 =>
    try simp only [Act.put, List.setIfInBounds_toArray, List.set_cons_zero, List.set_cons_succ]
    refine takeH 1 283 (v := ?vef1) rfl rfl (by kernel_rfl) (by kernel_rfl) (by kernel_rfl) (fun _ _ _ h => h) (Or.inl ⟨by rfl, ?hef1⟩) hH0 ?ref1
    case hef1 => (intro w hSw; clear hSw; go_simp; (try with_reducible rfl))
    case ref1 =>
    try simp only [Act.put, List.setIfInBounds_toArray, List.set_cons_zero, List.set_cons_succ]
    refine takeH 2 284 (v := ?vef2) rfl rfl (by kernel_rfl) (by kernel_rfl) (by kernel_rfl) (fun _ _ _ h => h) (Or.inl ⟨by rfl, ?hef2⟩) hH0 ?ref2
    case hef2 => (intro w hSw; clear hSw; go_simp; (try with_reducible rfl))
    case ref2 =>
    try simp only [Act.put, List.setIfInBounds_toArray, List.set_cons_zero, List.set_cons_succ]
    refine takeH 3 285 (v := ?vef3) rfl rfl (by kernel_rfl) (by kernel_rfl) (by kernel_rfl) (fun _ _ _ h => h) (Or.inl ⟨by rfl, ?hef3⟩) hH0 ?ref3
    case hef3 => (intro w hSw; clear hSw; go_simp; (try with_reducible rfl))
    case ref3 =>
    try simp only [Act.put, List.setIfInBounds_toArray, List.set_cons_zero, List.set_cons_succ]
    refine takeH 4 286 (v := ?vef4) rfl rfl (by kernel_rfl) (by kernel_rfl) (by kernel_rfl) (fun _ _ _ h => h) (Or.inl ⟨by rfl, ?hef4⟩) hH0 ?ref4
    case hef4 => (intro w hSw; obtain ⟨_, s1, s2, s3⟩ := hSw; go_simp; (try with_reducible rfl))
    case ref4 =>
    try simp only [Act.put, List.setIfInBounds_toArray, List.set_cons_zero, List.set_cons_succ]
    refine takeH 5 287 (v := ?vef5) rfl rfl (by kernel_rfl) (by kernel_rfl) (by kernel_rfl) (fun _ _ _ h => h) (Or.inl ⟨by rfl, ?hef5⟩) hH0 ?ref5
    case hef5 => (intro w hSw; clear hSw; go_simp; (try with_reducible rfl))
    case ref5 =>
    try simp only [Act.put, List.setIfInBounds_toArray, List.set_cons_zero, List.set_cons_succ]
    refine takeH 6 288 (v := ?vef6) rfl rfl (by kernel_rfl) (by kernel_rfl) (by kernel_rfl) (fun _ _ _ h => h) (Or.inl ⟨by rfl, ?hef6⟩) hH0 ?ref6
    case hef6 => (intro w hSw; clear hSw; go_simp; (try with_reducible rfl))
    case ref6 =>
    try simp only [Act.put, List.setIfInBounds_toArray, List.set_cons_zero, List.set_cons_succ]
    refine takeH 7 289 (v := ?vef7) rfl rfl (by kernel_rfl) (by kernel_rfl) (by kernel_rfl) (fun _ _ _ h => h) (Or.inl ⟨by rfl, ?hef7⟩) hH0 ?ref7
    case hef7 => (intro w hSw; clear hSw; go_simp; (try with_reducible rfl))
    case ref7 =>
    try simp only [Act.put, List.setIfInBounds_toArray, List.set_cons_zero, List.set_cons_succ]
    refine takeH 8 290 (v := ?vef8) rfl rfl (by kernel_rfl) (by kernel_rfl) (by kernel_rfl) (fun _ _ _ h => h) (Or.inl ⟨by rfl, ?hef8⟩) hH0 ?ref8
    case hef8 => (intro w hSw; clear hSw; go_simp; (try with_reducible rfl))
    case ref8 =>
    try simp only [Act.put, List.setIfInBounds_toArray, List.set_cons_zero, List.set_cons_succ]
    refine takeH 9 291 (v := ?vef9) rfl rfl (by kernel_rfl) (by kernel_rfl) (by kernel_rfl) (fun _ _ _ h => h) (Or.inl ⟨by rfl, ?hef9⟩) hH0 ?ref9
    case hef9 => (intro w hSw; clear hSw; go_simp; (try with_reducible rfl))
    case ref9 =>
    try simp only [Act.put, List.setIfInBounds_toArray, List.set_cons_zero, List.set_cons_succ]
    refine takeH 10 292 (v := ?vef10) rfl rfl (by kernel_rfl) (by kernel_rfl) (by kernel_rfl) (fun _ _ _ h => h) (Or.inl ⟨by rfl, ?hef10⟩) hH0 ?ref10
    case hef10 => (intro w hSw; obtain ⟨_, s1, s2, s3⟩ := hSw; go_simp; (try with_reducible rfl))
    case ref10 =>
    try simp only [Act.put, List.setIfInBounds_toArray, List.set_cons_zero, List.set_cons_succ]
    refine takeH 11 293 (v := ?vef11) rfl rfl (by kernel_rfl) (by kernel_rfl) (by kernel_rfl) (fun _ _ _ h => h) (Or.inl ⟨by rfl, ?hef11⟩) hH0 ?ref11
    case hef11 => (intro w hSw; clear hSw; go_simp; (try with_reducible rfl))
    case ref11 =>
    try simp only [Act.put, List.setIfInBounds_toArray, List.set_cons_zero, List.set_cons_succ]
    refine takeH 12 294 (v := ?vef12) rfl rfl (by kernel_rfl) (by kernel_rfl) (by kernel_rfl) (fun _ _ _ h => h) (Or.inl ⟨by rfl, ?hef12⟩) hH0 ?ref12
    case hef12 => (intro w hSw; clear hSw; go_simp; (try with_reducible rfl))
    case ref12 =>
    try simp only [Act.put, List.setIfInBounds_toArray, List.set_cons_zero, List.set_cons_succ]
    refine takeH 13 295 (v := ?vef13) rfl rfl (by kernel_rfl) (by kernel_rfl) (by kernel_rfl) (fun _ _ _ h => h) (Or.inl ⟨by rfl, ?hef13⟩) hH0 ?ref13
    case hef13 => (intro w hSw; clear hSw; go_simp; (try with_reducible rfl))
    case ref13 =>
    try simp only [Act.put, List.setIfInBounds_toArray, List.set_cons_zero, List.set_cons_succ]
    refine takeH 14 296 (v := ?vef14) rfl rfl (by kernel_rfl) (by kernel_rfl) (by kernel_rfl) (fun _ _ _ h => h) (Or.inl ⟨by rfl, ?hef14⟩) hH0 ?ref14
    case hef14 => (intro w hSw; obtain ⟨_, s1, s2, s3⟩ := hSw; go_simp; (try with_reducible rfl))
    case ref14 =>
    try simp only [Act.put, List.setIfInBounds_toArray, List.set_cons_zero, List.set_cons_succ]
    refine takeH 15 297 (v := ?vef15) rfl rfl (by kernel_rfl) (by kernel_rfl) (by kernel_rfl) (fun _ _ _ h => h) (Or.inl ⟨by rfl, ?hef15⟩) hH0 ?ref15
    case hef15 => (intro w hSw; clear hSw; go_simp; (try with_reducible rfl))
    case ref15 =>
    try simp only [Act.put, List.setIfInBounds_toArray, List.set_cons_zero, List.set_cons_succ]
    refine takeH 16 298 (v := ?vef16) rfl rfl (by kernel_rfl) (by kernel_rfl) (by kernel_rfl) (fun _ _ _ h => h) (Or.inl ⟨by rfl, ?hef16⟩) hH0 ?ref16
    case hef16 => (intro w hSw; clear hSw; go_simp; (try with_reducible rfl))
    case ref16 =>
    try simp only [Act.put, List.setIfInBounds_toArray, List.set_cons_zero, List.set_cons_succ]
    refine takeH 17 299 (v := ?vef17) rfl rfl (by kernel_rfl) (by kernel_rfl) (by kernel_rfl) (fun _ _ _ h => h) (Or.inl ⟨by rfl, ?hef17⟩) hH0 ?ref17
    case hef17 => (intro w hSw; clear hSw; go_simp; (try with_reducible rfl))
    case ref17 =>
    try simp only [Act.put, List.setIfInBounds_toArray, List.set_cons_zero, List.set_cons_succ]
    refine storeH_row 253 18 (by kernel_rfl) rfl rfl rfl _ _ rfl g (tabV 12 S.cell) #[.int .i64 0, .string ⟨#[]⟩, .slice none 0 0, .int .i64 0, .slice none 0 0, .slice none 0 0, .bool false, .slice none 0 0, .string ⟨#[]⟩, .bool false, .bool false, .int .i64 0] rfl rfl (hGe.keep (show Only (fun _ => False) w130 w130.drew from (Only.refl _ w130).drew) (fun e => e)) Tryz.sizeSMStmt rfl hone ?_
    intro w9 hn9 ho9
    refine ⟨⟨hH0.1.keep ho9 hkg, cell_keep hH0.2.1 ho9 hrg, cell_keep hH0.2.2.1 ho9 hrg, cell_keep hH0.2.2.2 ho9 hrg⟩, ?_⟩
    try simp only [Act.put, List.setIfInBounds_toArray, List.set_cons_zero, List.set_cons_succ]
    have hH9 : Has w9 ks (tabV 12 S.cell) 253 ∧ w9.cell? ⟨kr, 2, none⟩ = some (.bool false) ∧ w9.cell? ⟨kr, 1, none⟩ = some (.int .i64 (i : Int)) ∧ w9.cell? ⟨kr, 0, none⟩ = some (.slice ta tn tc) := ⟨hH0.1.keep ho9 hkg, cell_keep hH0.2.1 ho9 hrg, cell_keep hH0.2.2.1 ho9 hrg, cell_keep hH0.2.2.2 ho9 hrg⟩
    refine takeH 19 3 (v := ?vef19) rfl rfl (by kernel_rfl) (by kernel_rfl) (by kernel_rfl) (fun _ _ _ h => h) (Or.inl ⟨by rfl, ?hef19⟩) hH9 ?ref19
    case hef19 => (intro w hSw; clear hSw; go_simp; (try with_reducible rfl))
    case ref19 =>
    try simp only [Act.put, List.setIfInBounds_toArray, List.set_cons_zero, List.set_cons_succ]
    refine wpAnyH_done (by kernel_rfl) ?_ _
    have FF := hide (unhide HF w9 ho9)
    rw [unhide HB] at FF
    clear HF HB ho9 hH9 hH0
    go_wp2_with fail
    refine bodyPost_ret (sres_mst rfl _ rfl hn9 rfl) rfl ?_
    exact unhide FF
  | true =>
    have HB := hide (show parB t = false from hB)
    clear hB
    refine wp_region_held_drew (S := (fun w' => Has w' ks (tabV 12 S.cell) 253 ∧ w'.cell? ⟨kr, 2, none⟩ = some (.bool true) ∧ w'.cell? ⟨kr, 1, none⟩ = some (.int .i64 (i : Int)) ∧ w'.cell? ⟨kr, 0, none⟩ = some (.slice ta tn tc))) (by kernel_rfl) S0 (fun hH0 => ?_)
    refine takeH 0 282 (v := .agg (tabV 12 S.cell)) rfl rfl (by kernel_rfl) (by kernel_rfl) (by kernel_rfl) (fun _ _ _ h => h) (yieldsIf_load_mst (by rfl) _ rfl ks rfl _ rfl (fun w h => h.1)) hH0 ?ret0
    case ret0 =>
    try simp only [Act.put, List.setIfInBounds_toArray, List.set_cons_zero, List.set_cons_succ]
    refine takeH 1 283 (v := ?vet1) rfl rfl (by kernel_rfl) (by kernel_rfl) (by kernel_rfl) (fun _ _ _ h => h) (Or.inl ⟨by rfl, ?het1⟩) hH0 ?ret1
    case het1 => (intro w hSw; clear hSw; go_simp; (try with_reducible rfl))
    case ret1 =>
    try simp only [Act.put, List.setIfInBounds_toArray, List.set_cons_zero, List.set_cons_succ]
    refine takeH 2 284 (v := ?vet2) rfl rfl (by kernel_rfl) (by kernel_rfl) (by kernel_rfl) (fun _ _ _ h => h) (Or.inl ⟨by rfl, ?het2⟩) hH0 ?ret2
    case het2 => (intro w hSw; clear hSw; go_simp; (try with_reducible rfl))
    case ret2 =>
    try simp only [Act.put, List.setIfInBounds_toArray, List.set_cons_zero, List.set_cons_succ]
    refine takeH 3 285 (v := ?vet3) rfl rfl (by kernel_rfl) (by kernel_rfl) (by kernel_rfl) (fun _ _ _ h => h) (Or.inl ⟨by rfl, ?het3⟩) hH0 ?ret3
    case het3 => (intro w hSw; clear hSw; go_simp; (try with_reducible rfl))
    case ret3 =>
    try simp only [Act.put, List.setIfInBounds_toArray, List.set_cons_zero, List.set_cons_succ]
    refine takeH 4 286 (v := ?vet4) rfl rfl (by kernel_rfl) (by kernel_rfl) (by kernel_rfl) (fun _ _ _ h => h) (Or.inl ⟨by rfl, ?het4⟩) hH0 ?ret4
    case het4 => (intro w hSw; obtain ⟨_, s1, s2, s3⟩ := hSw; go_simp; (try with_reducible rfl))
    case ret4 =>
    try simp only [Act.put, List.setIfInBounds_toArray, List.set_cons_zero, List.set_cons_succ]
    refine takeH 5 287 (v := ?vet5) rfl rfl (by kernel_rfl) (by kernel_rfl) (by kernel_rfl) (fun _ _ _ h => h) (Or.inl ⟨by rfl, ?het5⟩) hH0 ?ret5
    case het5 => (intro w hSw; clear hSw; go_simp; (try with_reducible rfl))
    case ret5 =>
    try simp only [Act.put, List.setIfInBounds_toArray, List.set_cons_zero, List.set_cons_succ]
    refine takeH 6 288 (v := ?vet6) rfl rfl (by kernel_rfl) (by kernel_rfl) (by kernel_rfl) (fun _ _ _ h => h) (Or.inl ⟨by rfl, ?het6⟩) hH0 ?ret6
    case het6 => (intro w hSw; clear hSw; go_simp; (try with_reducible rfl))
    case ret6 =>
    try simp only [Act.put, List.setIfInBounds_toArray, List.set_cons_zero, List.set_cons_succ]
    refine takeH 7 289 (v := undef) rfl rfl (by kernel_rfl) (by kernel_rfl) (by kernel_rfl) (fun _ _ _ h => h) (Or.inr ⟨by rfl, rfl⟩) hH0 ?ret7
    case ret7 =>
    try simp only [Act.put, List.setIfInBounds_toArray, List.set_cons_zero, List.set_cons_succ]
    refine takeH 8 290 (v := undef) rfl rfl (by kernel_rfl) (by kernel_rfl) (by kernel_rfl) (fun _ _ _ h => h) (Or.inr ⟨by rfl, rfl⟩) hH0 ?ret8
    case ret8 =>
    try simp only [Act.put, List.setIfInBounds_toArray, List.set_cons_zero, List.set_cons_succ]
    refine takeH 9 291 (v := undef) rfl rfl (by kernel_rfl) (by kernel_rfl) (by kernel_rfl) (fun _ _ _ h => h) (Or.inr ⟨by rfl, rfl⟩) hH0 ?ret9
    case ret9 =>
    try simp only [Act.put, List.setIfInBounds_toArray, List.set_cons_zero, List.set_cons_succ]
    refine takeH 10 292 (v := undef) rfl rfl (by kernel_rfl) (by kernel_rfl) (by kernel_rfl) (fun _ _ _ h => h) (Or.inr ⟨by rfl, rfl⟩) hH0 ?ret10
    case ret10 =>
    try simp only [Act.put, List.setIfInBounds_toArray, List.set_cons_zero, List.set_cons_succ]
    refine takeH 11 293 (v := undef) rfl rfl (by kernel_rfl) (by kernel_rfl) (by kernel_rfl) (fun _ _ _ h => h) (Or.inr ⟨by rfl, rfl⟩) hH0 ?ret11
    case ret11 =>
    try simp only [Act.put, List.setIfInBounds_toArray, List.set_cons_zero, List.set_cons_succ]
    refine takeH 12 294 (v := undef) rfl rfl (by kernel_rfl) (by kernel_rfl) (by kernel_rfl) (fun _ _ _ h => h) (Or.inr ⟨by rfl, rfl⟩) hH0 ?ret12
    case ret12 =>
    try simp only [Act.put, List.setIfInBounds_toArray, List.set_cons_zero, List.set_cons_succ]
    refine takeH 13 295 (v := undef) rfl rfl (by kernel_rfl) (by kernel_rfl) (by kernel_rfl) (fun _ _ _ h => h) (Or.inr ⟨by rfl, rfl⟩) hH0 ?ret13
    case ret13 =>
    try simp only [Act.put, List.setIfInBounds_toArray, List.set_cons_zero, List.set_cons_succ]
    refine takeH 14 296 (v := undef) rfl rfl (by kernel_rfl) (by kernel_rfl) (by kernel_rfl) (fun _ _ _ h => h) (Or.inr ⟨by rfl, rfl⟩) hH0 ?ret14
    case ret14 =>
    try simp only [Act.put, List.setIfInBounds_toArray, List.set_cons_zero, List.set_cons_succ]
    refine takeH 15 297 (v := undef) rfl rfl (by kernel_rfl) (by kernel_rfl) (by kernel_rfl) (fun _ _ _ h => h) (Or.inr ⟨by rfl, rfl⟩) hH0 ?ret15
    case ret15 =>
    try simp only [Act.put, List.setIfInBounds_toArray, List.set_cons_zero, List.set_cons_succ]
    refine takeH 16 298 (v := undef) rfl rfl (by kernel_rfl) (by kernel_rfl) (by kernel_rfl) (fun _ _ _ h => h) (Or.inr ⟨by rfl, rfl⟩) hH0 ?ret16
    case ret16 =>
    try simp only [Act.put, List.setIfInBounds_toArray, List.set_cons_zero, List.set_cons_succ]
    refine takeH 17 299 (v := ?vet17) rfl rfl (by kernel_rfl) (by kernel_rfl) (by kernel_rfl) (fun _ _ _ h => h) (Or.inl ⟨by rfl, ?het17⟩) hH0 ?ret17
    case het17 => (intro w hSw; clear hSw; go_simp; (try with_reducible rfl))
    case ret17 =>
    try simp only [Act.put, List.setIfInBounds_toArray, List.set_cons_zero, List.set_cons_succ]
    refine storeH_row 253 18 (by kernel_rfl) rfl rfl rfl _ _ rfl g (tabV 12 S.cell) #[.int .i64 0, .string ⟨#[]⟩, .slice none 0 0, .int .i64 0, .slice none 0 0, .slice none 0 0, .bool false, .slice none 0 0, .string ⟨#[]⟩, .bool false, .bool false, .int .i64 0] rfl rfl (hGe.keep (show Only (fun _ => False) w130 w130.drew from (Only.refl _ w130).drew) (fun e => e)) Tryz.sizeSMStmt rfl hone ?_
    intro w9 hn9 ho9
    refine ⟨⟨hH0.1.keep ho9 hkg, cell_keep hH0.2.1 ho9 hrg, cell_keep hH0.2.2.1 ho9 hrg, cell_keep hH0.2.2.2 ho9 hrg⟩, ?_⟩
    try simp only [Act.put, List.setIfInBounds_toArray, List.set_cons_zero, List.set_cons_succ]
    have hH9 : Has w9 ks (tabV 12 S.cell) 253 ∧ w9.cell? ⟨kr, 2, none⟩ = some (.bool true) ∧ w9.cell? ⟨kr, 1, none⟩ = some (.int .i64 (i : Int)) ∧ w9.cell? ⟨kr, 0, none⟩ = some (.slice ta tn tc) := ⟨hH0.1.keep ho9 hkg, cell_keep hH0.2.1 ho9 hrg, cell_keep hH0.2.2.1 ho9 hrg, cell_keep hH0.2.2.2 ho9 hrg⟩
    refine takeH 19 3 (v := ?vet19) rfl rfl (by kernel_rfl) (by kernel_rfl) (by kernel_rfl) (fun _ _ _ h => h) (Or.inl ⟨by rfl, ?het19⟩) hH9 ?ret19
    case het19 => (intro w hSw; clear hSw; go_simp; (try with_reducible rfl))
    case ret19 =>
    try simp only [Act.put, List.setIfInBounds_toArray, List.set_cons_zero, List.set_cons_succ]
    refine wpAnyH_done (by kernel_rfl) ?_ _
    have FF := hide (unhide HF w9 ho9)
    rw [unhide HB] at FF
    clear HF HB ho9 hH9 hH0
    go_wp2_with fail
    refine bodyPost_ret (sres_mst rfl _ rfl hn9 rfl) rfl ?_
    exact unhide FF
end Go.Proofs.Qxb6500412aGreat
