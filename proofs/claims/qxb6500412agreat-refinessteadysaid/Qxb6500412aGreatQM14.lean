/-
  OWN WORK. QUERY's MODEL: parse: no sentence (written by tools/gen_qm12.py).
-/
import Derived.Test.Qxb6500412aGreatQM11
namespace Go.Proofs.Qxb6500412aGreat
open Go.RowKit Go.PlainAid
set_option linter.unusedSimpArgs false
set_option linter.unusedVariables false
set_option maxRecDepth 100000 in
set_option maxHeartbeats 16000000 in
theorem smparse_none (t : ByteArray) (ht : t.size ≤ 256) (hc : (toks t 0).2 = true) (hBEGIN : eatB wBEGIN (toks t 0) = false) (hCOMMIT : eatB wCOMMIT (toks t 0) = false) (hROLLBACK : eatB wROLLBACK (toks t 0) = false) (hCREATE : eatB wCREATE (toks t 0) = false) (hDROP : eatB wDROP (toks t 0) = false) (hINSERT : eatB wINSERT (toks t 0) = false) (hSELECT : eatB wSELECT (toks t 0) = false) (hUPDATE : eatB wUPDATE (toks t 0) = false) (hDELETE : eatB wDELETE (toks t 0) = false) (w : World) : Calls Tryz.prog 180 #[.string t] w (MpP t w) := by
  have b1 : ¬ ((t.size : Int) > 256) := by omega
  have N1 := Has.new w (tabV 12 smz) 253
  have o1 : Only (fun _ => False) w (w.alloc (.cells (tabV 12 smz) 253)) := (Only.refl _ w).alloc _
  have HN := hide (And.intro N1 o1)
  rw [smz_tab] at HN
  clear N1 o1
  have C1 := hide (smtokens_any t (w.alloc (.cells #[.int .i64 0, .string ⟨#[]⟩, .slice none 0 0, .int .i64 0, .slice none 0 0, .slice none 0 0, .bool false, .slice none 0 0, .string ⟨#[]⟩, .bool false, .bool false, .int .i64 0] 253)))
  have HT := hide (And.intro ht hc)
  have HK := hide (And.intro hBEGIN (And.intro hCOMMIT (And.intro hROLLBACK (And.intro hCREATE (And.intro hDROP (And.intro hINSERT (And.intro hSELECT (And.intro hUPDATE hDELETE))))))))
  clear hBEGIN hCOMMIT hROLLBACK hCREATE hDROP hINSERT hSELECT hUPDATE hDELETE
  clear ht hc
  go_enter Tryz.func180, Tryz.ntmps180
  go_wp2_with fail
  refine (unhide C1).mono ?_
  rintro e w2 hh
  obtain ⟨tv, hx, hown, ho⟩ := TksP.short hh (unhide HT).1 (unhide HT).2
  subst hx
  obtain ⟨ta, tc, htv⟩ := ownsRow_shape hown
  have g2 : w.heap.size < w2.heap.size := Nat.lt_of_lt_of_le (unhide HN).1.lt ho.size
  have oA : Only (fun _ => False) w2 (w2.alloc (.cells (tabV 12 smz) 253)) := (Only.refl _ _).alloc _
  have oB : Only (fun _ => False) (w2.alloc (.cells (tabV 12 smz) 253)) ((w2.alloc (.cells (tabV 12 smz) 253)).alloc (.cells #[tv, .int .i64 0, .bool false] 325)) := (Only.refl _ _).alloc _
  have N2 := (Has.new w2 (tabV 12 smz) 253).keep oB (fun e => e)
  have N3 := Has.new (w2.alloc (.cells (tabV 12 smz) 253)) #[tv, .int .i64 0, .bool false] 325
  have sz : (w2.alloc (.cells (tabV 12 smz) 253)).heap.size = w2.heap.size + 1 := by simp
  rw [sz] at N3
  have H0 := hide (MQR.start (lo := w.heap.size + 1) N3 ((hown.quiet oA).quiet oB) (unhide HT).1 (unhide HT).2 N2 (by omega) (by omega))
  have HG := hide (show Has ((w2.alloc (.cells (tabV 12 smz) 253)).alloc (.cells #[tv, .int .i64 0, .bool false] 325)) w.heap.size #[.int .i64 0, .string ⟨#[]⟩, .slice none 0 0, .int .i64 0, .slice none 0 0, .slice none 0 0, .bool false, .slice none 0 0, .string ⟨#[]⟩, .bool false, .bool false, .int .i64 0] 253 ∧ Only (fun _ => False) w ((w2.alloc (.cells (tabV 12 smz) 253)).alloc (.cells #[tv, .int .i64 0, .bool false] 325)) from ⟨(((unhide HN).1.keep ho (fun e => e)).keep oA (fun e => e)).keep oB (fun e => e), (((unhide HN).2.trans ho (fun _ _ e => e)).trans oA (fun _ _ e => e)).trans oB (fun _ _ e => e)⟩)
  rw [smz_tab] at H0 HG
  rw [htv] at H0 HG ⊢
  clear N2 N3 oA oB sz hown ho hh HN C1 htv tv g2 b1
  have hta : (toks t 0).1.length ≤ 256 := Nat.le_trans (toks_len (t := t) (i := 0) (Nat.zero_le _)) (by have := (unhide HT).1; omega)
  generalize htn : (toks t 0).1.length = tn at H0 HG ⊢
  have HTn := hide (And.intro htn hta)
  clear htn hta
  go_upto_region 8 with fail
  generalize (w2.alloc (.cells #[.int .i64 0, .string ⟨#[]⟩, .slice none 0 0, .int .i64 0, .slice none 0 0, .slice none 0 0, .bool false, .slice none 0 0, .string ⟨#[]⟩, .bool false, .bool false, .int .i64 0] 253)).alloc (.cells #[.slice ta tn tc, .int .i64 0, .bool false] 325) = w3 at *
  generalize w2.heap.size + 1 = kr at *
  generalize w2.heap.size = ks at *
  obtain ⟨tv, htv⟩ : ∃ v, Value.slice ta tn tc = v := ⟨_, rfl⟩
  rw [htv] at H0
  have Htv := hide htv
  obtain ⟨g, hg⟩ : ∃ g, w.heap.size = g := ⟨_, rfl⟩
  rw [hg] at H0 HG ⊢
  have Hg := hide hg
  obtain ⟨P0, hP0⟩ : ∃ P, toks t 0 = P := ⟨_, rfl⟩
  have HPQ := hide (show parQ t = senP P0 St.z by rw [← hP0]; rfl)
  obtain ⟨tl, htl⟩ : ∃ l, (toks t 0).1 = l := ⟨_, rfl⟩
  rw [htl] at H0 HTn
  have HPl := hide (show P0.1.length ≤ 256 by rw [← hP0, htl]; have := (unhide HTn); omega)
  rw [hP0] at H0 HT HK
  have HQ3 := hide (show MqP (g + 1) kr ks tv tl P0 (Ms.of St.z) w3 w3 from ⟨unhide H0, Only.refl _ _⟩)
  clear H0 htv hg hP0 htl
  have C1 := smeat_no (unhide HQ3).1.rd (⟨#[66, 69, 71, 73, 78]⟩ : ByteArray) (.inl (by decide +kernel)) (unhide HT).2 ((unhide HK).1)
  have C1 := hide C1
  go_wp2_with fail
  refine (unhide C1).mono ?_
  rintro e w4 ⟨rfl, hh⟩
  have HR1 := hide ((unhide HQ3).trans ((unhide HQ3).1.parP hh (fun c => c)))
  clear C1 hh HQ3
  have C1 := smeat_no (unhide HR1).1.rd (⟨#[67, 79, 77, 77, 73, 84]⟩ : ByteArray) (.inl (by decide +kernel)) (unhide HT).2 ((unhide HK).2.1)
  have C1 := hide C1
  go_wp2_with fail
  refine (unhide C1).mono ?_
  rintro e w5 ⟨rfl, hh⟩
  have HR2 := hide ((unhide HR1).trans ((unhide HR1).1.parP hh (fun c => c)))
  clear C1 hh HR1
  have C1 := smeat_no (unhide HR2).1.rd (⟨#[82, 79, 76, 76, 66, 65, 67, 75]⟩ : ByteArray) (.inl (by decide +kernel)) (unhide HT).2 ((unhide HK).2.2.1)
  have C1 := hide C1
  go_wp2_with fail
  refine (unhide C1).mono ?_
  rintro e w6 ⟨rfl, hh⟩
  have HR3 := hide ((unhide HR2).trans ((unhide HR2).1.parP hh (fun c => c)))
  clear C1 hh HR2
  have C1 := smeat_no (unhide HR3).1.rd (⟨#[67, 82, 69, 65, 84, 69]⟩ : ByteArray) (.inl (by decide +kernel)) (unhide HT).2 ((unhide HK).2.2.2.1)
  have C1 := hide C1
  go_wp2_with fail
  refine (unhide C1).mono ?_
  rintro e w7 ⟨rfl, hh⟩
  have HR4 := hide ((unhide HR3).trans ((unhide HR3).1.parP hh (fun c => c)))
  clear C1 hh HR3
  have C1 := smeat_no (unhide HR4).1.rd (⟨#[68, 82, 79, 80]⟩ : ByteArray) (.inl (by decide +kernel)) (unhide HT).2 ((unhide HK).2.2.2.2.1)
  have C1 := hide C1
  go_wp2_with fail
  refine (unhide C1).mono ?_
  rintro e w8 ⟨rfl, hh⟩
  have HR5 := hide ((unhide HR4).trans ((unhide HR4).1.parP hh (fun c => c)))
  clear C1 hh HR4
  have C1 := smeat_no (unhide HR5).1.rd (⟨#[73, 78, 83, 69, 82, 84]⟩ : ByteArray) (.inl (by decide +kernel)) (unhide HT).2 ((unhide HK).2.2.2.2.2.1)
  have C1 := hide C1
  go_wp2_with fail
  refine (unhide C1).mono ?_
  rintro e w9 ⟨rfl, hh⟩
  have HR6 := hide ((unhide HR5).trans ((unhide HR5).1.parP hh (fun c => c)))
  clear C1 hh HR5
  have C1 := smeat_no (unhide HR6).1.rd (⟨#[83, 69, 76, 69, 67, 84]⟩ : ByteArray) (.inl (by decide +kernel)) (unhide HT).2 ((unhide HK).2.2.2.2.2.2.1)
  have C1 := hide C1
  go_wp2_with fail
  refine (unhide C1).mono ?_
  rintro e w10 ⟨rfl, hh⟩
  have HR7 := hide ((unhide HR6).trans ((unhide HR6).1.parP hh (fun c => c)))
  clear C1 hh HR6
  have C1 := smeat_no (unhide HR7).1.rd (⟨#[85, 80, 68, 65, 84, 69]⟩ : ByteArray) (.inl (by decide +kernel)) (unhide HT).2 ((unhide HK).2.2.2.2.2.2.2.1)
  have C1 := hide C1
  go_wp2_with fail
  refine (unhide C1).mono ?_
  rintro e w11 ⟨rfl, hh⟩
  have HR8 := hide ((unhide HR7).trans ((unhide HR7).1.parP hh (fun c => c)))
  clear C1 hh HR7
  have C1 := smeat_no (unhide HR8).1.rd (⟨#[68, 69, 76, 69, 84, 69]⟩ : ByteArray) (.inl (by decide +kernel)) (unhide HT).2 ((unhide HK).2.2.2.2.2.2.2.2)
  have C1 := hide C1
  go_wp2_with fail
  refine (unhide C1).mono ?_
  rintro e w12 ⟨rfl, hh⟩
  have HR9 := hide ((unhide HR8).trans ((unhide HR8).1.parP hh (fun c => c)))
  clear C1 hh HR8
  have EQ : parQ t = (failP, St.z) := (unhide HPQ).trans (sen_none (unhide HK).2.2.2.2.2.2.1 (unhide HK).2.2.2.2.2.1 (unhide HK).2.2.2.2.2.2.2.1 (unhide HK).2.2.2.2.2.2.2.2 (unhide HK).1 (unhide HK).2.1 (unhide HK).2.2.1 (unhide HK).2.2.2.2.1 (unhide HK).2.2.2.1)
  have hq := unhide HR9
  obtain ⟨S, hM, hO, hLn⟩ := hq.1.sq
  have hGe := (unhide HG).1.keep hq.2 (fun (c : g + 1 ≤ g) => by omega)
  have oW := (unhide HG).2.lateS hq.2 (fun k hk => by have e' : g + 1 ≤ k := hk; have := unhide Hg; omega)
  have hB : parB t = false := by unfold parB; rw [EQ]; simp [failP]
  have HF := hide (fun (w' : World) (h2 : Only (fun k => k = g) w12 w') => MpP.fin (t := t) (mf := Ms.of St.z) (unhide Hg) hM (fun c => by cases c) EQ rfl oW h2)
  obtain ⟨a2, n2, c2, a4, n4, c4, a5, n5, c5, a7, n7, c7, hcs⟩ := (hO (unhide HT).2).cells_ hM.lists
  have hkh : Has w12 ks #[.int .i64 0, .string ⟨#[]⟩, .slice a2 n2 c2, .int .i64 0, .slice a4 n4 c4, .slice a5 n5 c5, .bool false, .slice a7 n7 c7, .string ⟨#[]⟩, .bool false, .bool false, .int .i64 0] 253 := by have := hM.has; rw [hcs] at this; exact this
  have hcs2 : tabV 12 S.cell = #[.int .i64 0, .string ⟨#[]⟩, .slice a2 n2 c2, .int .i64 0, .slice a4 n4 c4, .slice a5 n5 c5, .bool false, .slice a7 n7 c7, .string ⟨#[]⟩, .bool false, .bool false, .int .i64 0] := hcs
  have lk := hkh.lt
  have lg := hGe.lt
  have k0c : w12.cell? ⟨ks, 0, none⟩ = some (.int .i64 0) := hkh.cell 0
  have g0c : w12.cell? ⟨g, 0, none⟩ = some (.int .i64 0) := hGe.cell 0
  have g0f := hGe.free 0
  have k1c : w12.cell? ⟨ks, 1, none⟩ = some (.string ⟨#[]⟩) := hkh.cell 1
  have g1c : w12.cell? ⟨g, 1, none⟩ = some (.string ⟨#[]⟩) := hGe.cell 1
  have g1f := hGe.free 1
  have k2c : w12.cell? ⟨ks, 2, none⟩ = some (.slice a2 n2 c2) := hkh.cell 2
  have g2c : w12.cell? ⟨g, 2, none⟩ = some (.slice none 0 0) := hGe.cell 2
  have g2f := hGe.free 2
  have k3c : w12.cell? ⟨ks, 3, none⟩ = some (.int .i64 0) := hkh.cell 3
  have g3c : w12.cell? ⟨g, 3, none⟩ = some (.int .i64 0) := hGe.cell 3
  have g3f := hGe.free 3
  have k4c : w12.cell? ⟨ks, 4, none⟩ = some (.slice a4 n4 c4) := hkh.cell 4
  have g4c : w12.cell? ⟨g, 4, none⟩ = some (.slice none 0 0) := hGe.cell 4
  have g4f := hGe.free 4
  have k5c : w12.cell? ⟨ks, 5, none⟩ = some (.slice a5 n5 c5) := hkh.cell 5
  have g5c : w12.cell? ⟨g, 5, none⟩ = some (.slice none 0 0) := hGe.cell 5
  have g5f := hGe.free 5
  have k6c : w12.cell? ⟨ks, 6, none⟩ = some (.bool false) := hkh.cell 6
  have g6c : w12.cell? ⟨g, 6, none⟩ = some (.bool false) := hGe.cell 6
  have g6f := hGe.free 6
  have k7c : w12.cell? ⟨ks, 7, none⟩ = some (.slice a7 n7 c7) := hkh.cell 7
  have g7c : w12.cell? ⟨g, 7, none⟩ = some (.slice none 0 0) := hGe.cell 7
  have g7f := hGe.free 7
  have k8c : w12.cell? ⟨ks, 8, none⟩ = some (.string ⟨#[]⟩) := hkh.cell 8
  have g8c : w12.cell? ⟨g, 8, none⟩ = some (.string ⟨#[]⟩) := hGe.cell 8
  have g8f := hGe.free 8
  have k9c : w12.cell? ⟨ks, 9, none⟩ = some (.bool false) := hkh.cell 9
  have g9c : w12.cell? ⟨g, 9, none⟩ = some (.bool false) := hGe.cell 9
  have g9f := hGe.free 9
  have k10c : w12.cell? ⟨ks, 10, none⟩ = some (.bool false) := hkh.cell 10
  have g10c : w12.cell? ⟨g, 10, none⟩ = some (.bool false) := hGe.cell 10
  have g10f := hGe.free 10
  have k11c : w12.cell? ⟨ks, 11, none⟩ = some (.int .i64 0) := hkh.cell 11
  have g11c : w12.cell? ⟨g, 11, none⟩ = some (.int .i64 0) := hGe.cell 11
  have g11f := hGe.free 11
  have H5 := has_setAll [.int .i64 0, .string ⟨#[]⟩, .slice a2 n2 c2, .int .i64 0, .slice a4 n4 c4, .slice a5 n5 c5, .bool false, .slice a7 n7 c7, .string ⟨#[]⟩, .bool false, .bool false, .int .i64 0] hGe rfl
  have O5 := only_setW g [.int .i64 0, .string ⟨#[]⟩, .slice a2 n2 c2, .int .i64 0, .slice a4 n4 c4, .slice a5 n5 c5, .bool false, .slice a7 n7 c7, .string ⟨#[]⟩, .bool false, .bool false, .int .i64 0] 0 w12
  have FF := hide (And.intro H5 (unhide HF _ O5))
  rw [hB, hcs2] at FF
  simp only [setW, Nat.zero_add, Nat.reduceAdd] at FF
  clear H5 O5 hcs hcs2 HR9 hq hM hO hLn oW EQ HG HPQ HT HTn Htv Hg HK HPl hB HF hkh hGe
  go_wp2_with fail
  refine bodyPost_ret (sres_mst rfl _ rfl (unhide FF).1 rfl) rfl ?_
  exact (unhide FF).2
end Go.Proofs.Qxb6500412aGreat
