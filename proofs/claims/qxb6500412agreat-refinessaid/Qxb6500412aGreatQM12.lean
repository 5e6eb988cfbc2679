/-
  OWN WORK. QUERY's MODEL: parse: BEGIN, COMMIT, ROLLBACK (written by tools/gen_qm12.py).
-/
import Derived.Test.Qxb6500412aGreatQM11
namespace Go.Proofs.Qxb6500412aGreat
open Go.RowKit Go.PlainAid
set_option linter.unusedSimpArgs false
set_option linter.unusedVariables false
set_option maxRecDepth 100000 in
set_option maxHeartbeats 16000000 in
theorem smparse_BEGIN (t : ByteArray) (ht : t.size ≤ 256) (hc : (toks t 0).2 = true) (hk : eatB wBEGIN (toks t 0) = true) (w : World) : Calls Tryz.prog 180 #[.string t] w (MpP t w) := by
  have b1 : ¬ ((t.size : Int) > 256) := by omega
  have N1 := Has.new w (tabV 12 smz) 253
  have o1 : Only (fun _ => False) w (w.alloc (.cells (tabV 12 smz) 253)) := (Only.refl _ w).alloc _
  have HN := hide (And.intro N1 o1)
  rw [smz_tab] at HN
  clear N1 o1
  have C1 := hide (smtokens_any t (w.alloc (.cells #[.int .i64 0, .string ⟨#[]⟩, .slice none 0 0, .int .i64 0, .slice none 0 0, .slice none 0 0, .bool false, .slice none 0 0, .string ⟨#[]⟩, .bool false, .bool false, .int .i64 0] 253)))
  have HT := hide (And.intro ht hc)
  have HK := hide hk
  clear hk
  clear ht hc
  go_enter Tryz.func180, Tryz.ntmps180
  go_wp2_with fail
  refine (unhide C1).mono ?_
  rintro e w2 hh
  obtain ⟨tv, hx, hown, ho⟩ := TksP.short hh (unhide HT).1 (unhide HT).2
  subst hx
  obtain ⟨ta, tc, htv⟩ := ownsRow_shape hown
  have g2 : w.heap.size < w2.heap.size := Nat.lt_of_lt_of_le (unhide HN).1.lt ho.size
  have oA : Only (fun _ => False) w2 (w2.alloc (.cells (tabV 12 smz) 253)) := (Only.refl _ _).alloc _
  have oB : Only (fun _ => False) (w2.alloc (.cells (tabV 12 smz) 253)) ((w2.alloc (.cells (tabV 12 smz) 253)).alloc (.cells #[tv, .int .i64 0, .bool false] 325)) := (Only.refl _ _).alloc _
  have N2 := (Has.new w2 (tabV 12 smz) 253).keep oB (fun e => e)
  have N3 := Has.new (w2.alloc (.cells (tabV 12 smz) 253)) #[tv, .int .i64 0, .bool false] 325
  have sz : (w2.alloc (.cells (tabV 12 smz) 253)).heap.size = w2.heap.size + 1 := by simp
  rw [sz] at N3
  have H0 := hide (MQR.start (lo := w.heap.size + 1) N3 ((hown.quiet oA).quiet oB) (unhide HT).1 (unhide HT).2 N2 (by omega) (by omega))
  have HG := hide (show Has ((w2.alloc (.cells (tabV 12 smz) 253)).alloc (.cells #[tv, .int .i64 0, .bool false] 325)) w.heap.size #[.int .i64 0, .string ⟨#[]⟩, .slice none 0 0, .int .i64 0, .slice none 0 0, .slice none 0 0, .bool false, .slice none 0 0, .string ⟨#[]⟩, .bool false, .bool false, .int .i64 0] 253 ∧ Only (fun _ => False) w ((w2.alloc (.cells (tabV 12 smz) 253)).alloc (.cells #[tv, .int .i64 0, .bool false] 325)) from ⟨(((unhide HN).1.keep ho (fun e => e)).keep oA (fun e => e)).keep oB (fun e => e), (((unhide HN).2.trans ho (fun _ _ e => e)).trans oA (fun _ _ e => e)).trans oB (fun _ _ e => e)⟩)
  rw [smz_tab] at H0 HG
  rw [htv] at H0 HG ⊢
  clear N2 N3 oA oB sz hown ho hh HN C1 htv tv g2 b1
  have hta : (toks t 0).1.length ≤ 256 := Nat.le_trans (toks_len (t := t) (i := 0) (Nat.zero_le _)) (by have := (unhide HT).1; omega)
  generalize htn : (toks t 0).1.length = tn at H0 HG ⊢
  have HTn := hide (And.intro htn hta)
  clear htn hta
  go_upto_region 8 with fail
  generalize (w2.alloc (.cells #[.int .i64 0, .string ⟨#[]⟩, .slice none 0 0, .int .i64 0, .slice none 0 0, .slice none 0 0, .bool false, .slice none 0 0, .string ⟨#[]⟩, .bool false, .bool false, .int .i64 0] 253)).alloc (.cells #[.slice ta tn tc, .int .i64 0, .bool false] 325) = w3 at *
  generalize w2.heap.size + 1 = kr at *
  generalize w2.heap.size = ks at *
  obtain ⟨tv, htv⟩ : ∃ v, Value.slice ta tn tc = v := ⟨_, rfl⟩
  rw [htv] at H0
  have Htv := hide htv
  obtain ⟨g, hg⟩ : ∃ g, w.heap.size = g := ⟨_, rfl⟩
  rw [hg] at H0 HG ⊢
  have Hg := hide hg
  obtain ⟨P0, hP0⟩ : ∃ P, toks t 0 = P := ⟨_, rfl⟩
  have HPQ := hide (show parQ t = senP P0 St.z by rw [← hP0]; rfl)
  obtain ⟨tl, htl⟩ : ∃ l, (toks t 0).1 = l := ⟨_, rfl⟩
  rw [htl] at H0 HTn
  have HPl := hide (show P0.1.length ≤ 256 by rw [← hP0, htl]; have := (unhide HTn); omega)
  rw [hP0] at H0 HT HK
  have HQ3 := hide (show MqP (g + 1) kr ks tv tl P0 (Ms.of St.z) w3 w3 from ⟨unhide H0, Only.refl _ _⟩)
  clear H0 htv hg hP0 htl
  have C1 := smeat_yes (unhide HQ3).1.rd (⟨#[66, 69, 71, 73, 78]⟩ : ByteArray) (.inl (by decide +kernel)) (unhide HT).2 (unhide HK)
  have C1 := hide C1
  go_wp2_with fail
  refine (unhide C1).mono ?_
  rintro e w4 ⟨rfl, hh⟩
  have HR1 := hide ((unhide HQ3).trans ((unhide HQ3).1.parP hh next_good))
  clear C1 hh HQ3
  obtain ⟨v0, c0, f0, kl⟩ := (unhide HR1).1.at_ (i := 0) (by omega)
  have HR2 := hide ((unhide HR1).trans ((unhide HR1).1.set (i := 0) (v := .int .i64 1) (by unfold smj; omega) rfl (fun S _ hS => hS.kind_)))
  clear  HR1
  go_upto_region 94 with fail
  generalize w4.setCell ⟨ks, 0, none⟩ (.int .i64 1) = w5 at *
  clear c0 f0 kl
  have EQ := show parQ t = (nextP P0, { St.z with kind := 1 }) from (unhide HPQ).trans (sen_BEGIN (unhide HK))
  have hq := unhide HR2
  obtain ⟨i, bad, hc, hP⟩ := hq.1.rd
  obtain ⟨S, hM, hO, hLn⟩ := hq.1.sq
  have hGe := (unhide HG).1.keep hq.2 (fun (c : g + 1 ≤ g) => by omega)
  have oW := (unhide HG).2.lateS hq.2 (fun k hk => by have e' : g + 1 ≤ k := hk; have := unhide Hg; omega)
  have hB := par_bool (unhide HT).1 EQ hc hP
  have HF := hide (fun (w' : World) (h2 : Only (fun k => k = g) w5.drew w') => MpP.fin (t := t) (unhide Hg) hM hO EQ rfl oW (((Only.refl (fun k => k = g) w5).drew).trans h2 (fun _ _ h => h)))
  have S0 : Has w5 ks (tabV 12 S.cell) 253 ∧ w5.cell? ⟨kr, 2, none⟩ = some (.bool bad) ∧ w5.cell? ⟨kr, 1, none⟩ = some (.int .i64 (i : Int)) ∧ w5.cell? ⟨kr, 0, none⟩ = some (.slice ta tn tc) := ⟨hM.has, hc.has.cell 2, hc.has.cell 1, by rw [unhide Htv]; exact hc.has.cell 0⟩
  have hone := tab12_all hM.one
  have hkg : ks ≠ g := by have := hq.1.klt; omega
  have hrg : kr ≠ g := by have := hq.1.lr; omega
  rw [(unhide HTn).1] at hB
  have hi256 : (i : Int) ≤ 256 := by have := hc.le; have := (unhide HTn); omega
  have htn256 : (tn : Int) ≤ 256 := by have := (unhide HTn); omega
  clear HR2 hq hc hP hM hO hLn oW EQ HG HPQ HT HTn Htv Hg HK HPl
  cases bad with
  | false =>
    rw [Bool.not_false, Bool.true_and] at hB
    obtain ⟨eb, heb⟩ : ∃ b, decide ((i : Int) = (tn : Int)) = b := ⟨_, rfl⟩
    have heb2 : ((i : Int) == (tn : Int)) = eb := by rw [← heb]; simp [BEq.beq]
    rw [heb] at hB
    have HB := hide hB
    clear hB heb
    refine wp_region_held_drew (S := (fun w' => Has w' ks (tabV 12 S.cell) 253 ∧ w'.cell? ⟨kr, 2, none⟩ = some (.bool false) ∧ w'.cell? ⟨kr, 1, none⟩ = some (.int .i64 (i : Int)) ∧ w'.cell? ⟨kr, 0, none⟩ = some (.slice ta tn tc))) (by kernel_rfl) S0 (fun hH0 => ?_)
    refine takeH 0 282 (v := .agg (tabV 12 S.cell)) rfl rfl (by kernel_rfl) (by kernel_rfl) (by kernel_rfl) (fun _ _ _ h => h) (yieldsIf_load_mst (by rfl) _ rfl ks rfl _ rfl (fun w h => h.1)) hH0 ?ref0
    case ref0 =>
    try simp only [Act.put, List.setIfInBounds_toArray, List.set_cons_zero, List.set_cons_succ]
    refine takeH 1 283 (v := ?vef1) rfl rfl (by kernel_rfl) (by kernel_rfl) (by kernel_rfl) (fun _ _ _ h => h) (Or.inl ⟨by rfl, ?hef1⟩) hH0 ?ref1
    case hef1 => (intro w hSw; clear hSw; go_simp; (try with_reducible rfl))
    case ref1 =>
    try simp only [Act.put, List.setIfInBounds_toArray, List.set_cons_zero, List.set_cons_succ]
    refine takeH 2 284 (v := ?vef2) rfl rfl (by kernel_rfl) (by kernel_rfl) (by kernel_rfl) (fun _ _ _ h => h) (Or.inl ⟨by rfl, ?hef2⟩) hH0 ?ref2
    case hef2 => (intro w hSw; clear hSw; go_simp; (try with_reducible rfl))
    case ref2 =>
    try simp only [Act.put, List.setIfInBounds_toArray, List.set_cons_zero, List.set_cons_succ]
    refine takeH 3 285 (v := ?vef3) rfl rfl (by kernel_rfl) (by kernel_rfl) (by kernel_rfl) (fun _ _ _ h => h) (Or.inl ⟨by rfl, ?hef3⟩) hH0 ?ref3
    case hef3 => (intro w hSw; clear hSw; go_simp; (try with_reducible rfl))
    case ref3 =>
    try simp only [Act.put, List.setIfInBounds_toArray, List.set_cons_zero, List.set_cons_succ]
    refine takeH 4 286 (v := ?vef4) rfl rfl (by kernel_rfl) (by kernel_rfl) (by kernel_rfl) (fun _ _ _ h => h) (Or.inl ⟨by rfl, ?hef4⟩) hH0 ?ref4
    case hef4 => (intro w hSw; obtain ⟨_, s1, s2, s3⟩ := hSw; go_simp; (try with_reducible rfl))
    case ref4 =>
    try simp only [Act.put, List.setIfInBounds_toArray, List.set_cons_zero, List.set_cons_succ]
    refine takeH 5 287 (v := ?vef5) rfl rfl (by kernel_rfl) (by kernel_rfl) (by kernel_rfl) (fun _ _ _ h => h) (Or.inl ⟨by rfl, ?hef5⟩) hH0 ?ref5
    case hef5 => (intro w hSw; clear hSw; go_simp; (try with_reducible rfl))
    case ref5 =>
    try simp only [Act.put, List.setIfInBounds_toArray, List.set_cons_zero, List.set_cons_succ]
    refine takeH 6 288 (v := ?vef6) rfl rfl (by kernel_rfl) (by kernel_rfl) (by kernel_rfl) (fun _ _ _ h => h) (Or.inl ⟨by rfl, ?hef6⟩) hH0 ?ref6
    case hef6 => (intro w hSw; clear hSw; go_simp; (try with_reducible rfl))
    case ref6 =>
    try simp only [Act.put, List.setIfInBounds_toArray, List.set_cons_zero, List.set_cons_succ]
    refine takeH 7 289 (v := ?vef7) rfl rfl (by kernel_rfl) (by kernel_rfl) (by kernel_rfl) (fun _ _ _ h => h) (Or.inl ⟨by rfl, ?hef7⟩) hH0 ?ref7
    case hef7 => (intro w hSw; clear hSw; go_simp; (try with_reducible rfl))
    case ref7 =>
    try simp only [Act.put, List.setIfInBounds_toArray, List.set_cons_zero, List.set_cons_succ]
    refine takeH 8 290 (v := ?vef8) rfl rfl (by kernel_rfl) (by kernel_rfl) (by kernel_rfl) (fun _ _ _ h => h) (Or.inl ⟨by rfl, ?hef8⟩) hH0 ?ref8
    case hef8 => (intro w hSw; clear hSw; go_simp; (try with_reducible rfl))
    case ref8 =>
    try simp only [Act.put, List.setIfInBounds_toArray, List.set_cons_zero, List.set_cons_succ]
    refine takeH 9 291 (v := ?vef9) rfl rfl (by kernel_rfl) (by kernel_rfl) (by kernel_rfl) (fun _ _ _ h => h) (Or.inl ⟨by rfl, ?hef9⟩) hH0 ?ref9
    case hef9 => (intro w hSw; clear hSw; go_simp; (try with_reducible rfl))
    case ref9 =>
    try simp only [Act.put, List.setIfInBounds_toArray, List.set_cons_zero, List.set_cons_succ]
    refine takeH 10 292 (v := ?vef10) rfl rfl (by kernel_rfl) (by kernel_rfl) (by kernel_rfl) (fun _ _ _ h => h) (Or.inl ⟨by rfl, ?hef10⟩) hH0 ?ref10
    case hef10 => (intro w hSw; obtain ⟨_, s1, s2, s3⟩ := hSw; go_simp; (try with_reducible rfl))
    case ref10 =>
    try simp only [Act.put, List.setIfInBounds_toArray, List.set_cons_zero, List.set_cons_succ]
    refine takeH 11 293 (v := ?vef11) rfl rfl (by kernel_rfl) (by kernel_rfl) (by kernel_rfl) (fun _ _ _ h => h) (Or.inl ⟨by rfl, ?hef11⟩) hH0 ?ref11
    case hef11 => (intro w hSw; clear hSw; go_simp; (try with_reducible rfl))
    case ref11 =>
    try simp only [Act.put, List.setIfInBounds_toArray, List.set_cons_zero, List.set_cons_succ]
    refine takeH 12 294 (v := ?vef12) rfl rfl (by kernel_rfl) (by kernel_rfl) (by kernel_rfl) (fun _ _ _ h => h) (Or.inl ⟨by rfl, ?hef12⟩) hH0 ?ref12
    case hef12 => (intro w hSw; clear hSw; go_simp; (try with_reducible rfl))
    case ref12 =>
    try simp only [Act.put, List.setIfInBounds_toArray, List.set_cons_zero, List.set_cons_succ]
    refine takeH 13 295 (v := ?vef13) rfl rfl (by kernel_rfl) (by kernel_rfl) (by kernel_rfl) (fun _ _ _ h => h) (Or.inl ⟨by rfl, ?hef13⟩) hH0 ?ref13
    case hef13 => (intro w hSw; clear hSw; go_simp; (try with_reducible rfl))
    case ref13 =>
    try simp only [Act.put, List.setIfInBounds_toArray, List.set_cons_zero, List.set_cons_succ]
    refine takeH 14 296 (v := ?vef14) rfl rfl (by kernel_rfl) (by kernel_rfl) (by kernel_rfl) (fun _ _ _ h => h) (Or.inl ⟨by rfl, ?hef14⟩) hH0 ?ref14
    case hef14 => (intro w hSw; obtain ⟨_, s1, s2, s3⟩ := hSw; go_simp; (try with_reducible rfl))
    case ref14 =>
    try simp only [Act.put, List.setIfInBounds_toArray, List.set_cons_zero, List.set_cons_succ]
    refine takeH 15 297 (v := ?vef15) rfl rfl (by kernel_rfl) (by kernel_rfl) (by kernel_rfl) (fun _ _ _ h => h) (Or.inl ⟨by rfl, ?hef15⟩) hH0 ?ref15
    case hef15 => (intro w hSw; clear hSw; go_simp; (try with_reducible rfl))
    case ref15 =>
    try simp only [Act.put, List.setIfInBounds_toArray, List.set_cons_zero, List.set_cons_succ]
    refine takeH 16 298 (v := ?vef16) rfl rfl (by kernel_rfl) (by kernel_rfl) (by kernel_rfl) (fun _ _ _ h => h) (Or.inl ⟨by rfl, ?hef16⟩) hH0 ?ref16
    case hef16 => (intro w hSw; clear hSw; go_simp; (try with_reducible rfl))
    case ref16 =>
    try simp only [Act.put, List.setIfInBounds_toArray, List.set_cons_zero, List.set_cons_succ]
    refine takeH 17 299 (v := ?vef17) rfl rfl (by kernel_rfl) (by kernel_rfl) (by kernel_rfl) (fun _ _ _ h => h) (Or.inl ⟨by rfl, ?hef17⟩) hH0 ?ref17
    case hef17 => (intro w hSw; clear hSw; go_simp; (try with_reducible rfl))
    case ref17 =>
    try simp only [Act.put, List.setIfInBounds_toArray, List.set_cons_zero, List.set_cons_succ]
    refine storeH_row 253 18 (by kernel_rfl) rfl rfl rfl _ _ rfl g (tabV 12 S.cell) #[.int .i64 0, .string ⟨#[]⟩, .slice none 0 0, .int .i64 0, .slice none 0 0, .slice none 0 0, .bool false, .slice none 0 0, .string ⟨#[]⟩, .bool false, .bool false, .int .i64 0] rfl rfl (hGe.keep (show Only (fun _ => False) w5 w5.drew from (Only.refl _ w5).drew) (fun e => e)) Tryz.sizeSMStmt rfl hone ?_
    intro w9 hn9 ho9
    refine ⟨⟨hH0.1.keep ho9 hkg, cell_keep hH0.2.1 ho9 hrg, cell_keep hH0.2.2.1 ho9 hrg, cell_keep hH0.2.2.2 ho9 hrg⟩, ?_⟩
    try simp only [Act.put, List.setIfInBounds_toArray, List.set_cons_zero, List.set_cons_succ]
    have hH9 : Has w9 ks (tabV 12 S.cell) 253 ∧ w9.cell? ⟨kr, 2, none⟩ = some (.bool false) ∧ w9.cell? ⟨kr, 1, none⟩ = some (.int .i64 (i : Int)) ∧ w9.cell? ⟨kr, 0, none⟩ = some (.slice ta tn tc) := ⟨hH0.1.keep ho9 hkg, cell_keep hH0.2.1 ho9 hrg, cell_keep hH0.2.2.1 ho9 hrg, cell_keep hH0.2.2.2 ho9 hrg⟩
    refine takeH 19 3 (v := ?vef19) rfl rfl (by kernel_rfl) (by kernel_rfl) (by kernel_rfl) (fun _ _ _ h => h) (Or.inl ⟨by rfl, ?hef19⟩) hH9 ?ref19
    case hef19 => (intro w hSw; clear hSw; go_simp; (try with_reducible rfl))
    case ref19 =>
    try simp only [Act.put, List.setIfInBounds_toArray, List.set_cons_zero, List.set_cons_succ]
    refine wpAnyH_done (by kernel_rfl) ?_ _
    have FF := hide (unhide HF w9 ho9)
    rw [unhide HB] at FF
    clear HF HB ho9 hH9 hH0
    go_wp2_with fail
    refine bodyPost_ret (sres_mst rfl _ rfl hn9 rfl) rfl ?_
    exact unhide FF
  | true =>
    have HB := hide (show parB t = false from hB)
    clear hB
    refine wp_region_held_drew (S := (fun w' => Has w' ks (tabV 12 S.cell) 253 ∧ w'.cell? ⟨kr, 2, none⟩ = some (.bool true) ∧ w'.cell? ⟨kr, 1, none⟩ = some (.int .i64 (i : Int)) ∧ w'.cell? ⟨kr, 0, none⟩ = some (.slice ta tn tc))) (by kernel_rfl) S0 (fun hH0 => ?_)
    refine takeH 0 282 (v := .agg (tabV 12 S.cell)) rfl rfl (by kernel_rfl) (by kernel_rfl) (by kernel_rfl) (fun _ _ _ h => h) (yieldsIf_load_mst (by rfl) _ rfl ks rfl _ rfl (fun w h => h.1)) hH0 ?ret0
    case ret0 =>
    try simp only [Act.put, List.setIfInBounds_toArray, List.set_cons_zero, List.set_cons_succ]
    refine takeH 1 283 (v := ?vet1) rfl rfl (by kernel_rfl) (by kernel_rfl) (by kernel_rfl) (fun _ _ _ h => h) (Or.inl ⟨by rfl, ?het1⟩) hH0 ?ret1
    case het1 => (intro w hSw; clear hSw; go_simp; (try with_reducible rfl))
    case ret1 =>
    try simp only [Act.put, List.setIfInBounds_toArray, List.set_cons_zero, List.set_cons_succ]
    refine takeH 2 284 (v := ?vet2) rfl rfl (by kernel_rfl) (by kernel_rfl) (by kernel_rfl) (fun _ _ _ h => h) (Or.inl ⟨by rfl, ?het2⟩) hH0 ?ret2
    case het2 => (intro w hSw; clear hSw; go_simp; (try with_reducible rfl))
    case ret2 =>
    try simp only [Act.put, List.setIfInBounds_toArray, List.set_cons_zero, List.set_cons_succ]
    refine takeH 3 285 (v := ?vet3) rfl rfl (by kernel_rfl) (by kernel_rfl) (by kernel_rfl) (fun _ _ _ h => h) (Or.inl ⟨by rfl, ?het3⟩) hH0 ?ret3
    case het3 => (intro w hSw; clear hSw; go_simp; (try with_reducible rfl))
    case ret3 =>
    try simp only [Act.put, List.setIfInBounds_toArray, List.set_cons_zero, List.set_cons_succ]
    refine takeH 4 286 (v := ?vet4) rfl rfl (by kernel_rfl) (by kernel_rfl) (by kernel_rfl) (fun _ _ _ h => h) (Or.inl ⟨by rfl, ?het4⟩) hH0 ?ret4
    case het4 => (intro w hSw; obtain ⟨_, s1, s2, s3⟩ := hSw; go_simp; (try with_reducible rfl))
    case ret4 =>
    try simp only [Act.put, List.setIfInBounds_toArray, List.set_cons_zero, List.set_cons_succ]
    refine takeH 5 287 (v := ?vet5) rfl rfl (by kernel_rfl) (by kernel_rfl) (by kernel_rfl) (fun _ _ _ h => h) (Or.inl ⟨by rfl, ?het5⟩) hH0 ?ret5
    case het5 => (intro w hSw; clear hSw; go_simp; (try with_reducible rfl))
    case ret5 =>
    try simp only [Act.put, List.setIfInBounds_toArray, List.set_cons_zero, List.set_cons_succ]
    refine takeH 6 288 (v := ?vet6) rfl rfl (by kernel_rfl) (by kernel_rfl) (by kernel_rfl) (fun _ _ _ h => h) (Or.inl ⟨by rfl, ?het6⟩) hH0 ?ret6
    case het6 => (intro w hSw; clear hSw; go_simp; (try with_reducible rfl))
    case ret6 =>
    try simp only [Act.put, List.setIfInBounds_toArray, List.set_cons_zero, List.set_cons_succ]
    refine takeH 7 289 (v := undef) rfl rfl (by kernel_rfl) (by kernel_rfl) (by kernel_rfl) (fun _ _ _ h => h) (Or.inr ⟨by rfl, rfl⟩) hH0 ?ret7
    case ret7 =>
    try simp only [Act.put, List.setIfInBounds_toArray, List.set_cons_zero, List.set_cons_succ]
    refine takeH 8 290 (v := undef) rfl rfl (by kernel_rfl) (by kernel_rfl) (by kernel_rfl) (fun _ _ _ h => h) (Or.inr ⟨by rfl, rfl⟩) hH0 ?ret8
    case ret8 =>
    try simp only [Act.put, List.setIfInBounds_toArray, List.set_cons_zero, List.set_cons_succ]
    refine takeH 9 291 (v := undef) rfl rfl (by kernel_rfl) (by kernel_rfl) (by kernel_rfl) (fun _ _ _ h => h) (Or.inr ⟨by rfl, rfl⟩) hH0 ?ret9
    case ret9 =>
    try simp only [Act.put, List.setIfInBounds_toArray, List.set_cons_zero, List.set_cons_succ]
    refine takeH 10 292 (v := undef) rfl rfl (by kernel_rfl) (by kernel_rfl) (by kernel_rfl) (fun _ _ _ h => h) (Or.inr ⟨by rfl, rfl⟩) hH0 ?ret10
    case ret10 =>
    try simp only [Act.put, List.setIfInBounds_toArray, List.set_cons_zero, List.set_cons_succ]
    refine takeH 11 293 (v := undef) rfl rfl (by kernel_rfl) (by kernel_rfl) (by kernel_rfl) (fun _ _ _ h => h) (Or.inr ⟨by rfl, rfl⟩) hH0 ?ret11
    case ret11 =>
    try simp only [Act.put, List.setIfInBounds_toArray, List.set_cons_zero, List.set_cons_succ]
    refine takeH 12 294 (v := undef) rfl rfl (by kernel_rfl) (by kernel_rfl) (by kernel_rfl) (fun _ _ _ h => h) (Or.inr ⟨by rfl, rfl⟩) hH0 ?ret12
    case ret12 =>
    try simp only [Act.put, List.setIfInBounds_toArray, List.set_cons_zero, List.set_cons_succ]
    refine takeH 13 295 (v := undef) rfl rfl (by kernel_rfl) (by kernel_rfl) (by kernel_rfl) (fun _ _ _ h => h) (Or.inr ⟨by rfl, rfl⟩) hH0 ?ret13
    case ret13 =>
    try simp only [Act.put, List.setIfInBounds_toArray, List.set_cons_zero, List.set_cons_succ]
    refine takeH 14 296 (v := undef) rfl rfl (by kernel_rfl) (by kernel_rfl) (by kernel_rfl) (fun _ _ _ h => h) (Or.inr ⟨by rfl, rfl⟩) hH0 ?ret14
    case ret14 =>
    try simp only [Act.put, List.setIfInBounds_toArray, List.set_cons_zero, List.set_cons_succ]
    refine takeH 15 297 (v := undef) rfl rfl (by kernel_rfl) (by kernel_rfl) (by kernel_rfl) (fun _ _ _ h => h) (Or.inr ⟨by rfl, rfl⟩) hH0 ?ret15
    case ret15 =>
    try simp only [Act.put, List.setIfInBounds_toArray, List.set_cons_zero, List.set_cons_succ]
    refine takeH 16 298 (v := undef) rfl rfl (by kernel_rfl) (by kernel_rfl) (by kernel_rfl) (fun _ _ _ h => h) (Or.inr ⟨by rfl, rfl⟩) hH0 ?ret16
    case ret16 =>
    try simp only [Act.put, List.setIfInBounds_toArray, List.set_cons_zero, List.set_cons_succ]
    refine takeH 17 299 (v := ?vet17) rfl rfl (by kernel_rfl) (by kernel_rfl) (by kernel_rfl) (fun _ _ _ h => h) (Or.inl ⟨by rfl, ?het17⟩) hH0 ?ret17
    case het17 => (intro w hSw; clear hSw; go_simp; (try with_reducible rfl))
    case ret17 =>
    try simp only [Act.put, List.setIfInBounds_toArray, List.set_cons_zero, List.set_cons_succ]
    refine storeH_row 253 18 (by kernel_rfl) rfl rfl rfl _ _ rfl g (tabV 12 S.cell) #[.int .i64 0, .string ⟨#[]⟩, .slice none 0 0, .int .i64 0, .slice none 0 0, .slice none 0 0, .bool false, .slice none 0 0, .string ⟨#[]⟩, .bool false, .bool false, .int .i64 0] rfl rfl (hGe.keep (show Only (fun _ => False) w5 w5.drew from (Only.refl _ w5).drew) (fun e => e)) Tryz.sizeSMStmt rfl hone ?_
    intro w9 hn9 ho9
    refine ⟨⟨hH0.1.keep ho9 hkg, cell_keep hH0.2.1 ho9 hrg, cell_keep hH0.2.2.1 ho9 hrg, cell_keep hH0.2.2.2 ho9 hrg⟩, ?_⟩
    try simp only [Act.put, List.setIfInBounds_toArray, List.set_cons_zero, List.set_cons_succ]
    have hH9 : Has w9 ks (tabV 12 S.cell) 253 ∧ w9.cell? ⟨kr, 2, none⟩ = some (.bool true) ∧ w9.cell? ⟨kr, 1, none⟩ = some (.int .i64 (i : Int)) ∧ w9.cell? ⟨kr, 0, none⟩ = some (.slice ta tn tc) := ⟨hH0.1.keep ho9 hkg, cell_keep hH0.2.1 ho9 hrg, cell_keep hH0.2.2.1 ho9 hrg, cell_keep hH0.2.2.2 ho9 hrg⟩
    refine takeH 19 3 (v := ?vet19) rfl rfl (by kernel_rfl) (by kernel_rfl) (by kernel_rfl) (fun _ _ _ h => h) (Or.inl ⟨by rfl, ?het19⟩) hH9 ?ret19
    case het19 => (intro w hSw; clear hSw; go_simp; (try with_reducible rfl))
    case ret19 =>
    try simp only [Act.put, List.setIfInBounds_toArray, List.set_cons_zero, List.set_cons_succ]
    refine wpAnyH_done (by kernel_rfl) ?_ _
    have FF := hide (unhide HF w9 ho9)
    rw [unhide HB] at FF
    clear HF HB ho9 hH9 hH0
    go_wp2_with fail
    refine bodyPost_ret (sres_mst rfl _ rfl hn9 rfl) rfl ?_
    exact unhide FF
set_option maxRecDepth 100000 in
set_option maxHeartbeats 16000000 in
theorem smparse_COMMIT (t : ByteArray) (ht : t.size ≤ 256) (hc : (toks t 0).2 = true) (hk : eatB wCOMMIT (toks t 0) = true) (w : World) : Calls Tryz.prog 180 #[.string t] w (MpP t w) := by
  have b1 : ¬ ((t.size : Int) > 256) := by omega
  have N1 := Has.new w (tabV 12 smz) 253
  have o1 : Only (fun _ => False) w (w.alloc (.cells (tabV 12 smz) 253)) := (Only.refl _ w).alloc _
  have HN := hide (And.intro N1 o1)
  rw [smz_tab] at HN
  clear N1 o1
  have C1 := hide (smtokens_any t (w.alloc (.cells #[.int .i64 0, .string ⟨#[]⟩, .slice none 0 0, .int .i64 0, .slice none 0 0, .slice none 0 0, .bool false, .slice none 0 0, .string ⟨#[]⟩, .bool false, .bool false, .int .i64 0] 253)))
  have HT := hide (And.intro ht hc)
  have HK := hide hk
  clear hk
  clear ht hc
  go_enter Tryz.func180, Tryz.ntmps180
  go_wp2_with fail
  refine (unhide C1).mono ?_
  rintro e w2 hh
  obtain ⟨tv, hx, hown, ho⟩ := TksP.short hh (unhide HT).1 (unhide HT).2
  subst hx
  obtain ⟨ta, tc, htv⟩ := ownsRow_shape hown
  have g2 : w.heap.size < w2.heap.size := Nat.lt_of_lt_of_le (unhide HN).1.lt ho.size
  have oA : Only (fun _ => False) w2 (w2.alloc (.cells (tabV 12 smz) 253)) := (Only.refl _ _).alloc _
  have oB : Only (fun _ => False) (w2.alloc (.cells (tabV 12 smz) 253)) ((w2.alloc (.cells (tabV 12 smz) 253)).alloc (.cells #[tv, .int .i64 0, .bool false] 325)) := (Only.refl _ _).alloc _
  have N2 := (Has.new w2 (tabV 12 smz) 253).keep oB (fun e => e)
  have N3 := Has.new (w2.alloc (.cells (tabV 12 smz) 253)) #[tv, .int .i64 0, .bool false] 325
  have sz : (w2.alloc (.cells (tabV 12 smz) 253)).heap.size = w2.heap.size + 1 := by simp
  rw [sz] at N3
  have H0 := hide (MQR.start (lo := w.heap.size + 1) N3 ((hown.quiet oA).quiet oB) (unhide HT).1 (unhide HT).2 N2 (by omega) (by omega))
  have HG := hide (show Has ((w2.alloc (.cells (tabV 12 smz) 253)).alloc (.cells #[tv, .int .i64 0, .bool false] 325)) w.heap.size #[.int .i64 0, .string ⟨#[]⟩, .slice none 0 0, .int .i64 0, .slice none 0 0, .slice none 0 0, .bool false, .slice none 0 0, .string ⟨#[]⟩, .bool false, .bool false, .int .i64 0] 253 ∧ Only (fun _ => False) w ((w2.alloc (.cells (tabV 12 smz) 253)).alloc (.cells #[tv, .int .i64 0, .bool false] 325)) from ⟨(((unhide HN).1.keep ho (fun e => e)).keep oA (fun e => e)).keep oB (fun e => e), (((unhide HN).2.trans ho (fun _ _ e => e)).trans oA (fun _ _ e => e)).trans oB (fun _ _ e => e)⟩)
  rw [smz_tab] at H0 HG
  rw [htv] at H0 HG ⊢
  clear N2 N3 oA oB sz hown ho hh HN C1 htv tv g2 b1
  have hta : (toks t 0).1.length ≤ 256 := Nat.le_trans (toks_len (t := t) (i := 0) (Nat.zero_le _)) (by have := (unhide HT).1; omega)
  generalize htn : (toks t 0).1.length = tn at H0 HG ⊢
  have HTn := hide (And.intro htn hta)
  clear htn hta
  go_upto_region 8 with fail
  generalize (w2.alloc (.cells #[.int .i64 0, .string ⟨#[]⟩, .slice none 0 0, .int .i64 0, .slice none 0 0, .slice none 0 0, .bool false, .slice none 0 0, .string ⟨#[]⟩, .bool false, .bool false, .int .i64 0] 253)).alloc (.cells #[.slice ta tn tc, .int .i64 0, .bool false] 325) = w3 at *
  generalize w2.heap.size + 1 = kr at *
  generalize w2.heap.size = ks at *
  obtain ⟨tv, htv⟩ : ∃ v, Value.slice ta tn tc = v := ⟨_, rfl⟩
  rw [htv] at H0
  have Htv := hide htv
  obtain ⟨g, hg⟩ : ∃ g, w.heap.size = g := ⟨_, rfl⟩
  rw [hg] at H0 HG ⊢
  have Hg := hide hg
  obtain ⟨P0, hP0⟩ : ∃ P, toks t 0 = P := ⟨_, rfl⟩
  have HPQ := hide (show parQ t = senP P0 St.z by rw [← hP0]; rfl)
  obtain ⟨tl, htl⟩ : ∃ l, (toks t 0).1 = l := ⟨_, rfl⟩
  rw [htl] at H0 HTn
  have HPl := hide (show P0.1.length ≤ 256 by rw [← hP0, htl]; have := (unhide HTn); omega)
  rw [hP0] at H0 HT HK
  have HQ3 := hide (show MqP (g + 1) kr ks tv tl P0 (Ms.of St.z) w3 w3 from ⟨unhide H0, Only.refl _ _⟩)
  clear H0 htv hg hP0 htl
  have C1 := smeat_no (unhide HQ3).1.rd (⟨#[66, 69, 71, 73, 78]⟩ : ByteArray) (.inl (by decide +kernel)) (unhide HT).2 (eat_only (unhide HK) (show wCOMMIT ≠ wBEGIN by decide))
  have C1 := hide C1
  go_wp2_with fail
  refine (unhide C1).mono ?_
  rintro e w4 ⟨rfl, hh⟩
  have HR1 := hide ((unhide HQ3).trans ((unhide HQ3).1.parP hh (fun c => c)))
  clear C1 hh HQ3
  have C1 := smeat_yes (unhide HR1).1.rd (⟨#[67, 79, 77, 77, 73, 84]⟩ : ByteArray) (.inl (by decide +kernel)) (unhide HT).2 (unhide HK)
  have C1 := hide C1
  go_wp2_with fail
  refine (unhide C1).mono ?_
  rintro e w5 ⟨rfl, hh⟩
  have HR2 := hide ((unhide HR1).trans ((unhide HR1).1.parP hh next_good))
  clear C1 hh HR1
  obtain ⟨v0, c0, f0, kl⟩ := (unhide HR2).1.at_ (i := 0) (by omega)
  have HR3 := hide ((unhide HR2).trans ((unhide HR2).1.set (i := 0) (v := .int .i64 2) (by unfold smj; omega) rfl (fun S _ hS => hS.kind_)))
  clear  HR2
  go_upto_region 94 with fail
  generalize w5.setCell ⟨ks, 0, none⟩ (.int .i64 2) = w6 at *
  clear c0 f0 kl
  have EQ := show parQ t = (nextP P0, { St.z with kind := 2 }) from (unhide HPQ).trans (sen_COMMIT (unhide HK))
  have hq := unhide HR3
  obtain ⟨i, bad, hc, hP⟩ := hq.1.rd
  obtain ⟨S, hM, hO, hLn⟩ := hq.1.sq
  have hGe := (unhide HG).1.keep hq.2 (fun (c : g + 1 ≤ g) => by omega)
  have oW := (unhide HG).2.lateS hq.2 (fun k hk => by have e' : g + 1 ≤ k := hk; have := unhide Hg; omega)
  have hB := par_bool (unhide HT).1 EQ hc hP
  have HF := hide (fun (w' : World) (h2 : Only (fun k => k = g) w6.drew w') => MpP.fin (t := t) (unhide Hg) hM hO EQ rfl oW (((Only.refl (fun k => k = g) w6).drew).trans h2 (fun _ _ h => h)))
  have S0 : Has w6 ks (tabV 12 S.cell) 253 ∧ w6.cell? ⟨kr, 2, none⟩ = some (.bool bad) ∧ w6.cell? ⟨kr, 1, none⟩ = some (.int .i64 (i : Int)) ∧ w6.cell? ⟨kr, 0, none⟩ = some (.slice ta tn tc) := ⟨hM.has, hc.has.cell 2, hc.has.cell 1, by rw [unhide Htv]; exact hc.has.cell 0⟩
  have hone := tab12_all hM.one
  have hkg : ks ≠ g := by have := hq.1.klt; omega
  have hrg : kr ≠ g := by have := hq.1.lr; omega
  rw [(unhide HTn).1] at hB
  have hi256 : (i : Int) ≤ 256 := by have := hc.le; have := (unhide HTn); omega
  have htn256 : (tn : Int) ≤ 256 := by have := (unhide HTn); omega
  clear HR3 hq hc hP hM hO hLn oW EQ HG HPQ HT HTn Htv Hg HK HPl
  cases bad with
  | false =>
    rw [Bool.not_false, Bool.true_and] at hB
    obtain ⟨eb, heb⟩ : ∃ b, decide ((i : Int) = (tn : Int)) = b := ⟨_, rfl⟩
    have heb2 : ((i : Int) == (tn : Int)) = eb := by rw [← heb]; simp [BEq.beq]
    rw [heb] at hB
    have HB := hide hB
    clear hB heb
    refine wp_region_held_drew (S := (fun w' => Has w' ks (tabV 12 S.cell) 253 ∧ w'.cell? ⟨kr, 2, none⟩ = some (.bool false) ∧ w'.cell? ⟨kr, 1, none⟩ = some (.int .i64 (i : Int)) ∧ w'.cell? ⟨kr, 0, none⟩ = some (.slice ta tn tc))) (by kernel_rfl) S0 (fun hH0 => ?_)
    refine takeH 0 282 (v := .agg (tabV 12 S.cell)) rfl rfl (by kernel_rfl) (by kernel_rfl) (by kernel_rfl) (fun _ _ _ h => h) (yieldsIf_load_mst (by rfl) _ rfl ks rfl _ rfl (fun w h => h.1)) hH0 ?ref0
    case ref0 =>
    try simp only [Act.put, List.setIfInBounds_toArray, List.set_cons_zero, List.set_cons_succ]
    refine takeH 1 283 (v := ?vef1) rfl rfl (by kernel_rfl) (by kernel_rfl) (by kernel_rfl) (fun _ _ _ h => h) (Or.inl ⟨by rfl, ?hef1⟩) hH0 ?ref1
    case hef1 => (intro w hSw; clear hSw; go_simp; (try with_reducible rfl))
    case ref1 =>
    try simp only [Act.put, List.setIfInBounds_toArray, List.set_cons_zero, List.set_cons_succ]
    refine takeH 2 284 (v := ?vef2) rfl rfl (by kernel_rfl) (by kernel_rfl) (by kernel_rfl) (fun _ _ _ h => h) (Or.inl ⟨by rfl, ?hef2⟩) hH0 ?ref2
    case hef2 => (intro w hSw; clear hSw; go_simp; (try with_reducible rfl))
    case ref2 =>
    try simp only [Act.put, List.setIfInBounds_toArray, List.set_cons_zero, List.set_cons_succ]
    refine takeH 3 285 (v := ?vef3) rfl rfl (by kernel_rfl) (by kernel_rfl) (by kernel_rfl) (fun _ _ _ h => h) (Or.inl ⟨by rfl, ?hef3⟩) hH0 ?ref3
    case hef3 => (intro w hSw; clear hSw; go_simp; (try with_reducible rfl))
    case ref3 =>
    try simp only [Act.put, List.setIfInBounds_toArray, List.set_cons_zero, List.set_cons_succ]
    refine takeH 4 286 (v := ?vef4) rfl rfl (by kernel_rfl) (by kernel_rfl) (by kernel_rfl) (fun _ _ _ h => h) (Or.inl ⟨by rfl, ?hef4⟩) hH0 ?ref4
    case hef4 => (intro w hSw; obtain ⟨_, s1, s2, s3⟩ := hSw; go_simp; (try with_reducible rfl))
    case ref4 =>
    try simp only [Act.put, List.setIfInBounds_toArray, List.set_cons_zero, List.set_cons_succ]
    refine takeH 5 287 (v := ?vef5) rfl rfl (by kernel_rfl) (by kernel_rfl) (by kernel_rfl) (fun _ _ _ h => h) (Or.inl ⟨by rfl, ?hef5⟩) hH0 ?ref5
    case hef5 => (intro w hSw; clear hSw; go_simp; (try with_reducible rfl))
    case ref5 =>
    try simp only [Act.put, List.setIfInBounds_toArray, List.set_cons_zero, List.set_cons_succ]
    refine takeH 6 288 (v := ?vef6) rfl rfl (by kernel_rfl) (by kernel_rfl) (by kernel_rfl) (fun _ _ _ h => h) (Or.inl ⟨by rfl, ?hef6⟩) hH0 ?ref6
    case hef6 => (intro w hSw; clear hSw; go_simp; (try with_reducible rfl))
    case ref6 =>
    try simp only [Act.put, List.setIfInBounds_toArray, List.set_cons_zero, List.set_cons_succ]
    refine takeH 7 289 (v := ?vef7) rfl rfl (by kernel_rfl) (by kernel_rfl) (by kernel_rfl) (fun _ _ _ h => h) (Or.inl ⟨by rfl, ?hef7⟩) hH0 ?ref7
    case hef7 => (intro w hSw; clear hSw; go_simp; (try with_reducible rfl))
    case ref7 =>
    try simp only [Act.put, List.setIfInBounds_toArray, List.set_cons_zero, List.set_cons_succ]
    refine takeH 8 290 (v := ?vef8) rfl rfl (by kernel_rfl) (by kernel_rfl) (by kernel_rfl) (fun _ _ _ h => h) (Or.inl ⟨by rfl, ?hef8⟩) hH0 ?ref8
    case hef8 => (intro w hSw; clear hSw; go_simp; (try with_reducible rfl))
    case ref8 =>
    try simp only [Act.put, List.setIfInBounds_toArray, List.set_cons_zero, List.set_cons_succ]
    refine takeH 9 291 (v := ?vef9) rfl rfl (by kernel_rfl) (by kernel_rfl) (by kernel_rfl) (fun _ _ _ h => h) (Or.inl ⟨by rfl, ?hef9⟩) hH0 ?ref9
    case hef9 => (intro w hSw; clear hSw; go_simp; (try with_reducible rfl))
    case ref9 =>
    try simp only [Act.put, List.setIfInBounds_toArray, List.set_cons_zero, List.set_cons_succ]
    refine takeH 10 292 (v := ?vef10) rfl rfl (by kernel_rfl) (by kernel_rfl) (by kernel_rfl) (fun _ _ _ h => h) (Or.inl ⟨by rfl, ?hef10⟩) hH0 ?ref10
    case hef10 => (intro w hSw; obtain ⟨_, s1, s2, s3⟩ := hSw; go_simp; (try with_reducible rfl))
    case ref10 =>
    try simp only [Act.put, List.setIfInBounds_toArray, List.set_cons_zero, List.set_cons_succ]
    refine takeH 11 293 (v := ?vef11) rfl rfl (by kernel_rfl) (by kernel_rfl) (by kernel_rfl) (fun _ _ _ h => h) (Or.inl ⟨by rfl, ?hef11⟩) hH0 ?ref11
    case hef11 => (intro w hSw; clear hSw; go_simp; (try with_reducible rfl))
    case ref11 =>
    try simp only [Act.put, List.setIfInBounds_toArray, List.set_cons_zero, List.set_cons_succ]
    refine takeH 12 294 (v := ?vef12) rfl rfl (by kernel_rfl) (by kernel_rfl) (by kernel_rfl) (fun _ _ _ h => h) (Or.inl ⟨by rfl, ?hef12⟩) hH0 ?ref12
    case hef12 => (intro w hSw; clear hSw; go_simp; (try with_reducible rfl))
    case ref12 =>
    try simp only [Act.put, List.setIfInBounds_toArray, List.set_cons_zero, List.set_cons_succ]
    refine takeH 13 295 (v := ?vef13) rfl rfl (by kernel_rfl) (by kernel_rfl) (by kernel_rfl) (fun _ _ _ h => h) (Or.inl ⟨by rfl, ?hef13⟩) hH0 ?ref13
    case hef13 => (intro w hSw; clear hSw; go_simp; (try with_reducible rfl))
    case ref13 =>
    try simp only [Act.put, List.setIfInBounds_toArray, List.set_cons_zero, List.set_cons_succ]
    refine takeH 14 296 (v := ?vef14) rfl rfl (by kernel_rfl) (by kernel_rfl) (by kernel_rfl) (fun _ _ _ h => h) (Or.inl ⟨by rfl, ?hef14⟩) hH0 ?ref14
    case hef14 => (intro w hSw; obtain ⟨_, s1, s2, s3⟩ := hSw; go_simp; (try with_reducible rfl))
    case ref14 =>
    try simp only [Act.put, List.setIfInBounds_toArray, List.set_cons_zero, List.set_cons_succ]
    refine takeH 15 297 (v := ?vef15) rfl rfl (by kernel_rfl) (by kernel_rfl) (by kernel_rfl) (fun _ _ _ h => h) (Or.inl ⟨by rfl, ?hef15⟩) hH0 ?ref15
    case hef15 => (intro w hSw; clear hSw; go_simp; (try with_reducible rfl))
    case ref15 =>
    try simp only [Act.put, List.setIfInBounds_toArray, List.set_cons_zero, List.set_cons_succ]
    refine takeH 16 298 (v := ?vef16) rfl rfl (by kernel_rfl) (by kernel_rfl) (by kernel_rfl) (fun _ _ _ h => h) (Or.inl ⟨by rfl, ?hef16⟩) hH0 ?ref16
    case hef16 => (intro w hSw; clear hSw; go_simp; (try with_reducible rfl))
    case ref16 =>
    try simp only [Act.put, List.setIfInBounds_toArray, List.set_cons_zero, List.set_cons_succ]
    refine takeH 17 299 (v := ?vef17) rfl rfl (by kernel_rfl) (by kernel_rfl) (by kernel_rfl) (fun _ _ _ h => h) (Or.inl ⟨by rfl, ?hef17⟩) hH0 ?ref17
    case hef17 => (intro w hSw; clear hSw; go_simp; (try with_reducible rfl))
    case ref17 =>
    try simp only [Act.put, List.setIfInBounds_toArray, List.set_cons_zero, List.set_cons_succ]
    refine storeH_row 253 18 (by kernel_rfl) rfl rfl rfl _ _ rfl g (tabV 12 S.cell) #[.int .i64 0, .string ⟨#[]⟩, .slice none 0 0, .int .i64 0, .slice none 0 0, .slice none 0 0, .bool false, .slice none 0 0, .string ⟨#[]⟩, .bool false, .bool false, .int .i64 0] rfl rfl (hGe.keep (show Only (fun _ => False) w6 w6.drew from (Only.refl _ w6).drew) (fun e => e)) Tryz.sizeSMStmt rfl hone ?_
    intro w9 hn9 ho9
    refine ⟨⟨hH0.1.keep ho9 hkg, cell_keep hH0.2.1 ho9 hrg, cell_keep hH0.2.2.1 ho9 hrg, cell_keep hH0.2.2.2 ho9 hrg⟩, ?_⟩
    try simp only [Act.put, List.setIfInBounds_toArray, List.set_cons_zero, List.set_cons_succ]
    have hH9 : Has w9 ks (tabV 12 S.cell) 253 ∧ w9.cell? ⟨kr, 2, none⟩ = some (.bool false) ∧ w9.cell? ⟨kr, 1, none⟩ = some (.int .i64 (i : Int)) ∧ w9.cell? ⟨kr, 0, none⟩ = some (.slice ta tn tc) := ⟨hH0.1.keep ho9 hkg, cell_keep hH0.2.1 ho9 hrg, cell_keep hH0.2.2.1 ho9 hrg, cell_keep hH0.2.2.2 ho9 hrg⟩
    refine takeH 19 3 (v := ?vef19) rfl rfl (by kernel_rfl) (by kernel_rfl) (by kernel_rfl) (fun _ _ _ h => h) (Or.inl ⟨by rfl, ?hef19⟩) hH9 ?ref19
    case hef19 => (intro w hSw; clear hSw; go_simp; (try with_reducible rfl))
    case ref19 =>
    try simp only [Act.put, List.setIfInBounds_toArray, List.set_cons_zero, List.set_cons_succ]
    refine wpAnyH_done (by kernel_rfl) ?_ _
    have FF := hide (unhide HF w9 ho9)
    rw [unhide HB] at FF
    clear HF HB ho9 hH9 hH0
    go_wp2_with fail
    refine bodyPost_ret (sres_mst rfl _ rfl hn9 rfl) rfl ?_
    exact unhide FF
  | true =>
    have HB := hide (show parB t = false from hB)
    clear hB
    refine wp_region_held_drew (S := (fun w' => Has w' ks (tabV 12 S.cell) 253 ∧ w'.cell? ⟨kr, 2, none⟩ = some (.bool true) ∧ w'.cell? ⟨kr, 1, none⟩ = some (.int .i64 (i : Int)) ∧ w'.cell? ⟨kr, 0, none⟩ = some (.slice ta tn tc))) (by kernel_rfl) S0 (fun hH0 => ?_)
    refine takeH 0 282 (v := .agg (tabV 12 S.cell)) rfl rfl (by kernel_rfl) (by kernel_rfl) (by kernel_rfl) (fun _ _ _ h => h) (yieldsIf_load_mst (by rfl) _ rfl ks rfl _ rfl (fun w h => h.1)) hH0 ?ret0
    case ret0 =>
    try simp only [Act.put, List.setIfInBounds_toArray, List.set_cons_zero, List.set_cons_succ]
    refine takeH 1 283 (v := ?vet1) rfl rfl (by kernel_rfl) (by kernel_rfl) (by kernel_rfl) (fun _ _ _ h => h) (Or.inl ⟨by rfl, ?het1⟩) hH0 ?ret1
    case het1 => (intro w hSw; clear hSw; go_simp; (try with_reducible rfl))
    case ret1 =>
    try simp only [Act.put, List.setIfInBounds_toArray, List.set_cons_zero, List.set_cons_succ]
    refine takeH 2 284 (v := ?vet2) rfl rfl (by kernel_rfl) (by kernel_rfl) (by kernel_rfl) (fun _ _ _ h => h) (Or.inl ⟨by rfl, ?het2⟩) hH0 ?ret2
    case het2 => (intro w hSw; clear hSw; go_simp; (try with_reducible rfl))
    case ret2 =>
    try simp only [Act.put, List.setIfInBounds_toArray, List.set_cons_zero, List.set_cons_succ]
    refine takeH 3 285 (v := ?vet3) rfl rfl (by kernel_rfl) (by kernel_rfl) (by kernel_rfl) (fun _ _ _ h => h) (Or.inl ⟨by rfl, ?het3⟩) hH0 ?ret3
    case het3 => (intro w hSw; clear hSw; go_simp; (try with_reducible rfl))
    case ret3 =>
    try simp only [Act.put, List.setIfInBounds_toArray, List.set_cons_zero, List.set_cons_succ]
    refine takeH 4 286 (v := ?vet4) rfl rfl (by kernel_rfl) (by kernel_rfl) (by kernel_rfl) (fun _ _ _ h => h) (Or.inl ⟨by rfl, ?het4⟩) hH0 ?ret4
    case het4 => (intro w hSw; obtain ⟨_, s1, s2, s3⟩ := hSw; go_simp; (try with_reducible rfl))
    case ret4 =>
    try simp only [Act.put, List.setIfInBounds_toArray, List.set_cons_zero, List.set_cons_succ]
    refine takeH 5 287 (v := ?vet5) rfl rfl (by kernel_rfl) (by kernel_rfl) (by kernel_rfl) (fun _ _ _ h => h) (Or.inl ⟨by rfl, ?het5⟩) hH0 ?ret5
    case het5 => (intro w hSw; clear hSw; go_simp; (try with_reducible rfl))
    case ret5 =>
    try simp only [Act.put, List.setIfInBounds_toArray, List.set_cons_zero, List.set_cons_succ]
    refine takeH 6 288 (v := ?vet6) rfl rfl (by kernel_rfl) (by kernel_rfl) (by kernel_rfl) (fun _ _ _ h => h) (Or.inl ⟨by rfl, ?het6⟩) hH0 ?ret6
    case het6 => (intro w hSw; clear hSw; go_simp; (try with_reducible rfl))
    case ret6 =>
    try simp only [Act.put, List.setIfInBounds_toArray, List.set_cons_zero, List.set_cons_succ]
    refine takeH 7 289 (v := undef) rfl rfl (by kernel_rfl) (by kernel_rfl) (by kernel_rfl) (fun _ _ _ h => h) (Or.inr ⟨by rfl, rfl⟩) hH0 ?ret7
    case ret7 =>
    try simp only [Act.put, List.setIfInBounds_toArray, List.set_cons_zero, List.set_cons_succ]
    refine takeH 8 290 (v := undef) rfl rfl (by kernel_rfl) (by kernel_rfl) (by kernel_rfl) (fun _ _ _ h => h) (Or.inr ⟨by rfl, rfl⟩) hH0 ?ret8
    case ret8 =>
    try simp only [Act.put, List.setIfInBounds_toArray, List.set_cons_zero, List.set_cons_succ]
    refine takeH 9 291 (v := undef) rfl rfl (by kernel_rfl) (by kernel_rfl) (by kernel_rfl) (fun _ _ _ h => h) (Or.inr ⟨by rfl, rfl⟩) hH0 ?ret9
    case ret9 =>
    try simp only [Act.put, List.setIfInBounds_toArray, List.set_cons_zero, List.set_cons_succ]
    refine takeH 10 292 (v := undef) rfl rfl (by kernel_rfl) (by kernel_rfl) (by kernel_rfl) (fun _ _ _ h => h) (Or.inr ⟨by rfl, rfl⟩) hH0 ?ret10
    case ret10 =>
    try simp only [Act.put, List.setIfInBounds_toArray, List.set_cons_zero, List.set_cons_succ]
    refine takeH 11 293 (v := undef) rfl rfl (by kernel_rfl) (by kernel_rfl) (by kernel_rfl) (fun _ _ _ h => h) (Or.inr ⟨by rfl, rfl⟩) hH0 ?ret11
    case ret11 =>
    try simp only [Act.put, List.setIfInBounds_toArray, List.set_cons_zero, List.set_cons_succ]
    refine takeH 12 294 (v := undef) rfl rfl (by kernel_rfl) (by kernel_rfl) (by kernel_rfl) (fun _ _ _ h => h) (Or.inr ⟨by rfl, rfl⟩) hH0 ?ret12
    case ret12 =>
    try simp only [Act.put, List.setIfInBounds_toArray, List.set_cons_zero, List.set_cons_succ]
    refine takeH 13 295 (v := undef) rfl rfl (by kernel_rfl) (by kernel_rfl) (by kernel_rfl) (fun _ _ _ h => h) (Or.inr ⟨by rfl, rfl⟩) hH0 ?ret13
    case ret13 =>
    try simp only [Act.put, List.setIfInBounds_toArray, List.set_cons_zero, List.set_cons_succ]
    refine takeH 14 296 (v := undef) rfl rfl (by kernel_rfl) (by kernel_rfl) (by kernel_rfl) (fun _ _ _ h => h) (Or.inr ⟨by rfl, rfl⟩) hH0 ?ret14
    case ret14 =>
    try simp only [Act.put, List.setIfInBounds_toArray, List.set_cons_zero, List.set_cons_succ]
    refine takeH 15 297 (v := undef) rfl rfl (by kernel_rfl) (by kernel_rfl) (by kernel_rfl) (fun _ _ _ h => h) (Or.inr ⟨by rfl, rfl⟩) hH0 ?ret15
    case ret15 =>
    try simp only [Act.put, List.setIfInBounds_toArray, List.set_cons_zero, List.set_cons_succ]
    refine takeH 16 298 (v := undef) rfl rfl (by kernel_rfl) (by kernel_rfl) (by kernel_rfl) (fun _ _ _ h => h) (Or.inr ⟨by rfl, rfl⟩) hH0 ?ret16
    case ret16 =>
    try simp only [Act.put, List.setIfInBounds_toArray, List.set_cons_zero, List.set_cons_succ]
    refine takeH 17 299 (v := ?vet17) rfl rfl (by kernel_rfl) (by kernel_rfl) (by kernel_rfl) (fun _ _ _ h => h) (Or.inl ⟨by rfl, ?het17⟩) hH0 ?ret17
    case het17 => (intro w hSw; clear hSw; go_simp; (try with_reducible rfl))
    case ret17 =>
    try simp only [Act.put, List.setIfInBounds_toArray, List.set_cons_zero, List.set_cons_succ]
    refine storeH_row 253 18 (by kernel_rfl) rfl rfl rfl _ _ rfl g (tabV 12 S.cell) #[.int .i64 0, .string ⟨#[]⟩, .slice none 0 0, .int .i64 0, .slice none 0 0, .slice none 0 0, .bool false, .slice none 0 0, .string ⟨#[]⟩, .bool false, .bool false, .int .i64 0] rfl rfl (hGe.keep (show Only (fun _ => False) w6 w6.drew from (Only.refl _ w6).drew) (fun e => e)) Tryz.sizeSMStmt rfl hone ?_
    intro w9 hn9 ho9
    refine ⟨⟨hH0.1.keep ho9 hkg, cell_keep hH0.2.1 ho9 hrg, cell_keep hH0.2.2.1 ho9 hrg, cell_keep hH0.2.2.2 ho9 hrg⟩, ?_⟩
    try simp only [Act.put, List.setIfInBounds_toArray, List.set_cons_zero, List.set_cons_succ]
    have hH9 : Has w9 ks (tabV 12 S.cell) 253 ∧ w9.cell? ⟨kr, 2, none⟩ = some (.bool true) ∧ w9.cell? ⟨kr, 1, none⟩ = some (.int .i64 (i : Int)) ∧ w9.cell? ⟨kr, 0, none⟩ = some (.slice ta tn tc) := ⟨hH0.1.keep ho9 hkg, cell_keep hH0.2.1 ho9 hrg, cell_keep hH0.2.2.1 ho9 hrg, cell_keep hH0.2.2.2 ho9 hrg⟩
    refine takeH 19 3 (v := ?vet19) rfl rfl (by kernel_rfl) (by kernel_rfl) (by kernel_rfl) (fun _ _ _ h => h) (Or.inl ⟨by rfl, ?het19⟩) hH9 ?ret19
    case het19 => (intro w hSw; clear hSw; go_simp; (try with_reducible rfl))
    case ret19 =>
    try simp only [Act.put, List.setIfInBounds_toArray, List.set_cons_zero, List.set_cons_succ]
    refine wpAnyH_done (by kernel_rfl) ?_ _
    have FF := hide (unhide HF w9 ho9)
    rw [unhide HB] at FF
    clear HF HB ho9 hH9 hH0
    go_wp2_with fail
    refine bodyPost_ret (sres_mst rfl _ rfl hn9 rfl) rfl ?_
    exact unhide FF
set_option maxRecDepth 100000 in
set_option maxHeartbeats 16000000 in
theorem smparse_ROLLBACK (t : ByteArray) (ht : t.size ≤ 256) (hc : (toks t 0).2 = true) (hk : eatB wROLLBACK (toks t 0) = true) (w : World) : Calls Tryz.prog 180 #[.string t] w (MpP t w) := by
  have b1 : ¬ ((t.size : Int) > 256) := by omega
  have N1 := Has.new w (tabV 12 smz) 253
  have o1 : Only (fun _ => False) w (w.alloc (.cells (tabV 12 smz) 253)) := (Only.refl _ w).alloc _
  have HN := hide (And.intro N1 o1)
  rw [smz_tab] at HN
  clear N1 o1
  have C1 := hide (smtokens_any t (w.alloc (.cells #[.int .i64 0, .string ⟨#[]⟩, .slice none 0 0, .int .i64 0, .slice none 0 0, .slice none 0 0, .bool false, .slice none 0 0, .string ⟨#[]⟩, .bool false, .bool false, .int .i64 0] 253)))
  have HT := hide (And.intro ht hc)
  have HK := hide hk
  clear hk
  clear ht hc
  go_enter Tryz.func180, Tryz.ntmps180
  go_wp2_with fail
  refine (unhide C1).mono ?_
  rintro e w2 hh
  obtain ⟨tv, hx, hown, ho⟩ := TksP.short hh (unhide HT).1 (unhide HT).2
  subst hx
  obtain ⟨ta, tc, htv⟩ := ownsRow_shape hown
  have g2 : w.heap.size < w2.heap.size := Nat.lt_of_lt_of_le (unhide HN).1.lt ho.size
  have oA : Only (fun _ => False) w2 (w2.alloc (.cells (tabV 12 smz) 253)) := (Only.refl _ _).alloc _
  have oB : Only (fun _ => False) (w2.alloc (.cells (tabV 12 smz) 253)) ((w2.alloc (.cells (tabV 12 smz) 253)).alloc (.cells #[tv, .int .i64 0, .bool false] 325)) := (Only.refl _ _).alloc _
  have N2 := (Has.new w2 (tabV 12 smz) 253).keep oB (fun e => e)
  have N3 := Has.new (w2.alloc (.cells (tabV 12 smz) 253)) #[tv, .int .i64 0, .bool false] 325
  have sz : (w2.alloc (.cells (tabV 12 smz) 253)).heap.size = w2.heap.size + 1 := by simp
  rw [sz] at N3
  have H0 := hide (MQR.start (lo := w.heap.size + 1) N3 ((hown.quiet oA).quiet oB) (unhide HT).1 (unhide HT).2 N2 (by omega) (by omega))
  have HG := hide (show Has ((w2.alloc (.cells (tabV 12 smz) 253)).alloc (.cells #[tv, .int .i64 0, .bool false] 325)) w.heap.size #[.int .i64 0, .string ⟨#[]⟩, .slice none 0 0, .int .i64 0, .slice none 0 0, .slice none 0 0, .bool false, .slice none 0 0, .string ⟨#[]⟩, .bool false, .bool false, .int .i64 0] 253 ∧ Only (fun _ => False) w ((w2.alloc (.cells (tabV 12 smz) 253)).alloc (.cells #[tv, .int .i64 0, .bool false] 325)) from ⟨(((unhide HN).1.keep ho (fun e => e)).keep oA (fun e => e)).keep oB (fun e => e), (((unhide HN).2.trans ho (fun _ _ e => e)).trans oA (fun _ _ e => e)).trans oB (fun _ _ e => e)⟩)
  rw [smz_tab] at H0 HG
  rw [htv] at H0 HG ⊢
  clear N2 N3 oA oB sz hown ho hh HN C1 htv tv g2 b1
  have hta : (toks t 0).1.length ≤ 256 := Nat.le_trans (toks_len (t := t) (i := 0) (Nat.zero_le _)) (by have := (unhide HT).1; omega)
  generalize htn : (toks t 0).1.length = tn at H0 HG ⊢
  have HTn := hide (And.intro htn hta)
  clear htn hta
  go_upto_region 8 with fail
  generalize (w2.alloc (.cells #[.int .i64 0, .string ⟨#[]⟩, .slice none 0 0, .int .i64 0, .slice none 0 0, .slice none 0 0, .bool false, .slice none 0 0, .string ⟨#[]⟩, .bool false, .bool false, .int .i64 0] 253)).alloc (.cells #[.slice ta tn tc, .int .i64 0, .bool false] 325) = w3 at *
  generalize w2.heap.size + 1 = kr at *
  generalize w2.heap.size = ks at *
  obtain ⟨tv, htv⟩ : ∃ v, Value.slice ta tn tc = v := ⟨_, rfl⟩
  rw [htv] at H0
  have Htv := hide htv
  obtain ⟨g, hg⟩ : ∃ g, w.heap.size = g := ⟨_, rfl⟩
  rw [hg] at H0 HG ⊢
  have Hg := hide hg
  obtain ⟨P0, hP0⟩ : ∃ P, toks t 0 = P := ⟨_, rfl⟩
  have HPQ := hide (show parQ t = senP P0 St.z by rw [← hP0]; rfl)
  obtain ⟨tl, htl⟩ : ∃ l, (toks t 0).1 = l := ⟨_, rfl⟩
  rw [htl] at H0 HTn
  have HPl := hide (show P0.1.length ≤ 256 by rw [← hP0, htl]; have := (unhide HTn); omega)
  rw [hP0] at H0 HT HK
  have HQ3 := hide (show MqP (g + 1) kr ks tv tl P0 (Ms.of St.z) w3 w3 from ⟨unhide H0, Only.refl _ _⟩)
  clear H0 htv hg hP0 htl
  have C1 := smeat_no (unhide HQ3).1.rd (⟨#[66, 69, 71, 73, 78]⟩ : ByteArray) (.inl (by decide +kernel)) (unhide HT).2 (eat_only (unhide HK) (show wROLLBACK ≠ wBEGIN by decide))
  have C1 := hide C1
  go_wp2_with fail
  refine (unhide C1).mono ?_
  rintro e w4 ⟨rfl, hh⟩
  have HR1 := hide ((unhide HQ3).trans ((unhide HQ3).1.parP hh (fun c => c)))
  clear C1 hh HQ3
  have C1 := smeat_no (unhide HR1).1.rd (⟨#[67, 79, 77, 77, 73, 84]⟩ : ByteArray) (.inl (by decide +kernel)) (unhide HT).2 (eat_only (unhide HK) (show wROLLBACK ≠ wCOMMIT by decide))
  have C1 := hide C1
  go_wp2_with fail
  refine (unhide C1).mono ?_
  rintro e w5 ⟨rfl, hh⟩
  have HR2 := hide ((unhide HR1).trans ((unhide HR1).1.parP hh (fun c => c)))
  clear C1 hh HR1
  have C1 := smeat_yes (unhide HR2).1.rd (⟨#[82, 79, 76, 76, 66, 65, 67, 75]⟩ : ByteArray) (.inl (by decide +kernel)) (unhide HT).2 (unhide HK)
  have C1 := hide C1
  go_wp2_with fail
  refine (unhide C1).mono ?_
  rintro e w6 ⟨rfl, hh⟩
  have HR3 := hide ((unhide HR2).trans ((unhide HR2).1.parP hh next_good))
  clear C1 hh HR2
  obtain ⟨v0, c0, f0, kl⟩ := (unhide HR3).1.at_ (i := 0) (by omega)
  have HR4 := hide ((unhide HR3).trans ((unhide HR3).1.set (i := 0) (v := .int .i64 3) (by unfold smj; omega) rfl (fun S _ hS => hS.kind_)))
  clear  HR3
  go_upto_region 94 with fail
  generalize w6.setCell ⟨ks, 0, none⟩ (.int .i64 3) = w7 at *
  clear c0 f0 kl
  have EQ := show parQ t = (nextP P0, { St.z with kind := 3 }) from (unhide HPQ).trans (sen_ROLLBACK (unhide HK))
  have hq := unhide HR4
  obtain ⟨i, bad, hc, hP⟩ := hq.1.rd
  obtain ⟨S, hM, hO, hLn⟩ := hq.1.sq
  have hGe := (unhide HG).1.keep hq.2 (fun (c : g + 1 ≤ g) => by omega)
  have oW := (unhide HG).2.lateS hq.2 (fun k hk => by have e' : g + 1 ≤ k := hk; have := unhide Hg; omega)
  have hB := par_bool (unhide HT).1 EQ hc hP
  have HF := hide (fun (w' : World) (h2 : Only (fun k => k = g) w7.drew w') => MpP.fin (t := t) (unhide Hg) hM hO EQ rfl oW (((Only.refl (fun k => k = g) w7).drew).trans h2 (fun _ _ h => h)))
  have S0 : Has w7 ks (tabV 12 S.cell) 253 ∧ w7.cell? ⟨kr, 2, none⟩ = some (.bool bad) ∧ w7.cell? ⟨kr, 1, none⟩ = some (.int .i64 (i : Int)) ∧ w7.cell? ⟨kr, 0, none⟩ = some (.slice ta tn tc) := ⟨hM.has, hc.has.cell 2, hc.has.cell 1, by rw [unhide Htv]; exact hc.has.cell 0⟩
  have hone := tab12_all hM.one
  have hkg : ks ≠ g := by have := hq.1.klt; omega
  have hrg : kr ≠ g := by have := hq.1.lr; omega
  rw [(unhide HTn).1] at hB
  have hi256 : (i : Int) ≤ 256 := by have := hc.le; have := (unhide HTn); omega
  have htn256 : (tn : Int) ≤ 256 := by have := (unhide HTn); omega
  clear HR4 hq hc hP hM hO hLn oW EQ HG HPQ HT HTn Htv Hg HK HPl
  cases bad with
  | false =>
    rw [Bool.not_false, Bool.true_and] at hB
    obtain ⟨eb, heb⟩ : ∃ b, decide ((i : Int) = (tn : Int)) = b := ⟨_, rfl⟩
    have heb2 : ((i : Int) == (tn : Int)) = eb := by rw [← heb]; simp [BEq.beq]
    rw [heb] at hB
    have HB := hide hB
    clear hB heb
    refine wp_region_held_drew (S := (fun w' => Has w' ks (tabV 12 S.cell) 253 ∧ w'.cell? ⟨kr, 2, none⟩ = some (.bool false) ∧ w'.cell? ⟨kr, 1, none⟩ = some (.int .i64 (i : Int)) ∧ w'.cell? ⟨kr, 0, none⟩ = some (.slice ta tn tc))) (by kernel_rfl) S0 (fun hH0 => ?_)
    refine takeH 0 282 (v := .agg (tabV 12 S.cell)) rfl rfl (by kernel_rfl) (by kernel_rfl) (by kernel_rfl) (fun _ _ _ h => h) (yieldsIf_load_mst (by rfl) _ rfl ks rfl _ rfl (fun w h => h.1)) hH0 ?ref0
    case ref0 =>
    try simp only [Act.put, List.setIfInBounds_toArray, List.set_cons_zero, List.set_cons_succ]
    refine takeH 1 283 (v := ?vef1) rfl rfl (by kernel_rfl) (by kernel_rfl) (by kernel_rfl) (fun _ _ _ h => h) (Or.inl ⟨by rfl, ?hef1⟩) hH0 ?ref1
    case hef1 => (intro w hSw; clear hSw; go_simp; (try with_reducible rfl))
    case ref1 =>
    try simp only [Act.put, List.setIfInBounds_toArray, List.set_cons_zero, List.set_cons_succ]
    refine takeH 2 284 (v := ?vef2) rfl rfl (by kernel_rfl) (by kernel_rfl) (by kernel_rfl) (fun _ _ _ h => h) (Or.inl ⟨by rfl, ?hef2⟩) hH0 ?ref2
    case hef2 => (intro w hSw; clear hSw; go_simp; (try with_reducible rfl))
    case ref2 =>
    try simp only [Act.put, List.setIfInBounds_toArray, List.set_cons_zero, List.set_cons_succ]
    refine takeH 3 285 (v := ?vef3) rfl rfl (by kernel_rfl) (by kernel_rfl) (by kernel_rfl) (fun _ _ _ h => h) (Or.inl ⟨by rfl, ?hef3⟩) hH0 ?ref3
    case hef3 => (intro w hSw; clear hSw; go_simp; (try with_reducible rfl))
    case ref3 =>
    try simp only [Act.put, List.setIfInBounds_toArray, List.set_cons_zero, List.set_cons_succ]
    refine takeH 4 286 (v := ?vef4) rfl rfl (by kernel_rfl) (by kernel_rfl) (by kernel_rfl) (fun _ _ _ h => h) (Or.inl ⟨by rfl, ?hef4⟩) hH0 ?ref4
    case hef4 => (intro w hSw; obtain ⟨_, s1, s2, s3⟩ := hSw; go_simp; (try with_reducible rfl))
    case ref4 =>
    try simp only [Act.put, List.setIfInBounds_toArray, List.set_cons_zero, List.set_cons_succ]
    refine takeH 5 287 (v := ?vef5) rfl rfl (by kernel_rfl) (by kernel_rfl) (by kernel_rfl) (fun _ _ _ h => h) (Or.inl ⟨by rfl, ?hef5⟩) hH0 ?ref5
    case hef5 => (intro w hSw; clear hSw; go_simp; (try with_reducible rfl))
    case ref5 =>
    try simp only [Act.put, List.setIfInBounds_toArray, List.set_cons_zero, List.set_cons_succ]
    refine takeH 6 288 (v := ?vef6) rfl rfl (by kernel_rfl) (by kernel_rfl) (by kernel_rfl) (fun _ _ _ h => h) (Or.inl ⟨by rfl, ?hef6⟩) hH0 ?ref6
    case hef6 => (intro w hSw; clear hSw; go_simp; (try with_reducible rfl))
    case ref6 =>
    try simp only [Act.put, List.setIfInBounds_toArray, List.set_cons_zero, List.set_cons_succ]
    refine takeH 7 289 (v := ?vef7) rfl rfl (by kernel_rfl) (by kernel_rfl) (by kernel_rfl) (fun _ _ _ h => h) (Or.inl ⟨by rfl, ?hef7⟩) hH0 ?ref7
    case hef7 => (intro w hSw; clear hSw; go_simp; (try with_reducible rfl))
    case ref7 =>
    try simp only [Act.put, List.setIfInBounds_toArray, List.set_cons_zero, List.set_cons_succ]
    refine takeH 8 290 (v := ?vef8) rfl rfl (by kernel_rfl) (by kernel_rfl) (by kernel_rfl) (fun _ _ _ h => h) (Or.inl ⟨by rfl, ?hef8⟩) hH0 ?ref8
    case hef8 => (intro w hSw; clear hSw; go_simp; (try with_reducible rfl))
    case ref8 =>
    try simp only [Act.put, List.setIfInBounds_toArray, List.set_cons_zero, List.set_cons_succ]
    refine takeH 9 291 (v := ?vef9) rfl rfl (by kernel_rfl) (by kernel_rfl) (by kernel_rfl) (fun _ _ _ h => h) (Or.inl ⟨by rfl, ?hef9⟩) hH0 ?ref9
    case hef9 => (intro w hSw; clear hSw; go_simp; (try with_reducible rfl))
    case ref9 =>
    try simp only [Act.put, List.setIfInBounds_toArray, List.set_cons_zero, List.set_cons_succ]
    refine takeH 10 292 (v := ?vef10) rfl rfl (by kernel_rfl) (by kernel_rfl) (by kernel_rfl) (fun _ _ _ h => h) (Or.inl ⟨by rfl, ?hef10⟩) hH0 ?ref10
    case hef10 => (intro w hSw; obtain ⟨_, s1, s2, s3⟩ := hSw; go_simp; (try with_reducible rfl))
    case ref10 =>
    try simp only [Act.put, List.setIfInBounds_toArray, List.set_cons_zero, List.set_cons_succ]
    refine takeH 11 293 (v := ?vef11) rfl rfl (by kernel_rfl) (by kernel_rfl) (by kernel_rfl) (fun _ _ _ h => h) (Or.inl ⟨by rfl, ?hef11⟩) hH0 ?ref11
    case hef11 => (intro w hSw; clear hSw; go_simp; (try with_reducible rfl))
    case ref11 =>
    try simp only [Act.put, List.setIfInBounds_toArray, List.set_cons_zero, List.set_cons_succ]
    refine takeH 12 294 (v := ?vef12) rfl rfl (by kernel_rfl) (by kernel_rfl) (by kernel_rfl) (fun _ _ _ h => h) (Or.inl ⟨by rfl, ?hef12⟩) hH0 ?ref12
    case hef12 => (intro w hSw; clear hSw; go_simp; (try with_reducible rfl))
    case ref12 =>
    try simp only [Act.put, List.setIfInBounds_toArray, List.set_cons_zero, List.set_cons_succ]
    refine takeH 13 295 (v := ?vef13) rfl rfl (by kernel_rfl) (by kernel_rfl) (by kernel_rfl) (fun _ _ _ h => h) (Or.inl ⟨by rfl, ?hef13⟩) hH0 ?ref13
    case hef13 => (intro w hSw; clear hSw; go_simp; (try with_reducible rfl))
    case ref13 =>
    try simp only [Act.put, List.setIfInBounds_toArray, List.set_cons_zero, List.set_cons_succ]
    refine takeH 14 296 (v := ?vef14) rfl rfl (by kernel_rfl) (by kernel_rfl) (by kernel_rfl) (fun _ _ _ h => h) (Or.inl ⟨by rfl, ?hef14⟩) hH0 ?ref14
    case hef14 => (intro w hSw; obtain ⟨_, s1, s2, s3⟩ := hSw; go_simp; (try with_reducible rfl))
    case ref14 =>
    try simp only [Act.put, List.setIfInBounds_toArray, List.set_cons_zero, List.set_cons_succ]
    refine takeH 15 297 (v := ?vef15) rfl rfl (by kernel_rfl) (by kernel_rfl) (by kernel_rfl) (fun _ _ _ h => h) (Or.inl ⟨by rfl, ?hef15⟩) hH0 ?ref15
    case hef15 => (intro w hSw; clear hSw; go_simp; (try with_reducible rfl))
    case ref15 =>
    try simp only [Act.put, List.setIfInBounds_toArray, List.set_cons_zero, List.set_cons_succ]
    refine takeH 16 298 (v := ?vef16) rfl rfl (by kernel_rfl) (by kernel_rfl) (by kernel_rfl) (fun _ _ _ h => h) (Or.inl ⟨by rfl, ?hef16⟩) hH0 ?ref16
    case hef16 => (intro w hSw; clear hSw; go_simp; (try with_reducible rfl))
    case ref16 =>
    try simp only [Act.put, List.setIfInBounds_toArray, List.set_cons_zero, List.set_cons_succ]
    refine takeH 17 299 (v := ?vef17) rfl rfl (by kernel_rfl) (by kernel_rfl) (by kernel_rfl) (fun _ _ _ h => h) (Or.inl ⟨by rfl, ?hef17⟩) hH0 ?ref17
    case hef17 => (intro w hSw; clear hSw; go_simp; (try with_reducible rfl))
    case ref17 =>
    try simp only [Act.put, List.setIfInBounds_toArray, List.set_cons_zero, List.set_cons_succ]
    refine storeH_row 253 18 (by kernel_rfl) rfl rfl rfl _ _ rfl g (tabV 12 S.cell) #[.int .i64 0, .string ⟨#[]⟩, .slice none 0 0, .int .i64 0, .slice none 0 0, .slice none 0 0, .bool false, .slice none 0 0, .string ⟨#[]⟩, .bool false, .bool false, .int .i64 0] rfl rfl (hGe.keep (show Only (fun _ => False) w7 w7.drew from (Only.refl _ w7).drew) (fun e => e)) Tryz.sizeSMStmt rfl hone ?_
    intro w9 hn9 ho9
    refine ⟨⟨hH0.1.keep ho9 hkg, cell_keep hH0.2.1 ho9 hrg, cell_keep hH0.2.2.1 ho9 hrg, cell_keep hH0.2.2.2 ho9 hrg⟩, ?_⟩
    try simp only [Act.put, List.setIfInBounds_toArray, List.set_cons_zero, List.set_cons_succ]
    have hH9 : Has w9 ks (tabV 12 S.cell) 253 ∧ w9.cell? ⟨kr, 2, none⟩ = some (.bool false) ∧ w9.cell? ⟨kr, 1, none⟩ = some (.int .i64 (i : Int)) ∧ w9.cell? ⟨kr, 0, none⟩ = some (.slice ta tn tc) := ⟨hH0.1.keep ho9 hkg, cell_keep hH0.2.1 ho9 hrg, cell_keep hH0.2.2.1 ho9 hrg, cell_keep hH0.2.2.2 ho9 hrg⟩
    refine takeH 19 3 (v := ?vef19) rfl rfl (by kernel_rfl) (by kernel_rfl) (by kernel_rfl) (fun _ _ _ h => h) (Or.inl ⟨by rfl, ?hef19⟩) hH9 ?ref19
    case hef19 => (intro w hSw; clear hSw; go_simp; (try with_reducible rfl))
    case ref19 =>
    try simp only [Act.put, List.setIfInBounds_toArray, List.set_cons_zero, List.set_cons_succ]
    refine wpAnyH_done (by kernel_rfl) ?_ _
    have FF := hide (unhide HF w9 ho9)
    rw [unhide HB] at FF
    clear HF HB ho9 hH9 hH0
    go_wp2_with fail
    refine bodyPost_ret (sres_mst rfl _ rfl hn9 rfl) rfl ?_
    exact unhide FF
  | true =>
    have HB := hide (show parB t = false from hB)
    clear hB
    refine wp_region_held_drew (S := (fun w' => Has w' ks (tabV 12 S.cell) 253 ∧ w'.cell? ⟨kr, 2, none⟩ = some (.bool true) ∧ w'.cell? ⟨kr, 1, none⟩ = some (.int .i64 (i : Int)) ∧ w'.cell? ⟨kr, 0, none⟩ = some (.slice ta tn tc))) (by kernel_rfl) S0 (fun hH0 => ?_)
    refine takeH 0 282 (v := .agg (tabV 12 S.cell)) rfl rfl (by kernel_rfl) (by kernel_rfl) (by kernel_rfl) (fun _ _ _ h => h) (yieldsIf_load_mst (by rfl) _ rfl ks rfl _ rfl (fun w h => h.1)) hH0 ?ret0
    case ret0 =>
    try simp only [Act.put, List.setIfInBounds_toArray, List.set_cons_zero, List.set_cons_succ]
    refine takeH 1 283 (v := ?vet1) rfl rfl (by kernel_rfl) (by kernel_rfl) (by kernel_rfl) (fun _ _ _ h => h) (Or.inl ⟨by rfl, ?het1⟩) hH0 ?ret1
    case het1 => (intro w hSw; clear hSw; go_simp; (try with_reducible rfl))
    case ret1 =>
    try simp only [Act.put, List.setIfInBounds_toArray, List.set_cons_zero, List.set_cons_succ]
    refine takeH 2 284 (v := ?vet2) rfl rfl (by kernel_rfl) (by kernel_rfl) (by kernel_rfl) (fun _ _ _ h => h) (Or.inl ⟨by rfl, ?het2⟩) hH0 ?ret2
    case het2 => (intro w hSw; clear hSw; go_simp; (try with_reducible rfl))
    case ret2 =>
    try simp only [Act.put, List.setIfInBounds_toArray, List.set_cons_zero, List.set_cons_succ]
    refine takeH 3 285 (v := ?vet3) rfl rfl (by kernel_rfl) (by kernel_rfl) (by kernel_rfl) (fun _ _ _ h => h) (Or.inl ⟨by rfl, ?het3⟩) hH0 ?ret3
    case het3 => (intro w hSw; clear hSw; go_simp; (try with_reducible rfl))
    case ret3 =>
    try simp only [Act.put, List.setIfInBounds_toArray, List.set_cons_zero, List.set_cons_succ]
    refine takeH 4 286 (v := ?vet4) rfl rfl (by kernel_rfl) (by kernel_rfl) (by kernel_rfl) (fun _ _ _ h => h) (Or.inl ⟨by rfl, ?het4⟩) hH0 ?ret4
    case het4 => (intro w hSw; obtain ⟨_, s1, s2, s3⟩ := hSw; go_simp; (try with_reducible rfl))
    case ret4 =>
    try simp only [Act.put, List.setIfInBounds_toArray, List.set_cons_zero, List.set_cons_succ]
    refine takeH 5 287 (v := ?vet5) rfl rfl (by kernel_rfl) (by kernel_rfl) (by kernel_rfl) (fun _ _ _ h => h) (Or.inl ⟨by rfl, ?het5⟩) hH0 ?ret5
    case het5 => (intro w hSw; clear hSw; go_simp; (try with_reducible rfl))
    case ret5 =>
    try simp only [Act.put, List.setIfInBounds_toArray, List.set_cons_zero, List.set_cons_succ]
    refine takeH 6 288 (v := ?vet6) rfl rfl (by kernel_rfl) (by kernel_rfl) (by kernel_rfl) (fun _ _ _ h => h) (Or.inl ⟨by rfl, ?het6⟩) hH0 ?ret6
    case het6 => (intro w hSw; clear hSw; go_simp; (try with_reducible rfl))
    case ret6 =>
    try simp only [Act.put, List.setIfInBounds_toArray, List.set_cons_zero, List.set_cons_succ]
    refine takeH 7 289 (v := undef) rfl rfl (by kernel_rfl) (by kernel_rfl) (by kernel_rfl) (fun _ _ _ h => h) (Or.inr ⟨by rfl, rfl⟩) hH0 ?ret7
    case ret7 =>
    try simp only [Act.put, List.setIfInBounds_toArray, List.set_cons_zero, List.set_cons_succ]
    refine takeH 8 290 (v := undef) rfl rfl (by kernel_rfl) (by kernel_rfl) (by kernel_rfl) (fun _ _ _ h => h) (Or.inr ⟨by rfl, rfl⟩) hH0 ?ret8
    case ret8 =>
    try simp only [Act.put, List.setIfInBounds_toArray, List.set_cons_zero, List.set_cons_succ]
    refine takeH 9 291 (v := undef) rfl rfl (by kernel_rfl) (by kernel_rfl) (by kernel_rfl) (fun _ _ _ h => h) (Or.inr ⟨by rfl, rfl⟩) hH0 ?ret9
    case ret9 =>
    try simp only [Act.put, List.setIfInBounds_toArray, List.set_cons_zero, List.set_cons_succ]
    refine takeH 10 292 (v := undef) rfl rfl (by kernel_rfl) (by kernel_rfl) (by kernel_rfl) (fun _ _ _ h => h) (Or.inr ⟨by rfl, rfl⟩) hH0 ?ret10
    case ret10 =>
    try simp only [Act.put, List.setIfInBounds_toArray, List.set_cons_zero, List.set_cons_succ]
    refine takeH 11 293 (v := undef) rfl rfl (by kernel_rfl) (by kernel_rfl) (by kernel_rfl) (fun _ _ _ h => h) (Or.inr ⟨by rfl, rfl⟩) hH0 ?ret11
    case ret11 =>
    try simp only [Act.put, List.setIfInBounds_toArray, List.set_cons_zero, List.set_cons_succ]
    refine takeH 12 294 (v := undef) rfl rfl (by kernel_rfl) (by kernel_rfl) (by kernel_rfl) (fun _ _ _ h => h) (Or.inr ⟨by rfl, rfl⟩) hH0 ?ret12
    case ret12 =>
    try simp only [Act.put, List.setIfInBounds_toArray, List.set_cons_zero, List.set_cons_succ]
    refine takeH 13 295 (v := undef) rfl rfl (by kernel_rfl) (by kernel_rfl) (by kernel_rfl) (fun _ _ _ h => h) (Or.inr ⟨by rfl, rfl⟩) hH0 ?ret13
    case ret13 =>
    try simp only [Act.put, List.setIfInBounds_toArray, List.set_cons_zero, List.set_cons_succ]
    refine takeH 14 296 (v := undef) rfl rfl (by kernel_rfl) (by kernel_rfl) (by kernel_rfl) (fun _ _ _ h => h) (Or.inr ⟨by rfl, rfl⟩) hH0 ?ret14
    case ret14 =>
    try simp only [Act.put, List.setIfInBounds_toArray, List.set_cons_zero, List.set_cons_succ]
    refine takeH 15 297 (v := undef) rfl rfl (by kernel_rfl) (by kernel_rfl) (by kernel_rfl) (fun _ _ _ h => h) (Or.inr ⟨by rfl, rfl⟩) hH0 ?ret15
    case ret15 =>
    try simp only [Act.put, List.setIfInBounds_toArray, List.set_cons_zero, List.set_cons_succ]
    refine takeH 16 298 (v := undef) rfl rfl (by kernel_rfl) (by kernel_rfl) (by kernel_rfl) (fun _ _ _ h => h) (Or.inr ⟨by rfl, rfl⟩) hH0 ?ret16
    case ret16 =>
    try simp only [Act.put, List.setIfInBounds_toArray, List.set_cons_zero, List.set_cons_succ]
    refine takeH 17 299 (v := ?vet17) rfl rfl (by kernel_rfl) (by kernel_rfl) (by kernel_rfl) (fun _ _ _ h => h) (Or.inl ⟨by rfl, ?het17⟩) hH0 ?ret17
    case het17 => (intro w hSw; clear hSw; go_simp; (try with_reducible rfl))
    case ret17 =>
    try simp only [Act.put, List.setIfInBounds_toArray, List.set_cons_zero, List.set_cons_succ]
    refine storeH_row 253 18 (by kernel_rfl) rfl rfl rfl _ _ rfl g (tabV 12 S.cell) #[.int .i64 0, .string ⟨#[]⟩, .slice none 0 0, .int .i64 0, .slice none 0 0, .slice none 0 0, .bool false, .slice none 0 0, .string ⟨#[]⟩, .bool false, .bool false, .int .i64 0] rfl rfl (hGe.keep (show Only (fun _ => False) w7 w7.drew from (Only.refl _ w7).drew) (fun e => e)) Tryz.sizeSMStmt rfl hone ?_
    intro w9 hn9 ho9
    refine ⟨⟨hH0.1.keep ho9 hkg, cell_keep hH0.2.1 ho9 hrg, cell_keep hH0.2.2.1 ho9 hrg, cell_keep hH0.2.2.2 ho9 hrg⟩, ?_⟩
    try simp only [Act.put, List.setIfInBounds_toArray, List.set_cons_zero, List.set_cons_succ]
    have hH9 : Has w9 ks (tabV 12 S.cell) 253 ∧ w9.cell? ⟨kr, 2, none⟩ = some (.bool true) ∧ w9.cell? ⟨kr, 1, none⟩ = some (.int .i64 (i : Int)) ∧ w9.cell? ⟨kr, 0, none⟩ = some (.slice ta tn tc) := ⟨hH0.1.keep ho9 hkg, cell_keep hH0.2.1 ho9 hrg, cell_keep hH0.2.2.1 ho9 hrg, cell_keep hH0.2.2.2 ho9 hrg⟩
    refine takeH 19 3 (v := ?vet19) rfl rfl (by kernel_rfl) (by kernel_rfl) (by kernel_rfl) (fun _ _ _ h => h) (Or.inl ⟨by rfl, ?het19⟩) hH9 ?ret19
    case het19 => (intro w hSw; clear hSw; go_simp; (try with_reducible rfl))
    case ret19 =>
    try simp only [Act.put, List.setIfInBounds_toArray, List.set_cons_zero, List.set_cons_succ]
    refine wpAnyH_done (by kernel_rfl) ?_ _
    have FF := hide (unhide HF w9 ho9)
    rw [unhide HB] at FF
    clear HF HB ho9 hH9 hH0
    go_wp2_with fail
    refine bodyPost_ret (sres_mst rfl _ rfl hn9 rfl) rfl ?_
    exact unhide FF
end Go.Proofs.Qxb6500412aGreat
