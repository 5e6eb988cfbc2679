/-
  OWN WORK. QUERY's MODEL: parse: whole (written by tools/gen_qm20.py).
-/
import Derived.Test.Qxb6500412aGreatQM12
import Derived.Test.Qxb6500412aGreatQM13
import Derived.Test.Qxb6500412aGreatQM14
import Derived.Test.Qxb6500412aGreatQM15
import Derived.Test.Qxb6500412aGreatQM16
import Derived.Test.Qxb6500412aGreatQM18
import Derived.Test.Qxb6500412aGreatQM19
import Derived.Test.Qxb6500412aGreatQM20
namespace Go.Proofs.Qxb6500412aGreat
open Go.RowKit Go.PlainAid
set_option linter.unusedSimpArgs false
set_option linter.unusedVariables false
set_option maxRecDepth 100000 in
set_option maxHeartbeats 8000000 in
theorem smparse_uncut (t : ByteArray) (ht : t.size ≤ 256) (hc : (toks t 0).2 = false) (w : World) : Calls Tryz.prog 180 #[.string t] w (MpP t w) := by
  have b1 : ¬ ((t.size : Int) > 256) := by omega
  have N1 := Has.new w (tabV 12 smz) 253
  have o1 : Only (fun _ => False) w (w.alloc (.cells (tabV 12 smz) 253)) := (Only.refl _ w).alloc _
  have HN := hide (And.intro N1 o1)
  rw [smz_tab] at HN
  have hB : parB t = false := by
    cases h : parB t with
    | false => rfl
    | true => have := (par_toks h).2; rw [hc] at this; cases this
  have HB := hide hB
  have Hcb := hide (show cutB t = false by unfold cutB; rw [hc]; simp)
  clear N1 o1 hB
  have C1 := hide (smtokens_any t (w.alloc (.cells #[.int .i64 0, .string ⟨#[]⟩, .slice none 0 0, .int .i64 0, .slice none 0 0, .slice none 0 0, .bool false, .slice none 0 0, .string ⟨#[]⟩, .bool false, .bool false, .int .i64 0] 253)))
  go_enter Tryz.func180, Tryz.ntmps180
  go_wp2_with fail
  refine (unhide C1).mono ?_
  rintro e w2 ⟨tv, hx, _, ho⟩
  rw [unhide Hcb] at hx
  subst hx
  have oA : Only (fun _ => False) w2 (w2.alloc (.cells #[.int .i64 0, .string ⟨#[]⟩, .slice none 0 0, .int .i64 0, .slice none 0 0, .slice none 0 0, .bool false, .slice none 0 0, .string ⟨#[]⟩, .bool false, .bool false, .int .i64 0] 253)) := (Only.refl _ _).alloc _
  have hGe : Has (w2.alloc (.cells #[.int .i64 0, .string ⟨#[]⟩, .slice none 0 0, .int .i64 0, .slice none 0 0, .slice none 0 0, .bool false, .slice none 0 0, .string ⟨#[]⟩, .bool false, .bool false, .int .i64 0] 253)) w.heap.size #[.int .i64 0, .string ⟨#[]⟩, .slice none 0 0, .int .i64 0, .slice none 0 0, .slice none 0 0, .bool false, .slice none 0 0, .string ⟨#[]⟩, .bool false, .bool false, .int .i64 0] 253 := ((unhide HN).1.keep ho (fun e => e)).keep oA (fun e => e)
  have oW := ((unhide HN).2.trans ho (fun _ _ e => e)).trans oA (fun _ _ e => e)
  have hK : Has (w2.alloc (.cells #[.int .i64 0, .string ⟨#[]⟩, .slice none 0 0, .int .i64 0, .slice none 0 0, .slice none 0 0, .bool false, .slice none 0 0, .string ⟨#[]⟩, .bool false, .bool false, .int .i64 0] 253)) w2.heap.size #[.int .i64 0, .string ⟨#[]⟩, .slice none 0 0, .int .i64 0, .slice none 0 0, .slice none 0 0, .bool false, .slice none 0 0, .string ⟨#[]⟩, .bool false, .bool false, .int .i64 0] 253 := Has.new w2 #[.int .i64 0, .string ⟨#[]⟩, .slice none 0 0, .int .i64 0, .slice none 0 0, .slice none 0 0, .bool false, .slice none 0 0, .string ⟨#[]⟩, .bool false, .bool false, .int .i64 0] 253
  have lg := hGe.lt
  have lk := hK.lt
  have lne : w.heap.size < w2.heap.size := Nat.lt_of_lt_of_le (unhide HN).1.lt ho.size
  go_upto_region 6 with fail
  generalize w2.alloc (.cells #[.int .i64 0, .string ⟨#[]⟩, .slice none 0 0, .int .i64 0, .slice none 0 0, .slice none 0 0, .bool false, .slice none 0 0, .string ⟨#[]⟩, .bool false, .bool false, .int .i64 0] 253) = w3 at *
  generalize w2.heap.size = ks at *
  obtain ⟨g, hg⟩ : ∃ g, w.heap.size = g := ⟨_, rfl⟩
  have Hg := hide hg
  rw [hg] at hGe lg lne ⊢
  clear hg
  have k0c : w3.cell? ⟨ks, 0, none⟩ = some (.int .i64 0) := hK.cell 0
  have g0c : w3.cell? ⟨g, 0, none⟩ = some (.int .i64 0) := hGe.cell 0
  have g0f := hGe.free 0
  have k1c : w3.cell? ⟨ks, 1, none⟩ = some (.string ⟨#[]⟩) := hK.cell 1
  have g1c : w3.cell? ⟨g, 1, none⟩ = some (.string ⟨#[]⟩) := hGe.cell 1
  have g1f := hGe.free 1
  have k2c : w3.cell? ⟨ks, 2, none⟩ = some (.slice none 0 0) := hK.cell 2
  have g2c : w3.cell? ⟨g, 2, none⟩ = some (.slice none 0 0) := hGe.cell 2
  have g2f := hGe.free 2
  have k3c : w3.cell? ⟨ks, 3, none⟩ = some (.int .i64 0) := hK.cell 3
  have g3c : w3.cell? ⟨g, 3, none⟩ = some (.int .i64 0) := hGe.cell 3
  have g3f := hGe.free 3
  have k4c : w3.cell? ⟨ks, 4, none⟩ = some (.slice none 0 0) := hK.cell 4
  have g4c : w3.cell? ⟨g, 4, none⟩ = some (.slice none 0 0) := hGe.cell 4
  have g4f := hGe.free 4
  have k5c : w3.cell? ⟨ks, 5, none⟩ = some (.slice none 0 0) := hK.cell 5
  have g5c : w3.cell? ⟨g, 5, none⟩ = some (.slice none 0 0) := hGe.cell 5
  have g5f := hGe.free 5
  have k6c : w3.cell? ⟨ks, 6, none⟩ = some (.bool false) := hK.cell 6
  have g6c : w3.cell? ⟨g, 6, none⟩ = some (.bool false) := hGe.cell 6
  have g6f := hGe.free 6
  have k7c : w3.cell? ⟨ks, 7, none⟩ = some (.slice none 0 0) := hK.cell 7
  have g7c : w3.cell? ⟨g, 7, none⟩ = some (.slice none 0 0) := hGe.cell 7
  have g7f := hGe.free 7
  have k8c : w3.cell? ⟨ks, 8, none⟩ = some (.string ⟨#[]⟩) := hK.cell 8
  have g8c : w3.cell? ⟨g, 8, none⟩ = some (.string ⟨#[]⟩) := hGe.cell 8
  have g8f := hGe.free 8
  have k9c : w3.cell? ⟨ks, 9, none⟩ = some (.bool false) := hK.cell 9
  have g9c : w3.cell? ⟨g, 9, none⟩ = some (.bool false) := hGe.cell 9
  have g9f := hGe.free 9
  have k10c : w3.cell? ⟨ks, 10, none⟩ = some (.bool false) := hK.cell 10
  have g10c : w3.cell? ⟨g, 10, none⟩ = some (.bool false) := hGe.cell 10
  have g10f := hGe.free 10
  have k11c : w3.cell? ⟨ks, 11, none⟩ = some (.int .i64 0) := hK.cell 11
  have g11c : w3.cell? ⟨g, 11, none⟩ = some (.int .i64 0) := hGe.cell 11
  have g11f := hGe.free 11
  have H5 := has_setAll [.int .i64 0, .string ⟨#[]⟩, .slice none 0 0, .int .i64 0, .slice none 0 0, .slice none 0 0, .bool false, .slice none 0 0, .string ⟨#[]⟩, .bool false, .bool false, .int .i64 0] hGe rfl
  have O5 := only_setW g [.int .i64 0, .string ⟨#[]⟩, .slice none 0 0, .int .i64 0, .slice none 0 0, .slice none 0 0, .bool false, .slice none 0 0, .string ⟨#[]⟩, .bool false, .bool false, .int .i64 0] 0 w3
  have FF := hide (And.intro H5 (show MpP t w (.returned (.tuple #[.agg #[.int .i64 0, .string ⟨#[]⟩, .slice none 0 0, .int .i64 0, .slice none 0 0, .slice none 0 0, .bool false, .slice none 0 0, .string ⟨#[]⟩, .bool false, .bool false, .int .i64 0], .bool false])) (setW g [.int .i64 0, .string ⟨#[]⟩, .slice none 0 0, .int .i64 0, .slice none 0 0, .slice none 0 0, .bool false, .slice none 0 0, .string ⟨#[]⟩, .bool false, .bool false, .int .i64 0] 0 w3) from ⟨Sq.zm, by rw [unhide HB]; show Ending.returned (.tuple #[.agg #[.int .i64 0, .string ⟨#[]⟩, .slice none 0 0, .int .i64 0, .slice none 0 0, .slice none 0 0, .bool false, .slice none 0 0, .string ⟨#[]⟩, .bool false, .bool false, .int .i64 0], .bool false]) = .returned (.tuple #[.agg (tabV 12 smz), .bool false]); rw [smz_tab], fun c => (by rw [unhide HB] at c; cases c), smz_one, oW.lateS O5 (fun k hk => by have e' : k = g := hk; have := unhide Hg; omega)⟩))
  simp only [setW, Nat.zero_add, Nat.reduceAdd] at FF
  clear H5 O5 oW hK hGe HB Hg HN Hcb C1 ho oA
  go_wp2_with fail
  refine bodyPost_ret (sres_mst rfl _ rfl (unhide FF).1 rfl) rfl ?_
  exact (unhide FF).2
/-- parse. -/
theorem smparse_any (t : ByteArray) (w : World) : Calls Tryz.prog 180 #[.string t] w (MpP t w) := by
  by_cases ht : t.size ≤ 256
  · cases hc : (toks t 0).2 with
    | false => exact smparse_uncut t ht hc w
    | true =>
      cases hBEGIN : eatB wBEGIN (toks t 0) with
      | true => exact smparse_BEGIN t ht hc hBEGIN w
      | false =>
      cases hCOMMIT : eatB wCOMMIT (toks t 0) with
      | true => exact smparse_COMMIT t ht hc hCOMMIT w
      | false =>
      cases hROLLBACK : eatB wROLLBACK (toks t 0) with
      | true => exact smparse_ROLLBACK t ht hc hROLLBACK w
      | false =>
      cases hCREATE : eatB wCREATE (toks t 0) with
      | true =>
        cases hk2 : eatB wTABLE (nextP (toks t 0)) with
        | true => exact smparse_CT t ht hc hCREATE hk2 w
        | false => exact smparse_CI t ht hc hCREATE hk2 w
      | false =>
      cases hDROP : eatB wDROP (toks t 0) with
      | true => exact smparse_DROP t ht hc hDROP w
      | false =>
      cases hINSERT : eatB wINSERT (toks t 0) with
      | true => exact smparse_INSERT t ht hc hINSERT w
      | false =>
      cases hSELECT : eatB wSELECT (toks t 0) with
      | true => exact smparse_SELECT t ht hc hSELECT w
      | false =>
      cases hUPDATE : eatB wUPDATE (toks t 0) with
      | true => exact smparse_UPDATE t ht hc hUPDATE w
      | false =>
      cases hDELETE : eatB wDELETE (toks t 0) with
      | true => exact smparse_DELETE t ht hc hDELETE w
      | false =>
      exact smparse_none t ht hc hBEGIN hCOMMIT hROLLBACK hCREATE hDROP hINSERT hSELECT hUPDATE hDELETE w
  · exact smparse_long t ht w
end Go.Proofs.Qxb6500412aGreat
