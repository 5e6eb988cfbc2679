/-
  OWN WORK. QUERY: the parser: sentence (written by tools/gen_s16.py).
-/
import Derived.Test.Qxb6500412aGreatS15
namespace Go.Proofs.Qxb6500412aGreat
open Go.RowKit Go.PlainAid
set_option linter.unusedSimpArgs false
set_option linter.unusedVariables false

def wSELECT : ByteArray := ⟨#[83, 69, 76, 69, 67, 84]⟩
def wINSERT : ByteArray := ⟨#[73, 78, 83, 69, 82, 84]⟩
def wUPDATE : ByteArray := ⟨#[85, 80, 68, 65, 84, 69]⟩
def wDELETE : ByteArray := ⟨#[68, 69, 76, 69, 84, 69]⟩
def wBEGIN : ByteArray := ⟨#[66, 69, 71, 73, 78]⟩
def wCOMMIT : ByteArray := ⟨#[67, 79, 77, 77, 73, 84]⟩
def wROLLBACK : ByteArray := ⟨#[82, 79, 76, 76, 66, 65, 67, 75]⟩
def wDROP : ByteArray := ⟨#[68, 82, 79, 80]⟩
def wCREATE : ByteArray := ⟨#[67, 82, 69, 65, 84, 69]⟩
def delP (P : Ps) (st : St) : Ps × St := whereP (nameP (wantP wFROM P)) { st with kind := 10, table := nameV (wantP wFROM P) }
def drpP (P : Ps) (st : St) : Ps × St := (nameP (wantP wTABLE P), { st with kind := 5, table := nameV (wantP wTABLE P) })
/-- One statement. -/
def senP (P : Ps) (st : St) : Ps × St :=
  if eatB wSELECT P = true then selP (nextP P) st
  else if eatB wINSERT P = true then intP (nextP P) st
  else if eatB wUPDATE P = true then updP (nextP P) st
  else if eatB wDELETE P = true then delP (nextP P) st
  else if eatB wBEGIN P = true then (nextP P, { st with kind := 1 })
  else if eatB wCOMMIT P = true then (nextP P, { st with kind := 2 })
  else if eatB wROLLBACK P = true then (nextP P, { st with kind := 3 })
  else if eatB wDROP P = true then drpP (nextP P) st
  else if eatB wCREATE P = true then creP (nextP P) st
  else (failP, st)
theorem eatP_t {w0 : ByteArray} {P : Ps} (h : eatB w0 P = true) : eatP w0 P = nextP P := by unfold eatP; rw [h]; rfl
theorem eatP_f {w0 : ByteArray} {P : Ps} (h : eatB w0 P = false) : eatP w0 P = P := by unfold eatP; rw [h]; rfl
section
variable {lo : Nat} {w w' : World} {kp ks : Nat} {t : ByteArray} {P : Ps} {st st' : St} {S : Sq}
set_option maxRecDepth 100000 in
set_option maxHeartbeats 8000000 in
theorem sqsentence_any (ht : t.size ≤ 256) (h : QP lo w kp ks t P st) (hd : st.defs = []) (hl : P.1.length + 1 ≤ 1000) (hl1 : st.list = []) (hl2 : st.lits = []) (hl3 : st.sets = []) (hl4 : st.wh = []) : Calls Tryz.prog 160 #[.pointer (some ⟨kp, 0, none⟩), .pointer (some ⟨ks, 0, none⟩)] w fun e w' => e = .returned (.tuple #[]) ∧ QpP lo kp ks t (senP P st).1 (senP P st).2 w w' := by
  obtain ⟨FP, hFP⟩ : ∃ x, senP P st = x := ⟨_, rfl⟩
  rw [hFP]
  have HFP := hide hFP
  have HL := hide (And.intro hl (And.intro hd (And.intro hl1 (And.intro hl2 (And.intro hl3 hl4)))))
  have H0 := hide (show QpP lo kp ks t P st w w from ⟨h, Only.refl _ w⟩)
  clear h hd hl hl1 hl2 hl3 hl4 hFP
  go_enter Tryz.func160, Tryz.ntmps160
  have C1 := sqeat_any ht (unhide H0).1.ps wSELECT
  obtain ⟨b, hb⟩ : ∃ b, eatB wSELECT P = b := ⟨_, rfl⟩
  rw [hb] at C1
  have HC := hide (And.intro hb C1)
  clear hb C1
  cases b with
  | true =>
    have Ht := hide (unhide HC).1
    have C1 := (unhide HC).2
    rw [eatP_t (unhide Ht)] at C1
    unfold wSELECT at C1
    have C1 := hide C1
    clear HC
    go_wp2_with fail
    refine (unhide C1).mono ?_
    rintro e w1 ⟨rfl, hh⟩
    have H1 := hide ((unhide H0).trans ((unhide H0).1.parP hh))
    clear C1 hh H0
    have eFP : selP (nextP P) st = FP := by
      rw [← unhide HFP]
      unfold senP
      rw [unhide Ht]
      rfl
    have nl := nextP_len P
    have L := unhide HL
    have C2 := sqselects_any ht (unhide H1).1 (by rw [L.2.2.1]; simp only [List.length_nil]; omega) (by rw [L.2.2.2.2.2]; simp only [List.length_nil]; omega)
    rw [eFP] at C2
    have C2 := hide C2
    clear eFP nl L
    go_wp2_with fail
    refine (unhide C2).mono ?_
    rintro e w9 ⟨rfl, hh⟩
    have FF := hide ((unhide H1).trans hh)
    clear C2 hh
    go_wp2_with fail
    go_end0
    exact ⟨rfl, unhide FF⟩
  | false =>
    have Hf0 := hide (unhide HC).1
    have C1 := (unhide HC).2
    rw [eatP_f (unhide Hf0)] at C1
    unfold wSELECT at C1
    have C1 := hide C1
    clear HC
    go_wp2_with fail
    refine (unhide C1).mono ?_
    rintro e w1 ⟨rfl, hh⟩
    have H1 := hide ((unhide H0).trans ((unhide H0).1.parP hh))
    clear C1 hh H0
    have C1 := sqeat_any ht (unhide H1).1.ps wINSERT
    obtain ⟨b, hb⟩ : ∃ b, eatB wINSERT P = b := ⟨_, rfl⟩
    rw [hb] at C1
    have HC := hide (And.intro hb C1)
    clear hb C1
    cases b with
    | true =>
      have Ht := hide (unhide HC).1
      have C1 := (unhide HC).2
      rw [eatP_t (unhide Ht)] at C1
      unfold wINSERT at C1
      have C1 := hide C1
      clear HC
      go_wp2_with fail
      refine (unhide C1).mono ?_
      rintro e w2 ⟨rfl, hh⟩
      have H2 := hide ((unhide H1).trans ((unhide H1).1.parP hh))
      clear C1 hh H1
      have eFP : intP (nextP P) st = FP := by
        rw [← unhide HFP]
        unfold senP
        rw [unhide Hf0, unhide Ht]
        rfl
      have nl := nextP_len P
      have L := unhide HL
      have C2 := sqinserts_any ht (unhide H2).1 (by rw [L.2.2.2.1]; simp only [List.length_nil]; omega)
      rw [eFP] at C2
      have C2 := hide C2
      clear eFP nl L
      go_wp2_with fail
      refine (unhide C2).mono ?_
      rintro e w9 ⟨rfl, hh⟩
      have FF := hide ((unhide H2).trans hh)
      clear C2 hh
      go_wp2_with fail
      go_end0
      exact ⟨rfl, unhide FF⟩
    | false =>
      have Hf1 := hide (unhide HC).1
      have C1 := (unhide HC).2
      rw [eatP_f (unhide Hf1)] at C1
      unfold wINSERT at C1
      have C1 := hide C1
      clear HC
      go_wp2_with fail
      refine (unhide C1).mono ?_
      rintro e w2 ⟨rfl, hh⟩
      have H2 := hide ((unhide H1).trans ((unhide H1).1.parP hh))
      clear C1 hh H1
      have C1 := sqeat_any ht (unhide H2).1.ps wUPDATE
      obtain ⟨b, hb⟩ : ∃ b, eatB wUPDATE P = b := ⟨_, rfl⟩
      rw [hb] at C1
      have HC := hide (And.intro hb C1)
      clear hb C1
      cases b with
      | true =>
        have Ht := hide (unhide HC).1
        have C1 := (unhide HC).2
        rw [eatP_t (unhide Ht)] at C1
        unfold wUPDATE at C1
        have C1 := hide C1
        clear HC
        go_wp2_with fail
        refine (unhide C1).mono ?_
        rintro e w3 ⟨rfl, hh⟩
        have H3 := hide ((unhide H2).trans ((unhide H2).1.parP hh))
        clear C1 hh H2
        have eFP : updP (nextP P) st = FP := by
          rw [← unhide HFP]
          unfold senP
          rw [unhide Hf0, unhide Hf1, unhide Ht]
          rfl
        have nl := nextP_len P
        have L := unhide HL
        have C2 := squpdates_any ht (unhide H3).1 (by rw [L.2.2.2.2.1]; simp only [List.length_nil]; omega) (by rw [L.2.2.2.2.2]; simp only [List.length_nil]; omega)
        rw [eFP] at C2
        have C2 := hide C2
        clear eFP nl L
        go_wp2_with fail
        refine (unhide C2).mono ?_
        rintro e w9 ⟨rfl, hh⟩
        have FF := hide ((unhide H3).trans hh)
        clear C2 hh
        go_wp2_with fail
        go_end0
        exact ⟨rfl, unhide FF⟩
      | false =>
        have Hf2 := hide (unhide HC).1
        have C1 := (unhide HC).2
        rw [eatP_f (unhide Hf2)] at C1
        unfold wUPDATE at C1
        have C1 := hide C1
        clear HC
        go_wp2_with fail
        refine (unhide C1).mono ?_
        rintro e w3 ⟨rfl, hh⟩
        have H3 := hide ((unhide H2).trans ((unhide H2).1.parP hh))
        clear C1 hh H2
        have C1 := sqeat_any ht (unhide H3).1.ps wDELETE
        obtain ⟨b, hb⟩ : ∃ b, eatB wDELETE P = b := ⟨_, rfl⟩
        rw [hb] at C1
        have HC := hide (And.intro hb C1)
        clear hb C1
        cases b with
        | true =>
          have Ht := hide (unhide HC).1
          have C1 := (unhide HC).2
          rw [eatP_t (unhide Ht)] at C1
          unfold wDELETE at C1
          have C1 := hide C1
          clear HC
          go_wp2_with fail
          refine (unhide C1).mono ?_
          rintro e w4 ⟨rfl, hh⟩
          have H4 := hide ((unhide H3).trans ((unhide H3).1.parP hh))
          clear C1 hh H3
          have eFP : delP (nextP P) st = FP := by
            rw [← unhide HFP]
            unfold senP
            rw [unhide Hf0, unhide Hf1, unhide Hf2, unhide Ht]
            rfl
          have HE := hide eFP
          have q0 := unhide H4
          obtain ⟨v0, c0, f0, kl⟩ := q0.1.at_ (i := 0) (by omega)
          have HA := hide (q0.trans (q0.1.set (i := 0) (v := .int .i64 10) (by unfold sqj; omega) (fun S hS => hS.kind_)))
          clear eFP q0
          go_upto_region 8 with fail
          generalize w4.setCell ⟨ks, 0, none⟩ (.int .i64 10) = wa at *
          clear c0 f0 kl
          have C2 := sqwant_any ht (unhide HA).1.ps wFROM
          unfold wFROM at C2
          have C2 := hide C2
          go_wp2_with fail
          refine (unhide C2).mono ?_
          rintro e wb ⟨rfl, hh⟩
          have HB := hide (show QpP lo kp ks t (wantP wFROM (nextP P)) { st with kind := 10 } w wb from (unhide HA).trans ((unhide HA).1.parP hh))
          clear C2 hh HA
          have C2 := hide (sqname_any ht (unhide HB).1.ps)
          obtain ⟨nm0, hnm0⟩ : ∃ x, nameV (wantP wFROM (nextP P)) = x := ⟨_, rfl⟩
          rw [hnm0] at C2
          go_wp2_with fail
          refine (unhide C2).mono ?_
          rintro e wc ⟨rfl, hh⟩
          have q2 := (unhide HB).trans ((unhide HB).1.parP hh)
          obtain ⟨v1, c1, f1, kl⟩ := q2.1.at_ (i := 1) (by omega)
          have HD := hide (q2.trans (q2.1.set (i := 1) (v := .string nm0) (by unfold sqj; omega) (fun S hS => hS.table_)))
          have Hnm := hide hnm0
          clear C2 hh q2 HB hnm0
          go_upto_region 10 with fail
          generalize wc.setCell ⟨ks, 1, none⟩ (.string nm0) = wd at *
          clear c1 f1 kl
          have nl : (nameP (wantP wFROM (nextP P))).1.length ≤ P.1.length := Nat.le_trans (nameP_len _) (Nat.le_trans (wantP_len _ _) (nextP_len P))
          have L := unhide HL
          have C2 := sqwhere_any ht (unhide HD).1 (by show st.wh.length + _ ≤ 1000; rw [L.2.2.2.2.2]; simp only [List.length_nil]; omega)
          have eq : whereP (nameP (wantP wFROM (nextP P))) { st with kind := 10, table := nm0 } = FP := by
            rw [← unhide HE, ← unhide Hnm]
            rfl
          rw [eq] at C2
          have C2 := hide C2
          clear nl L eq
          go_wp2_with fail
          refine (unhide C2).mono ?_
          rintro e w9 ⟨rfl, hh⟩
          have FF := hide ((unhide HD).trans hh)
          clear C2 hh
          go_wp2_with fail
          go_end0
          exact ⟨rfl, unhide FF⟩
        | false =>
          have Hf3 := hide (unhide HC).1
          have C1 := (unhide HC).2
          rw [eatP_f (unhide Hf3)] at C1
          unfold wDELETE at C1
          have C1 := hide C1
          clear HC
          go_wp2_with fail
          refine (unhide C1).mono ?_
          rintro e w4 ⟨rfl, hh⟩
          have H4 := hide ((unhide H3).trans ((unhide H3).1.parP hh))
          clear C1 hh H3
          have C1 := sqeat_any ht (unhide H4).1.ps wBEGIN
          obtain ⟨b, hb⟩ : ∃ b, eatB wBEGIN P = b := ⟨_, rfl⟩
          rw [hb] at C1
          have HC := hide (And.intro hb C1)
          clear hb C1
          cases b with
          | true =>
            have Ht := hide (unhide HC).1
            have C1 := (unhide HC).2
            rw [eatP_t (unhide Ht)] at C1
            unfold wBEGIN at C1
            have C1 := hide C1
            clear HC
            go_wp2_with fail
            refine (unhide C1).mono ?_
            rintro e w5 ⟨rfl, hh⟩
            have H5 := hide ((unhide H4).trans ((unhide H4).1.parP hh))
            clear C1 hh H4
            have eFP : (nextP P, ({ st with kind := 1 } : St)) = FP := by
              rw [← unhide HFP]
              unfold senP
              rw [unhide Hf0, unhide Hf1, unhide Hf2, unhide Hf3, unhide Ht]
              rfl
            have q0 := unhide H5
            obtain ⟨v0, c0, f0, kl⟩ := q0.1.at_ (i := 0) (by omega)
            have FF := q0.trans (q0.1.set (i := 0) (v := .int .i64 1) (by unfold sqj; omega) (fun S hS => hS.kind_))
            have FF : QpP lo kp ks t FP.1 FP.2 w (w5.setCell ⟨ks, 0, none⟩ (.int .i64 1)) := by
              rw [← eFP]
              exact FF
            have FF := hide FF
            clear eFP q0
            go_wp2_with fail
            go_end0
            exact ⟨rfl, unhide FF⟩
          | false =>
            have Hf4 := hide (unhide HC).1
            have C1 := (unhide HC).2
            rw [eatP_f (unhide Hf4)] at C1
            unfold wBEGIN at C1
            have C1 := hide C1
            clear HC
            go_wp2_with fail
            refine (unhide C1).mono ?_
            rintro e w5 ⟨rfl, hh⟩
            have H5 := hide ((unhide H4).trans ((unhide H4).1.parP hh))
            clear C1 hh H4
            have C1 := sqeat_any ht (unhide H5).1.ps wCOMMIT
            obtain ⟨b, hb⟩ : ∃ b, eatB wCOMMIT P = b := ⟨_, rfl⟩
            rw [hb] at C1
            have HC := hide (And.intro hb C1)
            clear hb C1
            cases b with
            | true =>
              have Ht := hide (unhide HC).1
              have C1 := (unhide HC).2
              rw [eatP_t (unhide Ht)] at C1
              unfold wCOMMIT at C1
              have C1 := hide C1
              clear HC
              go_wp2_with fail
              refine (unhide C1).mono ?_
              rintro e w6 ⟨rfl, hh⟩
              have H6 := hide ((unhide H5).trans ((unhide H5).1.parP hh))
              clear C1 hh H5
              have eFP : (nextP P, ({ st with kind := 2 } : St)) = FP := by
                rw [← unhide HFP]
                unfold senP
                rw [unhide Hf0, unhide Hf1, unhide Hf2, unhide Hf3, unhide Hf4, unhide Ht]
                rfl
              have q0 := unhide H6
              obtain ⟨v0, c0, f0, kl⟩ := q0.1.at_ (i := 0) (by omega)
              have FF := q0.trans (q0.1.set (i := 0) (v := .int .i64 2) (by unfold sqj; omega) (fun S hS => hS.kind_))
              have FF : QpP lo kp ks t FP.1 FP.2 w (w6.setCell ⟨ks, 0, none⟩ (.int .i64 2)) := by
                rw [← eFP]
                exact FF
              have FF := hide FF
              clear eFP q0
              go_wp2_with fail
              go_end0
              exact ⟨rfl, unhide FF⟩
            | false =>
              have Hf5 := hide (unhide HC).1
              have C1 := (unhide HC).2
              rw [eatP_f (unhide Hf5)] at C1
              unfold wCOMMIT at C1
              have C1 := hide C1
              clear HC
              go_wp2_with fail
              refine (unhide C1).mono ?_
              rintro e w6 ⟨rfl, hh⟩
              have H6 := hide ((unhide H5).trans ((unhide H5).1.parP hh))
              clear C1 hh H5
              have C1 := sqeat_any ht (unhide H6).1.ps wROLLBACK
              obtain ⟨b, hb⟩ : ∃ b, eatB wROLLBACK P = b := ⟨_, rfl⟩
              rw [hb] at C1
              have HC := hide (And.intro hb C1)
              clear hb C1
              cases b with
              | true =>
                have Ht := hide (unhide HC).1
                have C1 := (unhide HC).2
                rw [eatP_t (unhide Ht)] at C1
                unfold wROLLBACK at C1
                have C1 := hide C1
                clear HC
                go_wp2_with fail
                refine (unhide C1).mono ?_
                rintro e w7 ⟨rfl, hh⟩
                have H7 := hide ((unhide H6).trans ((unhide H6).1.parP hh))
                clear C1 hh H6
                have eFP : (nextP P, ({ st with kind := 3 } : St)) = FP := by
                  rw [← unhide HFP]
                  unfold senP
                  rw [unhide Hf0, unhide Hf1, unhide Hf2, unhide Hf3, unhide Hf4, unhide Hf5, unhide Ht]
                  rfl
                have q0 := unhide H7
                obtain ⟨v0, c0, f0, kl⟩ := q0.1.at_ (i := 0) (by omega)
                have FF := q0.trans (q0.1.set (i := 0) (v := .int .i64 3) (by unfold sqj; omega) (fun S hS => hS.kind_))
                have FF : QpP lo kp ks t FP.1 FP.2 w (w7.setCell ⟨ks, 0, none⟩ (.int .i64 3)) := by
                  rw [← eFP]
                  exact FF
                have FF := hide FF
                clear eFP q0
                go_wp2_with fail
                go_end0
                exact ⟨rfl, unhide FF⟩
              | false =>
                have Hf6 := hide (unhide HC).1
                have C1 := (unhide HC).2
                rw [eatP_f (unhide Hf6)] at C1
                unfold wROLLBACK at C1
                have C1 := hide C1
                clear HC
                go_wp2_with fail
                refine (unhide C1).mono ?_
                rintro e w7 ⟨rfl, hh⟩
                have H7 := hide ((unhide H6).trans ((unhide H6).1.parP hh))
                clear C1 hh H6
                have C1 := sqeat_any ht (unhide H7).1.ps wDROP
                obtain ⟨b, hb⟩ : ∃ b, eatB wDROP P = b := ⟨_, rfl⟩
                rw [hb] at C1
                have HC := hide (And.intro hb C1)
                clear hb C1
                cases b with
                | true =>
                  have Ht := hide (unhide HC).1
                  have C1 := (unhide HC).2
                  rw [eatP_t (unhide Ht)] at C1
                  unfold wDROP at C1
                  have C1 := hide C1
                  clear HC
                  go_wp2_with fail
                  refine (unhide C1).mono ?_
                  rintro e w8 ⟨rfl, hh⟩
                  have H8 := hide ((unhide H7).trans ((unhide H7).1.parP hh))
                  clear C1 hh H7
                  have eFP : drpP (nextP P) st = FP := by
                    rw [← unhide HFP]
                    unfold senP
                    rw [unhide Hf0, unhide Hf1, unhide Hf2, unhide Hf3, unhide Hf4, unhide Hf5, unhide Hf6, unhide Ht]
                    rfl
                  have HE := hide eFP
                  have q0 := unhide H8
                  obtain ⟨v0, c0, f0, kl⟩ := q0.1.at_ (i := 0) (by omega)
                  have HA := hide (q0.trans (q0.1.set (i := 0) (v := .int .i64 5) (by unfold sqj; omega) (fun S hS => hS.kind_)))
                  clear eFP q0
                  go_upto_region 19 with fail
                  generalize w8.setCell ⟨ks, 0, none⟩ (.int .i64 5) = wa at *
                  clear c0 f0 kl
                  have C2 := sqwant_any ht (unhide HA).1.ps wTABLE
                  unfold wTABLE at C2
                  have C2 := hide C2
                  go_wp2_with fail
                  refine (unhide C2).mono ?_
                  rintro e wb ⟨rfl, hh⟩
                  have HB := hide (show QpP lo kp ks t (wantP wTABLE (nextP P)) { st with kind := 5 } w wb from (unhide HA).trans ((unhide HA).1.parP hh))
                  clear C2 hh HA
                  have C2 := hide (sqname_any ht (unhide HB).1.ps)
                  obtain ⟨nm0, hnm0⟩ : ∃ x, nameV (wantP wTABLE (nextP P)) = x := ⟨_, rfl⟩
                  rw [hnm0] at C2
                  go_wp2_with fail
                  refine (unhide C2).mono ?_
                  rintro e wc ⟨rfl, hh⟩
                  have q2 := (unhide HB).trans ((unhide HB).1.parP hh)
                  obtain ⟨v1, c1, f1, kl⟩ := q2.1.at_ (i := 1) (by omega)
                  have HD := hide (q2.trans (q2.1.set (i := 1) (v := .string nm0) (by unfold sqj; omega) (fun S hS => hS.table_)))
                  have Hnm := hide hnm0
                  clear C2 hh q2 HB hnm0
                  have eq : (nameP (wantP wTABLE (nextP P)), ({ st with kind := 5, table := nm0 } : St)) = FP := by
                    rw [← unhide HE, ← unhide Hnm]
                    rfl
                  have FF := unhide HD
                  have FF : QpP lo kp ks t FP.1 FP.2 w (wc.setCell ⟨ks, 1, none⟩ (.string nm0)) := by
                    rw [← eq]
                    exact FF
                  have FF := hide FF
                  clear eq
                  go_wp2_with fail
                  go_end0
                  exact ⟨rfl, unhide FF⟩
                | false =>
                  have Hf7 := hide (unhide HC).1
                  have C1 := (unhide HC).2
                  rw [eatP_f (unhide Hf7)] at C1
                  unfold wDROP at C1
                  have C1 := hide C1
                  clear HC
                  go_wp2_with fail
                  refine (unhide C1).mono ?_
                  rintro e w8 ⟨rfl, hh⟩
                  have H8 := hide ((unhide H7).trans ((unhide H7).1.parP hh))
                  clear C1 hh H7
                  have C1 := sqeat_any ht (unhide H8).1.ps wCREATE
                  obtain ⟨b, hb⟩ : ∃ b, eatB wCREATE P = b := ⟨_, rfl⟩
                  rw [hb] at C1
                  have HC := hide (And.intro hb C1)
                  clear hb C1
                  cases b with
                  | true =>
                    have Ht := hide (unhide HC).1
                    have C1 := (unhide HC).2
                    rw [eatP_t (unhide Ht)] at C1
                    unfold wCREATE at C1
                    have C1 := hide C1
                    clear HC
                    go_wp2_with fail
                    refine (unhide C1).mono ?_
                    rintro e w9 ⟨rfl, hh⟩
                    have H9 := hide ((unhide H8).trans ((unhide H8).1.parP hh))
                    clear C1 hh H8
                    have eFP : creP (nextP P) st = FP := by
                      rw [← unhide HFP]
                      unfold senP
                      rw [unhide Hf0, unhide Hf1, unhide Hf2, unhide Hf3, unhide Hf4, unhide Hf5, unhide Hf6, unhide Hf7, unhide Ht]
                      rfl
                    have nl := nextP_len P
                    have L := unhide HL
                    have C2 := sqcreates_any ht (unhide H9).1 L.2.1 (by omega) (by rw [L.2.2.1]; simp only [List.length_nil]; omega)
                    rw [eFP] at C2
                    have C2 := hide C2
                    clear eFP nl L
                    go_wp2_with fail
                    refine (unhide C2).mono ?_
                    rintro e w9 ⟨rfl, hh⟩
                    have FF := hide ((unhide H9).trans hh)
                    clear C2 hh
                    go_wp2_with fail
                    go_end0
                    exact ⟨rfl, unhide FF⟩
                  | false =>
                    have Hf8 := hide (unhide HC).1
                    have C1 := (unhide HC).2
                    rw [eatP_f (unhide Hf8)] at C1
                    unfold wCREATE at C1
                    have C1 := hide C1
                    clear HC
                    go_wp2_with fail
                    refine (unhide C1).mono ?_
                    rintro e w9 ⟨rfl, hh⟩
                    have H9 := hide ((unhide H8).trans ((unhide H8).1.parP hh))
                    clear C1 hh H8
                    have eFP : (failP, st) = FP := by
                      rw [← unhide HFP]
                      unfold senP
                      rw [unhide Hf0, unhide Hf1, unhide Hf2, unhide Hf3, unhide Hf4, unhide Hf5, unhide Hf6, unhide Hf7, unhide Hf8]
                      rfl
                    have C2 := hide (sqfail_any (unhide H9).1.ps)
                    have HE := hide eFP
                    clear eFP
                    go_wp2_with fail
                    refine (unhide C2).mono ?_
                    rintro e w10 ⟨rfl, hh⟩
                    have FF := hide (show QpP lo kp ks t FP.1 FP.2 w w10 by rw [← unhide HE]; exact (unhide H9).trans ((unhide H9).1.parP hh))
                    clear C2 hh
                    go_wp2_with fail
                    go_end0
                    exact ⟨rfl, unhide FF⟩
end
end Go.Proofs.Qxb6500412aGreat
