/-
  OWN WORK. QUERY's MODEL: a state behind run is sound (plain).
-/
import Derived.Test.Qxb6500412aGreatQE13
namespace Go.Proofs.Qxb6500412aGreat
open Go.RowKit Go.PlainAid
set_option linter.unusedSimpArgs false
set_option linter.unusedVariables false

theorem TbOk.ins {t : Tb} (ok : TbOk t) {row : List Vl} (hw : ∀ v ∈ row, v.wf) (h : (insR t row).2 = 0) : TbOk (insR t row).1 := by
  rw [insR_ok h]
  unfold insR at h
  split at h
  · next c => exact absurd h c
  · next c =>
    have hc : chkRow t.cols row = 0 := Decidable.byContradiction c
    cases hf : fndK t (pkK t.pk row) with
    | some r => rw [hf] at h; cases h
    | none =>
      rw [hf] at h
      simp only at h
      split at h
      · cases h
      · next c2 =>
        refine ok.put (chkRow_ok hc hw) ?_
        have hl := putBy_len_new (pkK t.pk) (r := row) (l := t.rows) (fun e he hk => by
          unfold fndK at hf
          have := List.find?_eq_none.mp hf e he
          simp [hk] at this)
        omega
section
variable {M : Mu} {s : Int} {st : St}
theorem MuOk.run (ok : MuOk M) (mq : MuQ M) (hin : M.inT s = 0) (hok : StOk st) : MuOk (runQ M s st).1 := by
  obtain ⟨hgd, h4, hact, hse⟩ := inT_good hin
  unfold runQ
  split
  · split
    · exact ok
    · next c =>
      have h0 : M.tkE s st.table 2 = 0 := Decidable.byContradiction c
      have ok1 := ok.lock h4 hact (tk0_bars hin h0) (.inr rfl)
      have hl := setL2 ok h4 st.table
      show MuOk ((M.setL s.toNat st.table 2).setV s.toNat (insD (M.see s.toNat) st.table st.lits).1)
      have same : MuOk ((M.setL s.toNat st.table 2).setV s.toNat (M.see s.toNat)) := ok1.write h4 hl (ok.gs _ h4) rfl (fun _ _ => rfl)
      unfold insD onT
      cases hf : findD (M.see s.toNat) st.table with
      | none => exact same
      | some u =>
        simp only
        split
        · next c1 =>
          have hm := findD_mem hf
          refine ok1.put h4 hl (((ok.gs _ h4).tb u hm.1).ins hok.lits c1) ((insR_nm u _).trans hm.2) ?_
          show findD (M.see s.toNat) st.table ≠ none
          rw [hf]; simp
        · exact same
  · cases hf : findD M.com st.table with
    | none => exact ok
    | some t =>
      simp only
      split
      · exact ok
      · next cz =>
        split
        · exact ok
        · next c =>
          have h0 : M.tkE s st.table 1 = 0 := Decidable.byContradiction c
          have hz : chkD t.cols (t.pk : Int) st = 0 := Decidable.byContradiction cz
          have ok1 := ok.lock h4 hact (tk0_bars hin h0) (.inl rfl)
          split
          · exact ok1
          · obtain ⟨u, hu, un, uc, up, ux⟩ := (mq.tb s.toNat st.table h4).2 t hf
            have htE : tabE (M.see s.toNat) st.table = u := by unfold tabE; rw [hu]; rfl
            rw [htE]
            have hss := chk_sets hz
            have hset : SetOk u.cols u.pk st.sets := fun c hc => by
              rw [uc, up]
              exact ⟨⟨(hok.sets c hc).2, (hss c hc).2.2.2⟩, (hss c hc).1, (hss c hc).2.1, (hss c hc).2.2.1⟩
            have hsub : (hitD u st.wh).Sublist u.rows := List.filter_sublist
            have hM := ok1.chg (hit := hitD u st.wh) (i := (hitD u st.wh).length) h4 hact hin hu hset hsub (Nat.le_refl _)
            rw [← MiQ_end rfl] at hM
            unfold chgQ at hM
            rw [chgD_congr uc.symm up.symm]
            split
            · exact ok1
            · next c1 =>
              rw [if_neg c1] at hM
              split
              · exact ok1
              · next c2 =>
                rw [if_neg c2] at hM
                exact hM
end
end Go.Proofs.Qxb6500412aGreat
