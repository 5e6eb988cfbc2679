/-
  OWN WORK. QUERY's LAW, plain: the ghost of the planner; what is loud.
-/
import Derived.Test.Qxb6500412aGreatQL8
namespace Go.Proofs.Qxb6500412aGreat
open Go.RowKit Go.PlainAid
set_option linter.unusedSimpArgs false
set_option linter.unusedVariables false

section
variable {M : Mu} {s last : Int} {st : St} {t : ByteArray}
theorem ckE_or (k : Ck) : ckE k = 14 ∨ ckE k = 18 ∨ ckE k = 15 ∨ ckE k = 16 ∨ ckE k = 0 := by
  unfold ckE
  split
  · exact .inl rfl
  · split
    · exact .inr (.inl rfl)
    · split
      · exact .inr (.inr (.inl rfl))
      · split
        · exact .inr (.inr (.inr (.inl rfl)))
        · exact .inr (.inr (.inr (.inr rfl)))
/-- A statement that went for the rows. -/
theorem runQ_e (q : MuQ M) (hin : M.inT s = 0) (hk : st.kind = 8 ∨ st.kind = 9 ∨ st.kind = 10) : ((runQ M s st).2.e = 0 ∨ (runQ M s st).2.e = 21) ↔ ∃ u, findD M.com st.table = some u ∧ chkD u.cols (u.pk : Int) st = 0 := by
  unfold runQ
  rw [if_neg (show ¬ st.kind = 7 by omega)]
  cases hf : findD M.com st.table with
  | none =>
    refine ⟨fun h => ?_, fun ⟨u, h, _⟩ => by cases h⟩
    have h' : (10 : Int) = 0 ∨ (10 : Int) = 21 := h
    omega
  | some u =>
    simp only
    have hne : findD M.com st.table ≠ none := by rw [hf]; exact fun e => by cases e
    by_cases hc : chkD u.cols (u.pk : Int) st = 0
    · refine ⟨fun _ => ⟨u, rfl, hc⟩, fun _ => ?_⟩
      rw [if_neg (fun c => c hc)]
      rcases tk_or (mode := 1) hin hne with h1 | h1
      · rw [if_neg (fun c => c h1)]
        split
        · exact .inl rfl
        · split
          · exact .inl rfl
          · have hin2 : (M.setL s.toNat st.table 1).inT s = 0 := hin
            rcases tk_or (M := M.setL s.toNat st.table 1) (mode := 2) hin2 hne with h2 | h2
            · rw [if_neg (fun c => c h2)]; exact .inl rfl
            · rw [if_pos (by rw [h2]; decide), h2]; exact .inr rfl
      · rw [if_pos (by rw [h1]; decide), h1]; exact .inr rfl
    · refine ⟨fun h => ?_, fun ⟨v, h, hv⟩ => ?_⟩
      · rw [if_pos hc] at h
        have h' : chkD u.cols (u.pk : Int) st = 0 ∨ chkD u.cols (u.pk : Int) st = 21 := h
        have := ckE_or (ckD u.cols (u.pk : Int) st)
        unfold chkD at h' hc
        omega
      · cases h; exact absurd hv hc
theorem stQ_e (q : MuQ M) (hg : gdS s) (hk : st.kind = 8 ∨ st.kind = 9 ∨ st.kind = 10) : ((stQ M s st).2.e = 0 ∨ (stQ M s st).2.e = 21) ↔ ∃ u, findD M.com st.table = some u ∧ chkD u.cols (u.pk : Int) st = 0 := by
  have hs : s.toNat < 4 := by have := hg.1; have := hg.2; omega
  unfold stQ
  rw [if_neg (show ¬ st.kind = 1 by omega), if_neg (show ¬ st.kind = 2 by omega), if_neg (show ¬ st.kind = 3 by omega), if_neg (show ¬ st.kind = 4 by omega), if_neg (show ¬ st.kind = 5 by omega), if_neg (show ¬ st.kind = 6 by omega)]
  by_cases ha : M.act s.toNat = true
  · rw [if_pos ha]
    exact runQ_e q (inT_of hg ha) hk
  · rw [if_neg ha]
    have h := runQ_e (begin_q q hs (by simpa using ha)) (begin_inT hg) hk
    split
    · exact h
    · exact h
theorem plnQ_eq (q : MuQ M) : (if ((exQ M s t).2.e = 0 ∨ (exQ M s t).2.e = 21) ∧ (rdK t = 8 ∨ rdK t = 9 ∨ rdK t = 10) then plI (scqD M.com (rdT t)).cols (scqD M.com (rdT t)).pk (scqD M.com (rdT t)).ix (rdW t) else last) = plnQ M s t last := by
  unfold plnQ
  by_cases hl : 256 < t.size
  · have e : (exQ M s t).2.e = 24 := by unfold exQ; rw [if_pos hl]; rfl
    rw [if_neg (by rw [e]; omega), if_pos (.inl hl)]
  by_cases hg : gdS s
  rotate_left
  · have e : (exQ M s t).2.e = 20 := by unfold exQ; rw [if_neg hl, if_pos hg]; rfl
    rw [if_neg (by rw [e]; omega), if_pos (.inr (.inl hg))]
  cases hp : parB t with
  | false =>
    have e : (exQ M s t).2.e = 22 := by unfold exQ; rw [if_neg hl, if_neg (fun c => c hg), if_pos hp]; rfl
    rw [if_neg (by rw [e]; omega), if_pos (.inr (.inr rfl))]
  | true =>
    rw [if_neg (show ¬ (256 < t.size ∨ ¬ gdS s ∨ true = false) from fun c => c.elim hl (fun c => c.elim (fun c => c hg) (fun c => by cases c)))]
    rw [exQ_st hl hg hp, show rdK t = (parQ t).2.kind from if_pos hp, show rdT t = (parQ t).2.table from if_pos hp, show rdW t = (parQ t).2.wh from if_pos hp]
    generalize (parQ t).2 = st
    by_cases hk : st.kind = 8 ∨ st.kind = 9 ∨ st.kind = 10
    · have h := stQ_e (st := st) q hg hk
      rw [show (if st.kind = 8 ∨ st.kind = 9 ∨ st.kind = 10 then plnR M st last else last) = plnR M st last from if_pos hk]
      unfold plnR scqD
      cases hf : findD M.com st.table with
      | none =>
        rw [hf] at h
        rw [if_neg (fun c => by obtain ⟨u, hu, _⟩ := h.mp c.1; cases hu)]
      | some u =>
        rw [hf] at h
        simp only
        by_cases hc : chkD u.cols (u.pk : Int) st = 0
        · rw [if_pos ⟨h.mpr ⟨u, rfl, hc⟩, hk⟩, if_neg (fun c => c hc)]
          exact planI_kind (by omega)
        · rw [if_neg (fun c => by obtain ⟨v, hv, hv2⟩ := h.mp c.1; cases hv; exact hc hv2), if_pos hc]
    · rw [if_neg (fun c => hk c.2), if_neg hk]
theorem plnQ_rng (q : MuQ M) (h0 : 0 ≤ last) (h4 : last ≤ 4) : 0 ≤ plnQ M s t last ∧ plnQ M s t last ≤ 4 := by
  rw [← plnQ_eq q]
  split
  · have := planI_rng (cols := (scqD M.com (rdT t)).cols) (pk := (scqD M.com (rdT t)).pk) (ix := (scqD M.com (rdT t)).ix) (l := rdW t)
    omega
  · exact ⟨h0, h4⟩
/-- A statement that may have made a durable step is loud. -/
theorem loud_eq (he : (exQ M s t).2.e = 0) (hl : ldQ M s t) : (decide (gdS s) && (exQ M s t).1.act s.toNat) = false ∧ rdK t ≠ 3 := by
  refine ⟨by rw [hl.1, Bool.and_false], ?_⟩
  unfold rdK
  split
  · exact hl.2
  · decide
theorem rdW_len : (rdW t).length ≤ 200 := by
  unfold rdW
  split
  · rename_i hp
    have hsz : t.size ≤ 256 := by
      by_cases h : t.size ≤ 256
      · exact h
      · have : parB t = false := by unfold parB; simp [h]
        rw [this] at hp; cases hp
    exact (parQ_b hsz).wh
  · simp
/-- Rows that a session sees have as many values as there are columns. -/
theorem viQ_row (q : MuQ M) {nm : ByteArray} : (viQ M s nm).1.length ≤ 8 ∧ ∀ r ∈ (viQ M s nm).1, r.length = (scqD M.com nm).cols.length := by
  unfold viQ scqD
  by_cases g : gdS s
  · rw [if_pos g]
    have hs : s.toNat < 4 := by have := g.1; have := g.2; omega
    cases hf : findD M.com nm with
    | none => exact ⟨by simp, by simp⟩
    | some u =>
      obtain ⟨v, hv, _, hc, _, _⟩ := (q.tb s.toNat nm hs).2 u hf
      have ok := (q.gs s.toNat hs).tb v (findD_mem hv).1
      simp only
      unfold tabE
      rw [hv, Option.getD_some]
      exact ⟨ok.len, fun r hr => by rw [(ok.row r hr).len, hc]⟩
  · rw [if_neg g]
    exact ⟨by simp, by simp⟩
theorem scq_len (q : MuQ M) (nm : ByteArray) : (scqD M.com nm).cols.length ≤ 3 := by
  unfold scqD
  cases hf : findD M.com nm with
  | none => simp
  | some u => exact (q.g.tb u (findD_mem hf).1).n3
end
end Go.Proofs.Qxb6500412aGreat
