/-
  OWN WORK. QUERY, plain: what the plan asks of the layer below, and what it gets. No program in sight.
-/
import Derived.Test.Qxb6500412aGreatS31
namespace Go.Proofs.Qxb6500412aGreat
open Go.RowKit Go.PlainAid
set_option linter.unusedSimpArgs false
set_option linter.unusedVariables false

theorem wf0 : (⟨false, 0, ⟨#[]⟩⟩ : Vl).wf := .inl ⟨rfl, rfl, by unfold In64; decide⟩
theorem spF_wf {cols : List Cl} {col : Int} : ∀ (l : List Cm) (s : Qs), (s.lo.2.wf ∧ s.hi.2.wf ∧ s.eq.2.wf) → (∀ c ∈ l, c.lit.wf) → ((l.foldl (spS cols col) s).lo.2.wf ∧ (l.foldl (spS cols col) s).hi.2.wf ∧ (l.foldl (spS cols col) s).eq.2.wf)
  | [], s, h, _ => h
  | c :: l, s, h, hl => by
    refine spF_wf l _ ?_ (fun x hx => hl x (by simp [hx]))
    have hc := hl c (by simp)
    unfold spS
    split
    · refine ⟨?_, ?_, ?_⟩
      · simp only; unfold spLo; split
        · exact hc
        · exact h.1
      · simp only; unfold spHi; split
        · exact hc
        · exact h.2.1
      · simp only; unfold spE; split
        · exact hc
        · exact h.2.2
    · exact h
theorem span_wf {cols : List Cl} {col : Int} {l : List Cm} (h : ∀ c ∈ l, c.lit.wf) : (spanD cols l col).lo.2.wf ∧ (spanD cols l col).hi.2.wf ∧ (spanD cols l col).eq.2.wf := spF_wf l _ ⟨wf0, wf0, wf0⟩ h
/-- What a plan fetches. -/
def fetD (u : Tb) (p : Qp) : List (List Vl) := if p.kind = 1 then (match fndK u (cV p.lo.2) with | none => [] | some r => [r]) else scnL u p.col.toNat (bndOf p.lo.1 p.lo.2) (bndOf p.hi.1 p.hi.2)
/-- What a plan is. -/
structure PlnOk (u : Tb) (wh : List Cm) (p : Qp) : Prop where
  rg : p.kind = 1 ∨ p.kind = 2 ∨ p.kind = 3 ∨ p.kind = 4
  lw : p.lo.2.wf
  hw : p.hi.2.wf
  key : p.kind = 1 → chkKey u p.lo.2 = 0
  scn : p.kind ≠ 1 → scnE u p.col (bndOf p.lo.1 p.lo.2) (bndOf p.hi.1 p.hi.2) = 0
  hit : p.kind ≠ 3 → (fetD u p).filter (matB u.cols wh) = hitD u wh
  srt : p.kind = 3 → sortP (cmpR u.pk) ((fetD u p).filter (matB u.cols wh)) = hitD u wh
section
variable {u : Tb} {wh : List Cm}
theorem plan_ok (ok : TbOk u) (hw : WhOk u.cols wh) : PlnOk u wh (planD u.cols (u.pk : Int) (ixI u.ix) wh) := by
  have wfs : ∀ c ∈ wh, c.lit.wf := fun c hc => (hw c hc).2.1
  have s1 := span_wf (cols := u.cols) (col := (u.pk : Int)) wfs
  have s2 := span_wf (cols := u.cols) (col := ixI u.ix) wfs
  unfold planD
  by_cases h1 : (spanD u.cols wh (u.pk : Int)).eq.1 = true
  · rw [if_pos h1]
    obtain ⟨k1, k2, k3⟩ := lookup_hit ok hw h1
    exact ⟨.inl rfl, s1.2.2, s1.2.2, fun _ => k1, fun c => absurd rfl c, fun _ => k3, (fun c => by cases c)⟩
  · rw [if_neg h1]
    by_cases h2 : 0 < (spanD u.cols wh (u.pk : Int)).n
    · rw [if_pos h2]
      exact ⟨.inr (.inl rfl), s1.1, s1.2.1, (fun c => by cases c), fun _ => scnE_ok hw ok.pkn (.inl rfl), fun _ => scan_hit, (fun c => by cases c)⟩
    · rw [if_neg h2]
      by_cases h3 : 0 ≤ ixI u.ix ∧ 0 < (spanD u.cols wh (ixI u.ix)).n
      · rw [if_pos h3]
        cases hx : u.ix with
        | none => rw [hx] at h3; exact absurd h3.1 (by decide)
        | some c =>
          have e : ixI (some c) = (c : Int) := rfl
          obtain ⟨i1, i2⟩ := ok.ix c hx
          rw [hx] at s2
          rw [e] at s2 ⊢
          refine ⟨.inr (.inr (.inl rfl)), s2.1, s2.2.1, (fun c => by cases c), fun _ => scnE_ok hw i1 (.inr hx), fun c => absurd rfl c, fun _ => ?_⟩
          have := index_hit (wh := wh) ok i2
          unfold fetD
          rw [if_neg (show ¬ ((3 : Int) = 1) by decide)]
          exact this
      · rw [if_neg h3]
        refine ⟨.inr (.inr (.inr rfl)), wf0, wf0, (fun c => by cases c), fun _ => ?_, fun _ => full_hit, (fun c => by cases c)⟩
        show scnE u (u.pk : Int) none none = 0
        unfold scnE
        rw [if_neg (by have := ok.pkn; omega), if_neg (fun c => c.1 rfl)]
        rfl
theorem fet_len (ok : TbOk u) (p : Qp) : (fetD u p).length ≤ 8 := by
  unfold fetD
  split
  · split <;> simp
  · exact scnL_len ok _ _ _
theorem fet_mem {p : Qp} {r : List Vl} (h : r ∈ fetD u p) : r ∈ u.rows := by
  unfold fetD at h
  split at h
  · split at h
    · cases h
    · next hf => rw [List.mem_singleton] at h; rw [h]; exact List.mem_of_find?_eq_some hf
  · exact scn_sub h
end
/-- What the layer below answers. -/
theorem lkp_fet {D : Db} {nm : ByteArray} {u : Tb} {p : Qp} (hf : findD D nm = some u) (h1 : p.kind = 1) (hk : chkKey u p.lo.2 = 0) : (fetD u p = [] ∧ lkpD D nm p.lo.2 = ([], 9)) ∨ ∃ r, fetD u p = [r] ∧ lkpD D nm p.lo.2 = (r, 0) := by
  unfold fetD lkpD
  rw [if_pos h1, hf]
  unfold lkpR
  simp only
  rw [if_neg (fun c => c hk)]
  cases hx : fndK u (cV p.lo.2) with
  | none => exact .inl ⟨rfl, rfl⟩
  | some r => exact .inr ⟨r, rfl, rfl⟩
theorem scn_fet {D : Db} {nm : ByteArray} {u : Tb} {p : Qp} (hf : findD D nm = some u) (h1 : p.kind ≠ 1) (hk : scnE u p.col (bndOf p.lo.1 p.lo.2) (bndOf p.hi.1 p.hi.2) = 0) : scnD D nm p.col (bndOf p.lo.1 p.lo.2) (bndOf p.hi.1 p.hi.2) = (fetD u p, 0) := by
  unfold fetD scnD
  rw [if_neg h1, hf]
  simp only
  rw [if_pos hk]
end Go.Proofs.Qxb6500412aGreat
