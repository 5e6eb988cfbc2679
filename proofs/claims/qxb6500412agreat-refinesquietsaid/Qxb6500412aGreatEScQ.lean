/-
  OWN WORK. TABLE: what a scan shows, out of the trees. No program in sight.
-/
import Derived.Test.Qxb6500412aGreatEDb
namespace Go.Proofs.Qxb6500412aGreat
open Go.RowKit Go.PlainAid
set_option linter.unusedSimpArgs false
set_option linter.unusedVariables false

theorem idxR_sub {pk c : Nat} {rows : List (List Vl)} {r : List Vl} (h : r ∈ idxR pk c rows) : r ∈ rows := by
  unfold idxR at h
  have : ∀ (l a : List (List Vl)), r ∈ l.foldl (fun l r => putBy (fun r => idxK r c pk) r l) a → r ∈ a ∨ r ∈ l := by
    intro l
    induction l with
    | nil => intro a h; exact .inl h
    | cons x t ih =>
      intro a h
      rcases ih _ h with d | d
      · rcases putBy_mem _ d with e | e
        · exact .inr (by simp [e])
        · exact .inl e
      · exact .inr (by simp [d])
  rcases this rows [] h with d | d
  · simp at d
  · exact d
theorem idxR_sup {pk c : Nat} {rows : List (List Vl)} {r : List Vl} (hs : rows.Pairwise (fun a b => lt (pkK pk a) (pkK pk b) = true)) (h : r ∈ rows) : r ∈ idxR pk c rows := by
  unfold idxR
  have : ∀ (l a : List (List Vl)), (∀ x ∈ a, ∀ y ∈ l, pkK pk x ≠ pkK pk y) → l.Pairwise (fun a b => lt (pkK pk a) (pkK pk b) = true) → (r ∈ a ∨ r ∈ l) → r ∈ l.foldl (fun l r => putBy (fun r => idxK r c pk) r l) a := by
    intro l
    induction l with
    | nil => intro a _ _ h; simpa using h
    | cons x t ih =>
      intro a ha hp h
      obtain ⟨p1, p2⟩ := List.pairwise_cons.mp hp
      rw [List.foldl_cons]
      refine ih _ (fun y hy z hz => ?_) p2 ?_
      · rcases putBy_mem _ hy with e | e
        · rw [e]; exact lt_ne (p1 z hz)
        · exact ha y e z (by simp [hz])
      · rcases h with d | d
        · exact .inl (putBy_keep _ d (fun e => ha r d x (by simp) (idxK_inj e).2))
        · rcases List.mem_cons.mp d with e | e
          · rw [e]; exact .inl (putBy_in _ _ _)
          · exact .inr e
  exact this rows [] (by simp) hs (.inr h)
section
variable {t : Tb}
theorem row_col (ok : TbOk t) {r : List Vl} (hr : r ∈ t.rows) {c : Nat} {cl : Cl} (hc : t.cols[c]? = some cl) : (kyR c r).fit ∧ (kyR c r).str = cl.2 ∧ r[c]? = some (kyR c r) := by
  have hok := ok.row r hr
  have hl := hok.len
  have hlt := (List.getElem?_eq_some_iff.mp hc).1
  obtain ⟨v, hv⟩ := getE (l := r) (i := c) (by omega)
  have e : kyR c r = v := by unfold kyR; rw [hv]; rfl
  rw [e]
  refine ⟨hok.2 v (List.mem_of_getElem? hv), ?_, hv⟩
  have := congrArg (fun l => l[c]?) hok.1
  simp only [List.getElem?_map, hv, hc, Option.map_some] at this
  exact Option.some.inj this
def scnF (t : Tb) (c : Nat) (r : List Vl) : ByteArray := if c = t.pk then pkK t.pk r else idxK r c t.pk
def scnV (t : Tb) (c : Nat) (r : List Vl) : ByteArray := if c = t.pk then restP r t.pk else eB
/-- The tree that is scanned. -/
def scnT (t : Tb) (c : Nat) : List KV := if c = t.pk then rowsL t.pk t.rows else idxL t.pk c t.rows
theorem scan_hits (ok : TbOk t) {c : Nat} {cl : Cl} (hc : t.cols[c]? = some cl) {lo hi : Bnd} (h1 : BndOk lo cl.2) (h2 : BndOk hi cl.2) : spanP (scnT t c) (fromB lo) hi.isSome (fromB hi) = kvsOf (scnF t c) (scnV t c) (scnL t c lo hi) := by
  unfold scnT scnL
  by_cases e : c = t.pk
  · have ef : scnF t c = pkK t.pk := by funext r; unfold scnF; rw [if_pos e]
    have ev : scnV t c = fun r => restP r t.pk := by funext r; unfold scnV; rw [if_pos e]
    rw [if_pos e, if_pos e, ef, ev]
    exact span_rows (f := pkK t.pk) (g := fun r => restP r t.pk) (c := c) (s := cl.2) ok.srt (fun r _ k _ => by rw [e]; rfl) (fun r _ => by rw [e]; exact front8 (pkK_size _ _)) (fun a _ b _ hab => by rw [e]; exact lt_asymm hab) (fun r hr => ⟨(row_col ok hr hc).1, (row_col ok hr hc).2.1⟩) h1 h2
  · have ef : scnF t c = fun r => idxK r c t.pk := by funext r; unfold scnF; rw [if_neg e]
    have ev : scnV t c = fun _ => eB := by funext r; unfold scnV; rw [if_neg e]
    rw [if_neg e, if_neg e, ef, ev]
    refine span_rows (f := fun r => idxK r c t.pk) (g := fun _ => eB) (c := c) (s := cl.2) (idxR_srt _ _ _) (fun r _ k hk => ?_) (fun r _ => front16 (cV_size _) (cV_size _)) (fun a _ b _ hab => ?_) (fun r hr => ⟨(row_col ok (idxR_sub hr) hc).1, (row_col ok (idxR_sub hr) hc).2.1⟩) h1 h2
    · rcases hk with d | d
      · exact lt_code _ _ _ (by rw [cV_size, d])
      · rw [d, lt_nil, lt_nil]
    · have hab : lt (idxK a c t.pk) (idxK b c t.pk) = true := hab
      rw [idxK_lt] at hab
      cases q1 : lt (cV (kyR c a)) (cV (kyR c b)) with
      | true => exact lt_asymm q1
      | false =>
        rw [q1] at hab
        simp at hab
        rw [hab.1, lt_irr]
theorem scn_sub {c : Nat} {lo hi : Bnd} {r : List Vl} (h : r ∈ scnL t c lo hi) : r ∈ t.rows := by
  unfold scnL at h
  have := (List.mem_filter.mp h).1
  split at this
  · exact this
  · exact idxR_sub this
theorem scn_back (c : Nat) (r : List Vl) : backP (scnF t c r) = pkK t.pk r := by
  unfold scnF
  split
  · exact back8 (pkK_size _ _)
  · exact back16 (cV_size _) (cV_size _)
theorem scnF_size (c : Nat) (r : List Vl) : (scnF t c r).size ≤ 16 := by
  unfold scnF
  split
  · rw [pkK_size]; omega
  · rw [idxK_size]; omega
theorem fnd_own (ok : TbOk t) {r : List Vl} (h : r ∈ t.rows) : fndK t (pkK t.pk r) = some r := by
  unfold fndK
  cases hf : t.rows.find? (fun s => decide (pkK t.pk s = pkK t.pk r)) with
  | none =>
    have := List.find?_eq_none.mp hf r h
    simp at this
  | some s =>
    have h1 := List.mem_of_find?_eq_some hf
    have h2 := List.find?_some hf
    rw [by_key (pkK t.pk) ok.srt h1 h (by simpa using h2)]
theorem scnL_len (ok : TbOk t) (c : Nat) (lo hi : Bnd) : (scnL t c lo hi).length ≤ 8 := by
  unfold scnL
  refine Nat.le_trans (List.length_filter_le _ _) ?_
  split
  · exact ok.len
  · exact Nat.le_trans (idxR_len _ _ _) ok.len
end
end Go.Proofs.Qxb6500412aGreat
