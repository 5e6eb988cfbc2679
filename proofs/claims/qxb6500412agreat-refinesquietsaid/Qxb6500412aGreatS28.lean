/-
  OWN WORK. QUERY, plain: the plan's rows, filtered by the whole WHERE, are the rows that match. No program in sight.
-/
import Derived.Test.Qxb6500412aGreatS26
import Derived.Test.Qxb6500412aGreatMP3
import Derived.Test.Qxb6500412aGreatERr
namespace Go.Proofs.Qxb6500412aGreat
open Go.RowKit Go.PlainAid
set_option linter.unusedSimpArgs false
set_option linter.unusedVariables false

section
variable {cols : List Cl} {pk : Int}
theorem foldS_ty : ∀ (l : List Cm) (k : Ck), (l.foldl (ckS cols pk) k).ty = (k.ty || l.any (tyB cols))
  | [], k => by simp
  | c :: l, k => by rw [List.foldl_cons, foldS_ty l]; simp [ckS, Bool.or_assoc]
theorem foldS_pk : ∀ (l : List Cm) (k : Ck), (l.foldl (ckS cols pk) k).pk = (k.pk || l.any (pkB cols pk))
  | [], k => by simp
  | c :: l, k => by rw [List.foldl_cons, foldS_pk l]; simp [ckS, Bool.or_assoc]
theorem foldS_ln : ∀ (l : List Cm) (k : Ck), (l.foldl (ckS cols pk) k).ln = (k.ln || l.any (lnB cols))
  | [], k => by simp
  | c :: l, k => by rw [List.foldl_cons, foldS_ln l]; simp [ckS, Bool.or_assoc]
theorem foldW_ty : ∀ (l : List Cm) (k : Ck), (l.foldl (ckW cols) k).ty = (k.ty || l.any (tyB cols))
  | [], k => by simp
  | c :: l, k => by rw [List.foldl_cons, foldW_ty l]; simp [ckW, Bool.or_assoc]
theorem foldW_pk : ∀ (l : List Cm) (k : Ck), (l.foldl (ckW cols) k).pk = k.pk
  | [], k => rfl
  | c :: l, k => by rw [List.foldl_cons, foldW_pk l]; rfl
theorem foldW_ln : ∀ (l : List Cm) (k : Ck), (l.foldl (ckW cols) k).ln = k.ln
  | [], k => rfl
  | c :: l, k => by rw [List.foldl_cons, foldW_ln l]; rfl
theorem foldL_o : ∀ (l : List ByteArray) (k : Ck), (l.foldl (ckL cols) k).ty = k.ty ∧ (l.foldl (ckL cols) k).pk = k.pk ∧ (l.foldl (ckL cols) k).ln = k.ln
  | [], k => ⟨rfl, rfl, rfl⟩
  | c :: l, k => by rw [List.foldl_cons]; exact foldL_o l _
theorem ckD_ty (st : St) : (ckD cols pk st).ty = (st.sets.any (tyB cols) || st.wh.any (tyB cols)) := by
  unfold ckD
  rw [foldW_ty, foldS_ty, (foldL_o _ _).1]
  rfl
theorem ckD_pk (st : St) : (ckD cols pk st).pk = st.sets.any (pkB cols pk) := by
  unfold ckD
  rw [foldW_pk, foldS_pk, (foldL_o _ _).2.1]
  rfl
theorem ckD_ln (st : St) : (ckD cols pk st).ln = st.sets.any (lnB cols) := by
  unfold ckD
  rw [foldW_ln, foldS_ln, (foldL_o _ _).2.2]
  rfl
theorem chk_flags {st : St} (h : chkD cols pk st = 0) : (ckD cols pk st).no = false ∧ (ckD cols pk st).pk = false ∧ (ckD cols pk st).ty = false ∧ (ckD cols pk st).ln = false := by
  unfold chkD ckE at h
  cases a : (ckD cols pk st).no <;> cases b : (ckD cols pk st).pk <;> cases c : (ckD cols pk st).ty <;> cases d : (ckD cols pk st).ln <;> rw [a, b, c, d] at h <;> simp at h
  exact ⟨rfl, rfl, rfl, rfl⟩
/-- check has passed: the WHERE's lits are of their columns' types. -/
theorem chk_wh {st : St} (h : chkD cols pk st = 0) : ∀ c ∈ st.wh, 0 ≤ qcol cols c.col ∧ c.lit.str = colS cols (qcol cols c.col) := by
  intro c hc
  have h0 := (chk_cols h).1 c hc
  refine ⟨h0, ?_⟩
  have h1 := (chk_flags h).2.2.1
  rw [ckD_ty, Bool.or_eq_false_iff] at h1
  have h2 := List.any_eq_false.mp h1.2 c hc
  unfold tyB noC at h2
  rw [decide_eq_false (by omega)] at h2
  simpa using h2
/-- check has passed: what is set is no key, of its column's type, and no longer than may be. -/
theorem chk_sets {st : St} (h : chkD cols pk st = 0) : ∀ c ∈ st.sets, 0 ≤ qcol cols c.col ∧ qcol cols c.col ≠ pk ∧ c.lit.str = colS cols (qcol cols c.col) ∧ c.lit.s.size ≤ 7 := by
  intro c hc
  have h0 := (chk_cols h).2.1 c hc
  obtain ⟨_, f2, f3, f4⟩ := chk_flags h
  rw [ckD_ty, Bool.or_eq_false_iff] at f3
  rw [ckD_pk] at f2
  rw [ckD_ln] at f4
  have h2 := List.any_eq_false.mp f3.1 c hc
  have h3 := List.any_eq_false.mp f2 c hc
  have h4 := List.any_eq_false.mp f4 c hc
  unfold tyB noC at h2
  unfold pkB noC at h3
  unfold lnB noC at h4
  rw [decide_eq_false (by omega)] at h2 h3 h4
  exact ⟨h0, by simpa using h3, by simpa using h2, by simpa using h4⟩
end
/-- Where a span's bounds come from. -/
def SpSrc (cols : List Cl) (col : Int) (L : List Cm) (s : Qs) : Prop :=
  (s.lo.1 = true → ∃ c ∈ L, spB cols col c = true ∧ opL c.op = false ∧ s.lo.2 = c.lit) ∧ (s.hi.1 = true → ∃ c ∈ L, spB cols col c = true ∧ opG c.op = false ∧ s.hi.2 = c.lit) ∧ (s.eq.1 = true → ∃ c ∈ L, spB cols col c = true ∧ c.op = 2 ∧ s.eq.2 = c.lit)
theorem spS_src {cols : List Cl} {col : Int} {L : List Cm} {s : Qs} {c : Cm} (h : SpSrc cols col L s) (hc : c ∈ L) : SpSrc cols col L (spS cols col s c) := by
  unfold spS
  by_cases hb : spB cols col c = true
  · rw [if_pos hb]
    refine ⟨fun h1 => ?_, fun h1 => ?_, fun h1 => ?_⟩
    · unfold spLo at h1 ⊢
      simp only at h1 ⊢
      split
      · next e => exact ⟨c, hc, hb, by simp only [Bool.and_eq_true] at e; simpa using e.1, rfl⟩
      · next e => rw [if_neg e] at h1; exact h.1 h1
    · unfold spHi at h1 ⊢
      simp only at h1 ⊢
      split
      · next e => exact ⟨c, hc, hb, by simp only [Bool.and_eq_true] at e; simpa using e.1, rfl⟩
      · next e => rw [if_neg e] at h1; exact h.2.1 h1
    · unfold spE at h1 ⊢
      simp only at h1 ⊢
      split
      · next e => exact ⟨c, hc, hb, by simp only [Bool.and_eq_true] at e; simpa using e.1, rfl⟩
      · next e => rw [if_neg e] at h1; exact h.2.2 h1
  · rw [if_neg hb]; exact h
theorem spF_src {cols : List Cl} {col : Int} {L : List Cm} : ∀ (l : List Cm) (s : Qs), SpSrc cols col L s → (∀ c ∈ l, c ∈ L) → SpSrc cols col L (l.foldl (spS cols col) s)
  | [], s, h, _ => h
  | c :: l, s, h, hl => spF_src l _ (spS_src h (hl c (by simp))) (fun x hx => hl x (by simp [hx]))
theorem span_src (cols : List Cl) (col : Int) (l : List Cm) : SpSrc cols col l (spanD cols l col) :=
  spF_src l _ ⟨(fun h => by cases h), (fun h => by cases h), (fun h => by cases h)⟩ (fun _ h => h)
theorem rAt_ky (r : List Vl) (n : Nat) : rAt r (n : Int) = kyR n r := by
  unfold rAt kyR
  rw [Int.toNat_natCast]
  simp [List.getD, vI]
section
variable {t : Tb} {wh : List Cm}
/-- The rows of a table that match. -/
def hitD (t : Tb) (wh : List Cm) : List (List Vl) := t.rows.filter (matB t.cols wh)
/-- The WHERE fits the schema. -/
def WhOk (cols : List Cl) (wh : List Cm) : Prop := ∀ c ∈ wh, okOp c.op ∧ c.lit.wf ∧ 0 ≤ qcol cols c.col ∧ c.lit.str = colS cols (qcol cols c.col)
theorem matB_at {r : List Vl} (h : matB t.cols wh r = true) {c : Cm} (hc : c ∈ wh) : holdB (vcmp (rAt r (qcol t.cols c.col)) c.lit) c.op = true := by
  unfold matB at h
  exact List.all_eq_true.mp h c hc
theorem spB_use {cols : List Cl} {col : Int} {c : Cm} (h : spB cols col c = true) : c.op ≠ 5 ∧ c.lit.s.size ≤ 7 ∧ qcol cols c.col = col := by
  unfold spB useB at h
  simp only [Bool.and_eq_true, decide_eq_true_eq] at h
  exact ⟨h.1.1, h.1.2, h.2⟩
theorem mat_in {col : Nat} {r : List Vl} (h : matB t.cols wh r = true) : inB (bndOf (spanD t.cols wh (col : Int)).lo.1 (spanD t.cols wh (col : Int)).lo.2) (bndOf (spanD t.cols wh (col : Int)).hi.1 (spanD t.cols wh (col : Int)).hi.2) (kyR col r) = true := by
  obtain ⟨h1, h2, _⟩ := span_src t.cols (col : Int) wh
  have b1 : belowB (bndOf (spanD t.cols wh (col : Int)).lo.1 (spanD t.cols wh (col : Int)).lo.2) (kyR col r) = false := by
    cases e : (spanD t.cols wh (col : Int)).lo.1 with
    | false => rfl
    | true =>
      obtain ⟨c, hc, hb, ho, he⟩ := h1 e
      have hm := matB_at h hc
      rw [(spB_use hb).2.2, rAt_ky] at hm
      show decide (vcmp (kyR col r) (spanD t.cols wh (col : Int)).lo.2 < 0) = false
      rw [he]
      refine decide_eq_false (fun hlt => ?_)
      unfold holdB at hm
      rw [ho] at hm
      rw [decide_eq_false (show ¬ vcmp (kyR col r) c.lit = 0 by omega), decide_eq_false (show ¬ vcmp (kyR col r) c.lit > 0 by omega)] at hm
      simp at hm
  have b2 : aboveB (bndOf (spanD t.cols wh (col : Int)).hi.1 (spanD t.cols wh (col : Int)).hi.2) (kyR col r) = false := by
    cases e : (spanD t.cols wh (col : Int)).hi.1 with
    | false => rfl
    | true =>
      obtain ⟨c, hc, hb, ho, he⟩ := h2 e
      have hm := matB_at h hc
      rw [(spB_use hb).2.2, rAt_ky] at hm
      show decide (vcmp (kyR col r) (spanD t.cols wh (col : Int)).hi.2 > 0) = false
      rw [he]
      refine decide_eq_false (fun hlt => ?_)
      unfold holdB at hm
      rw [ho] at hm
      rw [decide_eq_false (show ¬ vcmp (kyR col r) c.lit = 0 by omega), decide_eq_false (show ¬ vcmp (kyR col r) c.lit < 0 by omega)] at hm
      simp at hm
  unfold inB
  rw [b1, b2]
  rfl
theorem filter_in {col : Nat} (l : List (List Vl)) : ((l.filter (fun r => inB (bndOf (spanD t.cols wh (col : Int)).lo.1 (spanD t.cols wh (col : Int)).lo.2) (bndOf (spanD t.cols wh (col : Int)).hi.1 (spanD t.cols wh (col : Int)).hi.2) (kyR col r))).filter (matB t.cols wh)) = l.filter (matB t.cols wh) := by
  rw [List.filter_filter]
  congr 1
  funext r
  cases h : matB t.cols wh r with
  | false => rfl
  | true => rw [mat_in h]; rfl
theorem colS_get {cols : List Cl} {k : Nat} {cl : Cl} (h : cols[k]? = some cl) : colS cols (k : Int) = cl.2 := by
  unfold colS
  rw [Int.toNat_natCast]
  simp [List.getD, h]
theorem hit_srt (ok : TbOk t) : (hitD t wh).Pairwise (fun a b => lt (pkK t.pk a) (pkK t.pk b) = true) := ok.srt.filter _
theorem hit_mem {r : List Vl} (h : r ∈ hitD t wh) : r ∈ t.rows ∧ matB t.cols wh r = true := List.mem_filter.mp h
/-- One row by its key. -/
theorem lookup_hit (ok : TbOk t) (hw : WhOk t.cols wh) (he : (spanD t.cols wh (t.pk : Int)).eq.1 = true) : chkKey t (spanD t.cols wh (t.pk : Int)).eq.2 = 0 ∧ (spanD t.cols wh (t.pk : Int)).eq.2.wf ∧ (match fndK t (cV (spanD t.cols wh (t.pk : Int)).eq.2) with | none => [] | some r => [r]).filter (matB t.cols wh) = hitD t wh := by
  obtain ⟨c, hc, hb, ho, hl⟩ := (span_src t.cols (t.pk : Int) wh).2.2 he
  rw [hl]
  obtain ⟨_, u2, u3⟩ := spB_use hb
  obtain ⟨_, w2, w3, w4⟩ := hw c hc
  obtain ⟨cl, hcl⟩ := getE (l := t.cols) (i := t.pk) ok.pkn
  rw [u3, colS_get hcl] at w4
  have hfit : c.lit.fit := ⟨w2, u2⟩
  have hk : chkKey t c.lit = 0 := by
    unfold chkKey
    rw [hcl]
    show chkVal cl c.lit = 0
    unfold chkVal
    rw [if_pos w4, if_pos u2]
  refine ⟨hk, w2, ?_⟩
  have key : ∀ r ∈ hitD t wh, pkK t.pk r = cV c.lit := fun r hr => by
    have hm := matB_at (hit_mem hr).2 hc
    rw [u3, rAt_ky, ho] at hm
    have h0 : vcmp (kyR t.pk r) c.lit = 0 := by
      unfold holdB opL opE opG at hm
      simp at hm
      exact hm
    obtain ⟨a1, a2, _⟩ := row_col ok (hit_mem hr).1 hcl
    unfold pkK
    rw [(vcmp_zero a1 hfit (by rw [a2, w4])).mp h0]
  cases hf : fndK t (cV c.lit) with
  | none =>
    symm
    show hitD t wh = []
    rw [List.eq_nil_iff_forall_not_mem]
    intro r hr
    have h1 := List.find?_eq_none.mp hf r (hit_mem hr).1
    simp at h1
    exact h1 (key r hr)
  | some r =>
    have h1 := List.mem_of_find?_eq_some hf
    have h2 : pkK t.pk r = cV c.lit := by have := List.find?_some hf; simpa using this
    refine srt_perm_eq (g := pkK t.pk) ?_ ?_ (hit_srt ok)
    · refine (List.perm_ext_iff_of_nodup ?_ ?_).mpr (fun a => ?_)
      · exact List.Pairwise.filter _ (List.pairwise_singleton _ _)
      · have := hit_srt (wh := wh) ok
        refine this.imp (fun {a b} h e => ?_)
        rw [e, lt_irr] at h
        cases h
      · show a ∈ [r].filter _ ↔ a ∈ t.rows.filter _
        rw [List.mem_filter, List.mem_filter]
        constructor
        · rintro ⟨ha, hm⟩
          rw [List.mem_singleton] at ha
          subst ha
          exact ⟨h1, hm⟩
        · rintro ⟨ha, hm⟩
          refine ⟨?_, hm⟩
          rw [List.mem_singleton]
          exact by_key (pkK t.pk) ok.srt ha h1 (by rw [h2]; exact key a (List.mem_filter.mpr ⟨ha, hm⟩))
    · exact List.Pairwise.filter _ (List.pairwise_singleton _ _)
theorem bnd_ok {col : Nat} (hw : WhOk t.cols wh) {cl : Cl} (hcl : t.cols[col]? = some cl) : ((spanD t.cols wh (col : Int)).lo.1 = true → (spanD t.cols wh (col : Int)).lo.2.wf ∧ (spanD t.cols wh (col : Int)).lo.2.s.size ≤ 7 ∧ (spanD t.cols wh (col : Int)).lo.2.str = cl.2) ∧ ((spanD t.cols wh (col : Int)).hi.1 = true → (spanD t.cols wh (col : Int)).hi.2.wf ∧ (spanD t.cols wh (col : Int)).hi.2.s.size ≤ 7 ∧ (spanD t.cols wh (col : Int)).hi.2.str = cl.2) := by
  obtain ⟨h1, h2, _⟩ := span_src t.cols (col : Int) wh
  constructor
  · intro e
    obtain ⟨c, hc, hb, _, he⟩ := h1 e
    obtain ⟨_, u2, u3⟩ := spB_use hb
    obtain ⟨_, w2, w3, w4⟩ := hw c hc
    rw [u3, colS_get hcl] at w4
    rw [he]
    exact ⟨w2, u2, w4⟩
  · intro e
    obtain ⟨c, hc, hb, _, he⟩ := h2 e
    obtain ⟨_, u2, u3⟩ := spB_use hb
    obtain ⟨_, w2, w3, w4⟩ := hw c hc
    rw [u3, colS_get hcl] at w4
    rw [he]
    exact ⟨w2, u2, w4⟩
theorem scnE_ok {col : Nat} (hw : WhOk t.cols wh) (hc : col < t.cols.length) (hx : col = t.pk ∨ t.ix = some col) : scnE t (col : Int) (bndOf (spanD t.cols wh (col : Int)).lo.1 (spanD t.cols wh (col : Int)).lo.2) (bndOf (spanD t.cols wh (col : Int)).hi.1 (spanD t.cols wh (col : Int)).hi.2) = 0 := by
  obtain ⟨cl, hcl⟩ := getE (l := t.cols) (i := col) hc
  obtain ⟨h1, h2⟩ := bnd_ok hw hcl
  unfold scnE
  rw [if_neg (by omega), if_neg (by
    rintro ⟨a, b⟩
    rcases hx with e | e
    · exact a (by rw [e])
    · rw [e] at b; exact b rfl), Int.toNat_natCast, hcl]
  have k1 : ∀ (b : Bool) (v : Vl), (b = true → v.wf ∧ v.s.size ≤ 7 ∧ v.str = cl.2) → bndT cl (bndOf b v) = true ∧ bndS (bndOf b v) = true := fun b v h => by
    cases b with
    | false => exact ⟨rfl, rfl⟩
    | true => exact ⟨decide_eq_true (h rfl).2.2, decide_eq_true (h rfl).2.1⟩
  show (if (bndT cl _ && bndT cl _) = true then _ else _) = _
  rw [(k1 _ _ h1).1, (k1 _ _ h1).2, (k1 _ _ h2).1, (k1 _ _ h2).2]
  rfl
/-- The rows of a range, filtered. -/
theorem scan_hit : (scnL t t.pk (bndOf (spanD t.cols wh (t.pk : Int)).lo.1 (spanD t.cols wh (t.pk : Int)).lo.2) (bndOf (spanD t.cols wh (t.pk : Int)).hi.1 (spanD t.cols wh (t.pk : Int)).hi.2)).filter (matB t.cols wh) = hitD t wh := by
  unfold scnL
  rw [if_pos rfl, filter_in]
  rfl
theorem full_hit : (scnL t t.pk (bndOf false ⟨false, 0, ⟨#[]⟩⟩) (bndOf false ⟨false, 0, ⟨#[]⟩⟩)).filter (matB t.cols wh) = hitD t wh := by
  unfold scnL hitD
  rw [if_pos rfl, List.filter_filter]
  congr 1
  funext r
  show (matB t.cols wh r && true) = _
  simp
/-- Sorting by the primary key gives the rows in their order. -/
theorem sort_pk (ok : TbOk t) {l m : List (List Vl)} (hp : l.Perm m) (hm : m.Sublist t.rows) : sortP (cmpR t.pk) l = m := by
  have hl : ∀ r ∈ l, r ∈ t.rows := fun r hr => hm.subset (hp.mem_iff.mp hr)
  have ms := ok.srt.sublist hm
  have nd : l.Nodup := by
    refine hp.nodup_iff.mpr (ms.imp (fun {a b} h e => ?_))
    rw [e, lt_irr] at h
    cases h
  refine srt_perm_eq (g := pkK t.pk) ((sortP_perm _ _).trans hp) ?_ ms
  have key : ∀ i, (sortP (cmpR t.pk) (l.take i)).Pairwise (fun a b => lt (pkK t.pk a) (pkK t.pk b) = true) := by
    intro i
    induction i with
    | zero => simp [sortP]
    | succ i ih =>
      cases hx : l[i]? with
      | none =>
        have hl2 : l.length ≤ i := List.getElem?_eq_none_iff.mp hx
        rw [List.take_of_length_le (by omega)]
        rw [List.take_of_length_le hl2] at ih
        exact ih
      | some x =>
        rw [sortP_succ hx]
        have hxm := hl x (List.mem_of_getElem? hx)
        obtain ⟨A, hA⟩ : ∃ A, sortP (cmpR t.pk) (l.take i) = A := ⟨_, rfl⟩
        rw [hA] at ih ⊢
        have hAm : ∀ a ∈ A, a ∈ t.rows ∧ a ≠ x := fun a ha => by
          rw [← hA] at ha
          have h1 := (sortP_perm _ _).mem_iff.mp ha
          refine ⟨hl a (List.mem_of_mem_take h1), fun e => ?_⟩
          obtain ⟨q, hq⟩ := List.getElem?_of_mem h1
          rw [List.getElem?_take] at hq
          by_cases hqi : q < i
          · rw [if_pos hqi, e] at hq
            obtain ⟨l1, e1⟩ := List.getElem?_eq_some_iff.mp hq
            obtain ⟨l2, e2⟩ := List.getElem?_eq_some_iff.mp hx
            exact List.pairwise_iff_getElem.mp nd q i l1 l2 hqi (by rw [e1, e2])
          · rw [if_neg hqi] at hq; cases hq
        have tot : ∀ a ∈ A, lt (pkK t.pk a) (pkK t.pk x) = false → lt (pkK t.pk x) (pkK t.pk a) = true := fun a ha h => by
          rcases lt_total (pkK t.pk a) (pkK t.pk x) with c | c | c
          · rw [h] at c; cases c
          · exact absurd (by_key (pkK t.pk) ok.srt (hAm a ha).1 hxm c) (hAm a ha).2
          · exact c
        obtain ⟨p, hpp⟩ : ∃ p, posP (cmpR t.pk) A x A.length = p := ⟨_, rfl⟩
        unfold insP
        rw [hpp, List.pairwise_append]
        have hdr : ∀ a ∈ A.drop p, lt (pkK t.pk x) (pkK t.pk a) = true := fun a ha => by
          obtain ⟨q, hq⟩ := List.getElem?_of_mem ha
          rw [List.getElem?_drop] at hq
          have hm2 := List.mem_of_getElem? hq
          have := posP_far (st := cmpR t.pk) (x := x) A.length (p + q) a (by omega) (List.getElem?_eq_some_iff.mp hq).1 hq
          rw [cmpR_code ok ok.pkn (hAm a hm2).1 hxm] at this
          unfold pkK
          simpa using this
        have htk : ∀ a ∈ A.take p, lt (pkK t.pk a) (pkK t.pk x) = true := fun a ha => by
          obtain ⟨q, hq⟩ := List.getElem?_of_mem ha
          rw [List.getElem?_take] at hq
          by_cases hqp : q < p
          rotate_left
          · rw [if_neg hqp] at hq; cases hq
          rw [if_pos hqp] at hq
          have hma := List.mem_of_getElem? hq
          rcases posP_at (st := cmpR t.pk) (A := A) (x := x) A.length (Nat.le_refl _) with e | ⟨b, hb, hs⟩
          · rw [hpp] at e; omega
          rw [hpp] at hb
          have hbm := List.mem_of_getElem? hb
          rw [cmpR_code ok ok.pkn (hAm b hbm).1 hxm] at hs
          have hbx : lt (pkK t.pk b) (pkK t.pk x) = true := by
            cases h : lt (pkK t.pk b) (pkK t.pk x) with
            | true => rfl
            | false =>
              have := tot b hbm h
              unfold pkK at this
              rw [this] at hs
              cases hs
          by_cases e : q = p - 1
          · subst e
            rw [hq] at hb
            cases hb
            exact hbx
          · obtain ⟨l1, e1⟩ := List.getElem?_eq_some_iff.mp hq
            obtain ⟨l2, e2⟩ := List.getElem?_eq_some_iff.mp hb
            have := List.pairwise_iff_getElem.mp ih q (p - 1) l1 l2 (by omega)
            rw [e1, e2] at this
            exact lt_trans this hbx
        refine ⟨ih.sublist (List.take_sublist _ _), List.pairwise_cons.mpr ⟨hdr, ih.sublist (List.drop_sublist _ _)⟩, fun a ha b hb => ?_⟩
        rcases List.mem_cons.mp hb with rfl | hb
        · exact htk a ha
        · exact lt_trans (htk a ha) (hdr b hb)
  have := key l.length
  rw [List.take_of_length_le (Nat.le_refl _)] at this
  exact this
/-- The rows of an index range, filtered, sorted back. -/
theorem index_hit (ok : TbOk t) {col : Nat} (hc : col ≠ t.pk) : sortP (cmpR t.pk) ((scnL t col (bndOf (spanD t.cols wh (col : Int)).lo.1 (spanD t.cols wh (col : Int)).lo.2) (bndOf (spanD t.cols wh (col : Int)).hi.1 (spanD t.cols wh (col : Int)).hi.2)).filter (matB t.cols wh)) = hitD t wh := by
  unfold scnL
  rw [if_neg hc, filter_in]
  refine sort_pk ok ?_ List.filter_sublist
  have := scnB_perm ok col
  unfold scnB at this
  rw [if_neg hc] at this
  exact this.filter _
end
end Go.Proofs.Qxb6500412aGreat
