/-
  OWN WORK. QUERY's MODEL, plain: a text that parses can be cut. No program in sight.
-/
import Derived.Test.Qxb6500412aGreatQM6
namespace Go.Proofs.Qxb6500412aGreat
open Go.RowKit Go.PlainAid
set_option linter.unusedSimpArgs false
set_option linter.unusedVariables false

section
variable {P : Ps} {st : St}
theorem loop_good {α : Type} {body : Ps → Ps × α} {sep : ByteArray} (hb : ∀ P, (body P).1.2 = true → P.2 = true) : ∀ f P (l : List α), (loopP body sep f P l).1.2 = true → P.2 = true
  | 0, P, l, h => h
  | f + 1, P, l, h => by
    unfold loopP at h
    split at h
    · exact hb P (next_good (loop_good hb f _ _ h))
    · exact hb P h
theorem list_good {α : Type} {body : Ps → Ps × α} {sep : ByteArray} (hb : ∀ P, (body P).1.2 = true → P.2 = true) {l : List α} (h : (listP body sep P l).1.2 = true) : P.2 = true := loop_good hb _ _ _ h
theorem cmp_good (P : Ps) (h : (cmpP P).1.2 = true) : P.2 = true := by
  rw [cmpP_eq] at h
  exact name_good (op_good (lit_good h)).1
theorem wh_good (h : (whereP P st).1.2 = true) : P.2 = true := by
  unfold whereP at h
  split at h
  · exact next_good (list_good cmp_good h)
  · exact h
theorem set_good (P : Ps) (h : (setP P).1.2 = true) : P.2 = true := name_good (want_good (lit_good h))
theorem upd_good (h : (updP P st).1.2 = true) : P.2 = true := by
  unfold updP at h
  exact name_good (want_good (list_good set_good (wh_good h)))
theorem ins_good (h : (intP P st).1.2 = true) : P.2 = true := by
  unfold intP at h
  have h2 := want_good h
  have h3 := list_good (body := litL) (fun P h => lit_good h) h2
  unfold insLP at h3
  exact want_good (name_good (want_good (want_good h3)))
theorem sel_good (h : (selP P st).1.2 = true) : P.2 = true := by
  have h1 : (selO P st).1.2 = true := by
    unfold selP limP at h
    split at h
    · simp only at h
      split at h
      · exact h
      · cases h
    · exact h
  have h2 : (selW P st).1.2 = true := by
    unfold selO ordP at h1
    split at h1
    · exact next_good (want_good (name_good (eat_good h1)))
    · exact h1
  unfold selW at h2
  have h3 := want_good (name_good (wh_good h2))
  unfold selN at h3
  split at h3
  · exact eat_good h3
  · exact eat_good (list_good (body := nameL) (fun P h => name_good h) h3)
theorem ty_good (h : (tyP P).2 = true) : P.2 = true := by
  unfold tyP at h
  split at h
  · exact h
  · exact want_good h
theorem tab_good (h : (tabP P st).1.2 = true) : P.2 = true := by
  unfold tabP at h
  simp only at h
  split at h
  · have h2 := want_good h
    unfold tabL at h2
    exact name_good (want_good (list_good (body := colL) (fun P h => name_good (ty_good (eat_good h))) h2))
  · cases h
theorem idx_good (h : (idxP P st).1.2 = true) : P.2 = true := by
  unfold idxP idxB idxA at h
  exact want_good (want_good (name_good (want_good (name_good (want_good h)))))
theorem cre_good (h : (creP P st).1.2 = true) : P.2 = true := by
  unfold creP at h
  split at h
  · exact next_good (tab_good h)
  · exact idx_good h
theorem eat_only {a b : ByteArray} (h : eatB a P = true) (hn : a ≠ b) : eatB b P = false := by
  unfold eatB at h ⊢
  split at h
  · next s l e =>
    simp only [Bool.and_eq_true, decide_eq_true_eq] at h
    rw [h.2]
    simp [hn]
  · next s l e =>
    rw [of_decide_eq_true h]
    simp [hn]
  · cases h
theorem sen_SELECT (h : eatB wSELECT P = true) : senP P st = selP (nextP P) st := by
  unfold senP
  rw [if_pos h]
theorem sen_INSERT (h : eatB wINSERT P = true) : senP P st = intP (nextP P) st := by
  unfold senP
  rw [eat_only h (show wINSERT ≠ wSELECT by decide), if_neg (by decide)]
  rw [if_pos h]
theorem sen_UPDATE (h : eatB wUPDATE P = true) : senP P st = updP (nextP P) st := by
  unfold senP
  rw [eat_only h (show wUPDATE ≠ wSELECT by decide), if_neg (by decide)]
  rw [eat_only h (show wUPDATE ≠ wINSERT by decide), if_neg (by decide)]
  rw [if_pos h]
theorem sen_DELETE (h : eatB wDELETE P = true) : senP P st = delP (nextP P) st := by
  unfold senP
  rw [eat_only h (show wDELETE ≠ wSELECT by decide), if_neg (by decide)]
  rw [eat_only h (show wDELETE ≠ wINSERT by decide), if_neg (by decide)]
  rw [eat_only h (show wDELETE ≠ wUPDATE by decide), if_neg (by decide)]
  rw [if_pos h]
theorem sen_BEGIN (h : eatB wBEGIN P = true) : senP P st = (nextP P, { st with kind := 1 }) := by
  unfold senP
  rw [eat_only h (show wBEGIN ≠ wSELECT by decide), if_neg (by decide)]
  rw [eat_only h (show wBEGIN ≠ wINSERT by decide), if_neg (by decide)]
  rw [eat_only h (show wBEGIN ≠ wUPDATE by decide), if_neg (by decide)]
  rw [eat_only h (show wBEGIN ≠ wDELETE by decide), if_neg (by decide)]
  rw [if_pos h]
theorem sen_COMMIT (h : eatB wCOMMIT P = true) : senP P st = (nextP P, { st with kind := 2 }) := by
  unfold senP
  rw [eat_only h (show wCOMMIT ≠ wSELECT by decide), if_neg (by decide)]
  rw [eat_only h (show wCOMMIT ≠ wINSERT by decide), if_neg (by decide)]
  rw [eat_only h (show wCOMMIT ≠ wUPDATE by decide), if_neg (by decide)]
  rw [eat_only h (show wCOMMIT ≠ wDELETE by decide), if_neg (by decide)]
  rw [eat_only h (show wCOMMIT ≠ wBEGIN by decide), if_neg (by decide)]
  rw [if_pos h]
theorem sen_ROLLBACK (h : eatB wROLLBACK P = true) : senP P st = (nextP P, { st with kind := 3 }) := by
  unfold senP
  rw [eat_only h (show wROLLBACK ≠ wSELECT by decide), if_neg (by decide)]
  rw [eat_only h (show wROLLBACK ≠ wINSERT by decide), if_neg (by decide)]
  rw [eat_only h (show wROLLBACK ≠ wUPDATE by decide), if_neg (by decide)]
  rw [eat_only h (show wROLLBACK ≠ wDELETE by decide), if_neg (by decide)]
  rw [eat_only h (show wROLLBACK ≠ wBEGIN by decide), if_neg (by decide)]
  rw [eat_only h (show wROLLBACK ≠ wCOMMIT by decide), if_neg (by decide)]
  rw [if_pos h]
theorem sen_DROP (h : eatB wDROP P = true) : senP P st = drpP (nextP P) st := by
  unfold senP
  rw [eat_only h (show wDROP ≠ wSELECT by decide), if_neg (by decide)]
  rw [eat_only h (show wDROP ≠ wINSERT by decide), if_neg (by decide)]
  rw [eat_only h (show wDROP ≠ wUPDATE by decide), if_neg (by decide)]
  rw [eat_only h (show wDROP ≠ wDELETE by decide), if_neg (by decide)]
  rw [eat_only h (show wDROP ≠ wBEGIN by decide), if_neg (by decide)]
  rw [eat_only h (show wDROP ≠ wCOMMIT by decide), if_neg (by decide)]
  rw [eat_only h (show wDROP ≠ wROLLBACK by decide), if_neg (by decide)]
  rw [if_pos h]
theorem sen_CREATE (h : eatB wCREATE P = true) : senP P st = creP (nextP P) st := by
  unfold senP
  rw [eat_only h (show wCREATE ≠ wSELECT by decide), if_neg (by decide)]
  rw [eat_only h (show wCREATE ≠ wINSERT by decide), if_neg (by decide)]
  rw [eat_only h (show wCREATE ≠ wUPDATE by decide), if_neg (by decide)]
  rw [eat_only h (show wCREATE ≠ wDELETE by decide), if_neg (by decide)]
  rw [eat_only h (show wCREATE ≠ wBEGIN by decide), if_neg (by decide)]
  rw [eat_only h (show wCREATE ≠ wCOMMIT by decide), if_neg (by decide)]
  rw [eat_only h (show wCREATE ≠ wROLLBACK by decide), if_neg (by decide)]
  rw [eat_only h (show wCREATE ≠ wDROP by decide), if_neg (by decide)]
  rw [if_pos h]
theorem sen_none (h0 : eatB wSELECT P = false) (h1 : eatB wINSERT P = false) (h2 : eatB wUPDATE P = false) (h3 : eatB wDELETE P = false) (h4 : eatB wBEGIN P = false) (h5 : eatB wCOMMIT P = false) (h6 : eatB wROLLBACK P = false) (h7 : eatB wDROP P = false) (h8 : eatB wCREATE P = false) : senP P st = (failP, st) := by
  unfold senP
  rw [h0, h1, h2, h3, h4, h5, h6, h7, h8]
  rfl
theorem sen_good (h : (senP P st).1.2 = true) : P.2 = true := by
  unfold senP at h
  split at h
  · exact next_good (sel_good h)
  · split at h
    · exact next_good (ins_good h)
    · split at h
      · exact next_good (upd_good h)
      · split at h
        · exact next_good (want_good (name_good (wh_good h)))
        · split at h
          · exact next_good h
          · split at h
            · exact next_good h
            · split at h
              · exact next_good h
              · split at h
                · exact next_good (want_good (name_good h))
                · split at h
                  · exact next_good (cre_good h)
                  · cases h
/-- A text that parses was cut. -/
theorem par_toks {t : ByteArray} (h : parB t = true) : t.size ≤ 256 ∧ (toks t 0).2 = true := by
  unfold parB parQ at h
  simp only [Bool.and_eq_true, decide_eq_true_eq] at h
  exact ⟨h.1.1, sen_good h.2⟩
end
end Go.Proofs.Qxb6500412aGreat
