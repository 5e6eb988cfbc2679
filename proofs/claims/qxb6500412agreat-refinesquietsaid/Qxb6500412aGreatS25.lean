/-
  OWN WORK. QUERY: plain: how long the lists of a statement are.
-/
import Derived.Test.Qxb6500412aGreatS24
namespace Go.Proofs.Qxb6500412aGreat
open Go.RowKit Go.PlainAid
set_option linter.unusedSimpArgs false
set_option linter.unusedVariables false

section
variable {P : Ps} {w0 : ByteArray}
theorem eat_ne (h : eatB w0 P = true) : P.1 ≠ [] := by
  intro c
  unfold eatB at h
  rw [c] at h
  cases h
theorem next_dec (h : P.1 ≠ []) : (nextP P).1.length + 1 ≤ P.1.length := by
  obtain ⟨l, b⟩ := P
  cases l with
  | nil => exact absurd rfl h
  | cons x l => exact Nat.le_refl _
theorem want_dec (h : (wantP w0 P).1 ≠ []) : (wantP w0 P).1.length + 1 ≤ P.1.length := by
  unfold wantP at h ⊢
  split at h
  · rename_i c
    rw [if_pos c]
    exact next_dec (eat_ne c)
  · exact absurd rfl h
theorem name_dec (h : (nameP P).1 ≠ []) : (nameP P).1.length + 1 ≤ P.1.length := by
  unfold nameP at h ⊢
  split at h
  · rename_i c
    rw [if_pos c]
    refine next_dec (fun e => ?_)
    unfold nameB at c
    rw [e] at c
    cases c
  · exact absurd rfl h
theorem lit_dec (h : (litP P).1 ≠ []) : (litP P).1.length + 1 ≤ P.1.length := by
  unfold litP at h ⊢
  split at h
  · rename_i c
    rw [if_pos c]
    refine next_dec (fun e => ?_)
    unfold litB at c
    rw [e] at c
    cases c
  · exact absurd rfl h
theorem ne_of_len {A B : Ps} (h : A.1 ≠ []) (hl : A.1.length ≤ B.1.length) : B.1 ≠ [] := fun e => by
  rw [e] at hl
  exact h (List.eq_nil_of_length_eq_zero (Nat.le_zero.1 hl))
theorem ty_dec (h : (tyP P).1 ≠ []) : (tyP P).1.length + 1 ≤ P.1.length := by
  unfold tyP at h ⊢
  split at h
  · rename_i c
    rw [if_pos c]
    exact next_dec (eat_ne c)
  · rename_i c
    rw [if_neg c]
    exact want_dec h
theorem colL_dec (P : Ps) (h : eatB wCOMMA (colL P).1 = true) : (colL P).1.1.length + 2 ≤ P.1.length := by
  have h0 : (eatP wKEY (tyP (nameP P))).1 ≠ [] := eat_ne h
  have l0 := eatP_len wKEY (tyP (nameP P))
  have h1 := ne_of_len h0 l0
  have d1 := ty_dec h1
  have h2 := ne_of_len h1 (tyP_len _)
  have d2 := name_dec h2
  show (eatP wKEY (tyP (nameP P))).1.length + 2 ≤ _
  omega
theorem litL_dec (P : Ps) (h : eatB wCOMMA (litL P).1 = true) : (litL P).1.1.length + 1 ≤ P.1.length := lit_dec (P := P) (eat_ne h)
theorem nameL_dec (P : Ps) (h : eatB wCOMMA (nameL P).1 = true) : (nameL P).1.1.length + 1 ≤ P.1.length := name_dec (P := P) (eat_ne h)
theorem setP_dec (P : Ps) (h : eatB wCOMMA (setP P).1 = true) : (setP P).1.1.length + 1 ≤ P.1.length := by
  have h0 : (litP (wantP wEQ (nameP P))).1 ≠ [] := eat_ne h
  have d0 := lit_dec h0
  have l1 := wantP_len wEQ (nameP P)
  have l2 := nameP_len P
  show (litP (wantP wEQ (nameP P))).1.length + 1 ≤ _
  omega
theorem cmpP_dec (P : Ps) (h : eatB wAND (cmpP P).1 = true) : (cmpP P).1.1.length + 1 ≤ P.1.length := by
  have h0 : (litP (if opV (nameP P) = 0 then failP else nextP (nameP P))).1 ≠ [] := eat_ne h
  have d0 := lit_dec h0
  have l1 : (if opV (nameP P) = 0 then failP else nextP (nameP P)).1.length ≤ (nameP P).1.length := by
    split
    · exact failP_len _
    · exact nextP_len _
  have l2 := nameP_len P
  show (litP (if opV (nameP P) = 0 then failP else nextP (nameP P))).1.length + 1 ≤ _
  omega
end
/-- The lists of a statement are short. -/
structure StB (st : St) : Prop where
  defs : st.defs.length ≤ 100
  lits : st.lits.length ≤ 200
  list : st.list.length ≤ 200
  sets : st.sets.length ≤ 200
  wh : st.wh.length ≤ 200
section
variable {P : Ps} {st : St}
theorem whereP_b (hP : P.1.length ≤ 256) (h : StB st) (h0 : st.wh = []) : StB (whereP P st).2 := by
  unfold whereP
  split
  · refine ⟨h.defs, h.lits, h.list, h.sets, ?_⟩
    have := listP_long (sep := wAND) cmpP_dec (nextP P) st.wh
    have l := nextP_len P
    rw [h0] at this ⊢
    simp only [List.length_nil] at this
    show (listP cmpP wAND (nextP P) []).2.length ≤ 200
    omega
  · exact h
theorem insP_b (hP : P.1.length ≤ 256) (h : StB st) (h0 : st.lits = []) : StB (intP P st).2 := by
  refine ⟨h.defs, ?_, h.list, h.sets, h.wh⟩
  have := listP_long (sep := wCOMMA) litL_dec (insLP P) st.lits
  have l : (insLP P).1.length ≤ P.1.length := Nat.le_trans (wantP_len _ _) (Nat.le_trans (wantP_len _ _) (Nat.le_trans (nameP_len _) (wantP_len _ _)))
  rw [h0] at this
  simp only [List.length_nil] at this
  show (listP litL wCOMMA (insLP P) st.lits).2.length ≤ 200
  rw [h0]
  omega
theorem updP_b (hP : P.1.length ≤ 256) (h : StB st) (h0 : st.sets = []) (h1 : st.wh = []) : StB (updP P st).2 := by
  have := listP_long (sep := wCOMMA) setP_dec (wantP wSET (nameP P)) st.sets
  have l : (wantP wSET (nameP P)).1.length ≤ P.1.length := Nat.le_trans (wantP_len _ _) (nameP_len _)
  have l2 : (listP setP wCOMMA (wantP wSET (nameP P)) st.sets).1.1.length ≤ (wantP wSET (nameP P)).1.length := (listP_len setP_len _ _ _).1
  rw [h0] at this
  simp only [List.length_nil] at this
  refine whereP_b (by omega) ⟨h.defs, h.lits, h.list, ?_, h.wh⟩ h1
  show (listP setP wCOMMA (wantP wSET (nameP P)) st.sets).2.length ≤ 200
  rw [h0]
  omega
theorem selN_b (hP : P.1.length ≤ 256) (h0 : st.list = []) : (selN P st).1.1.length ≤ 256 ∧ (selN P st).2.length ≤ 200 := by
  unfold selN
  split
  · exact ⟨Nat.le_trans (eatP_len _ _) hP, by simp [h0]⟩
  · have := listP_long (sep := wCOMMA) nameL_dec (eatP wSTAR P) st.list
    have l := eatP_len wSTAR P
    have l2 : (listP nameL wCOMMA (eatP wSTAR P) st.list).1.1.length ≤ (eatP wSTAR P).1.length := (listP_len nameL_len _ _ _).1
    rw [h0] at this l2 ⊢
    simp only [List.length_nil] at this
    exact ⟨by omega, by omega⟩
theorem ordP_b (h : StB st) : StB (ordP P st).2 := by
  unfold ordP
  split
  · exact ⟨h.defs, h.lits, h.list, h.sets, h.wh⟩
  · exact h
theorem limP_b (h : StB st) : StB (limP P st).2 := by
  unfold limP
  split
  · exact ⟨h.defs, h.lits, h.list, h.sets, h.wh⟩
  · exact h
theorem selP_b (hP : P.1.length ≤ 256) (h : StB st) (h0 : st.list = []) (h1 : st.wh = []) : StB (selP P st).2 := by
  have k := selN_b (P := P) (st := st) hP h0
  exact limP_b (ordP_b (whereP_b (Nat.le_trans (nameP_len _) (Nat.le_trans (wantP_len _ _) k.1)) ⟨h.defs, h.lits, k.2, h.sets, h.wh⟩ h1))
theorem creP_b (hP : P.1.length ≤ 256) (h : StB st) (h0 : st.list = []) : StB (creP P st).2 := by
  unfold creP
  split
  · refine ⟨?_, h.lits, h.list, h.sets, h.wh⟩
    have := listP_long (sep := wCOMMA) colL_dec (wantP wLP (nameP (nextP P))) []
    have l : (wantP wLP (nameP (nextP P))).1.length ≤ P.1.length := Nat.le_trans (wantP_len _ _) (Nat.le_trans (nameP_len _) (nextP_len _))
    simp only [List.length_nil] at this
    show ((tabL (nextP P)).2.map (·.1)).length ≤ 100
    rw [List.length_map]
    show (listP colL wCOMMA (wantP wLP (nameP (nextP P))) []).2.length ≤ 100
    omega
  · refine ⟨h.defs, h.lits, ?_, h.sets, h.wh⟩
    show (st.list ++ [nameV (idxB P)]).length ≤ 200
    rw [h0]
    simp
end
theorem StB.z : StB St.z := ⟨Nat.zero_le _, Nat.zero_le _, Nat.zero_le _, Nat.zero_le _, Nat.zero_le _⟩
theorem senP_b {P : Ps} (hP : P.1.length ≤ 256) : StB (senP P St.z).2 := by
  have n : (nextP P).1.length ≤ 256 := Nat.le_trans (nextP_len P) hP
  unfold senP
  split
  · exact selP_b n StB.z rfl rfl
  split
  · exact insP_b n StB.z rfl
  split
  · exact updP_b n StB.z rfl rfl
  split
  · exact whereP_b (Nat.le_trans (nameP_len _) (Nat.le_trans (wantP_len _ _) n)) ⟨Nat.zero_le _, Nat.zero_le _, Nat.zero_le _, Nat.zero_le _, Nat.zero_le _⟩ rfl
  split
  · exact ⟨Nat.zero_le _, Nat.zero_le _, Nat.zero_le _, Nat.zero_le _, Nat.zero_le _⟩
  split
  · exact ⟨Nat.zero_le _, Nat.zero_le _, Nat.zero_le _, Nat.zero_le _, Nat.zero_le _⟩
  split
  · exact ⟨Nat.zero_le _, Nat.zero_le _, Nat.zero_le _, Nat.zero_le _, Nat.zero_le _⟩
  split
  · exact ⟨Nat.zero_le _, Nat.zero_le _, Nat.zero_le _, Nat.zero_le _, Nat.zero_le _⟩
  split
  · exact creP_b n StB.z rfl
  · exact StB.z
/-- What Parse reads is short. -/
theorem parQ_b {t : ByteArray} (ht : t.size ≤ 256) : StB (parQ t).2 := senP_b (by have := toks_len (t := t) (i := 0) (Nat.zero_le _); omega)
end Go.Proofs.Qxb6500412aGreat
