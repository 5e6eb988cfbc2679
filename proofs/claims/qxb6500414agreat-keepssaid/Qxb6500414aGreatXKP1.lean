/-
  OWN WORK. TXN, Keeps, plain: what Insert, Update, Delete, Lookup answer, against the rows. No program in sight.
-/
import Derived.Test.Qxb6500414aGreatXKP0
namespace Go.Proofs.Qxb6500414aGreat
open Go.RowKit Go.PlainAid
set_option linter.unusedSimpArgs false
set_option linter.unusedVariables false

theorem chkRow_val (c : List Cl) (r : List Vl) : chkRow c r = 0 ∨ chkRow c r = 15 ∨ chkRow c r = 16 := by
  unfold chkRow
  split
  · split
    · exact .inl rfl
    · exact .inr (.inr rfl)
  · exact .inr (.inl rfl)
theorem chkVal_val (c : Cl) (r : Vl) : chkVal c r = 0 ∨ chkVal c r = 15 ∨ chkVal c r = 16 := by
  unfold chkVal
  split
  · split
    · exact .inl rfl
    · exact .inr (.inr rfl)
  · exact .inr (.inl rfl)
/-- Not one of the answers ahead of the lock. -/
def Late (e : Int) : Prop := e ≠ 20 ∧ e ≠ 2 ∧ e ≠ 10 ∧ e ≠ 21
/-- A refusal by a row has its ground. -/
def RfR (rows : List (List Vl)) (pk : Nat) (row : List Vl) (e : Int) : Prop := (row.length ≤ pk → e ≠ 6 ∧ e ≠ 17 ∧ e ≠ 9) ∧ ∀ y, row[pk]? = some y → RfK rows pk y e
section
variable {u : Tb} {row : List Vl} {key : Vl}
theorem RfR.triv {rows : List (List Vl)} {pk : Nat} {e : Int} (h : e ≠ 6 ∧ e ≠ 17 ∧ e ≠ 9) : RfR rows pk row e := ⟨fun _ => h, fun y _ => ⟨fun c => absurd c h.1, fun c => absurd c h.2.1, fun c => absurd c h.2.2⟩⟩
theorem RfK.triv {rows : List (List Vl)} {pk : Nat} {e : Int} (h : e ≠ 6 ∧ e ≠ 17 ∧ e ≠ 9) : RfK rows pk key e := ⟨fun c => absurd c h.1, fun c => absurd c h.2.1, fun c => absurd c h.2.2⟩
theorem row_at (tb : TbOk u) (hw : ∀ v ∈ row, v.wf) (h : chkRow u.cols row = 0) : u.pk < row.length ∧ row[u.pk]? = some (kyR u.pk row) ∧ (kyR u.pk row).fit ∧ (kyR u.pk row).str = ((u.cols[u.pk]?).getD (eB, false)).2 := by
  have ok := chkRow_ok h hw
  have k := RowOk.pk tb ok
  exact ⟨by rw [ok.len]; exact tb.pkn, k.2.2, k.1, k.2.1⟩
theorem kins_rf (tb : TbOk u) (hw : ∀ v ∈ row, v.wf) : RfR u.rows u.pk row (insR u row).2 ∧ Late (insR u row).2 := by
  unfold insR
  by_cases c : chkRow u.cols row ≠ 0
  · rw [if_pos c]
    simp only
    have := chkRow_val u.cols row
    exact ⟨RfR.triv (by omega), by unfold Late; omega⟩
  · rw [if_neg c]
    have c0 : chkRow u.cols row = 0 := by omega
    obtain ⟨k1, k2, k3, k4⟩ := row_at tb hw c0
    cases hf : fndK u (pkK u.pk row) with
    | some r =>
      simp only
      have fr := fnd_row tb k3 k4 hf
      refine ⟨⟨fun h => by omega, fun y hy => ?_⟩, by unfold Late; omega⟩
      rw [k2] at hy
      cases hy
      exact ⟨fun h => by omega, fun _ => ⟨r, fr.1, fr.2⟩, fun h => by omega⟩
    | none =>
      simp only
      split
      · next h8 =>
        simp only
        refine ⟨⟨fun h => by omega, fun y hy => ⟨fun _ => h8, fun h => by omega, fun h => by omega⟩⟩, by unfold Late; omega⟩
      · simp only
        exact ⟨RfR.triv (by omega), by unfold Late; omega⟩
theorem kins_ok (tb : TbOk u) (hw : ∀ v ∈ row, v.wf) (h : (insR u row).2 = 0) : u.pk < row.length ∧ ∀ y, row[u.pk]? = some y → (∃ r ∈ (insR u row).1.rows, r[u.pk]? = some y) ∧ ∀ (i : Nat) (r : List Vl), (insR u row).1.rows[i]? = some r → r[u.pk]? = some y → r = row ∧ u.rows = (insR u row).1.rows.eraseIdx i := by
  unfold insR at h ⊢
  by_cases c : chkRow u.cols row ≠ 0
  · rw [if_pos c] at h
    exact absurd h c
  · rw [if_neg c] at h ⊢
    have c0 : chkRow u.cols row = 0 := by omega
    obtain ⟨k1, k2, k3, k4⟩ := row_at tb hw c0
    cases hf : fndK u (pkK u.pk row) with
    | some r => rw [hf] at h; simp only at h; cases h
    | none =>
      rw [hf] at h
      simp only at h ⊢
      split
      · next h8 => rw [if_pos h8] at h; cases h
      · have hno := fnd_no tb (y := kyR u.pk row) hf
        have hno2 : ∀ e ∈ u.rows, pkK u.pk e ≠ pkK u.pk row := fun e he c => hno e he ((key_code tb he k3 k4).mpr c)
        obtain ⟨j, hj, ej⟩ := putBy_new (f := pkK u.pk) row hno2
        have ie := ins_erase u.rows row j hj
        have es : (withR u (putBy (pkK u.pk) row u.rows)).rows = putBy (pkK u.pk) row u.rows := rfl
        simp only [es]
        refine ⟨k1, fun y hy => ?_⟩
        rw [k2] at hy
        cases hy
        rw [ej]
        refine ⟨⟨row, by simp, k2⟩, fun i r hi hr => ?_⟩
        have hm : r ∈ u.rows.take j ++ row :: u.rows.drop j := List.mem_of_getElem? hi
        have hij : i = j := by
          have hr2 : r = row := by
            rcases List.mem_append.mp hm with d | d
            · exact absurd hr (hno r (List.mem_of_mem_take d))
            · rcases List.mem_cons.mp d with d | d
              · exact d
              · exact absurd hr (hno r (List.mem_of_mem_drop d))
          subst hr2
          have hl : (u.rows.take j).length = j := by rw [List.length_take]; omega
          rcases Nat.lt_trichotomy i j with d | d | d
          · rw [List.getElem?_append_left (by omega)] at hi
            exact absurd k2 (hno r (List.mem_of_mem_take (List.mem_of_getElem? hi)))
          · exact d
          · rw [List.getElem?_append_right (by omega), hl] at hi
            obtain ⟨m, hm⟩ : ∃ m, i - j = m + 1 := ⟨i - j - 1, by omega⟩
            rw [hm, List.getElem?_cons_succ] at hi
            exact absurd k2 (hno r (List.mem_of_mem_drop (List.mem_of_getElem? hi)))
        subst hij
        rw [ie.2] at hi
        cases hi
        exact ⟨rfl, ie.1.symm⟩
theorem kupd_rf (tb : TbOk u) (hw : ∀ v ∈ row, v.wf) : RfR u.rows u.pk row (updR u row).2 ∧ Late (updR u row).2 := by
  unfold updR
  by_cases c : chkRow u.cols row ≠ 0
  · rw [if_pos c]
    simp only
    have := chkRow_val u.cols row
    exact ⟨RfR.triv (by omega), by unfold Late; omega⟩
  · rw [if_neg c]
    have c0 : chkRow u.cols row = 0 := by omega
    obtain ⟨k1, k2, k3, k4⟩ := row_at tb hw c0
    cases hf : fndK u (pkK u.pk row) with
    | some r =>
      simp only
      exact ⟨RfR.triv (by omega), by unfold Late; omega⟩
    | none =>
      simp only
      have hno := fnd_no tb (y := kyR u.pk row) hf
      refine ⟨⟨fun h => by omega, fun y hy => ?_⟩, by unfold Late; omega⟩
      rw [k2] at hy
      cases hy
      exact ⟨fun h => by omega, fun h => by omega, fun _ => hno⟩
theorem kupd_ok (tb : TbOk u) (hw : ∀ v ∈ row, v.wf) (h : (updR u row).2 = 0) : u.pk < row.length ∧ (updR u row).1.rows.length = u.rows.length ∧ ∀ y, row[u.pk]? = some y → (∃ r ∈ u.rows, r[u.pk]? = some y) ∧ ∀ (i : Nat) (r : List Vl), u.rows[i]? = some r → r[u.pk]? = some y → (updR u row).1.rows = u.rows.set i row := by
  unfold updR at h ⊢
  by_cases c : chkRow u.cols row ≠ 0
  · rw [if_pos c] at h
    exact absurd h c
  · rw [if_neg c] at h ⊢
    have c0 : chkRow u.cols row = 0 := by omega
    obtain ⟨k1, k2, k3, k4⟩ := row_at tb hw c0
    cases hf : fndK u (pkK u.pk row) with
    | none => rw [hf] at h; simp only at h; cases h
    | some o =>
      simp only
      have fr := fnd_row tb k3 k4 hf
      have es : (withR u (putBy (pkK u.pk) row u.rows)).rows = putBy (pkK u.pk) row u.rows := rfl
      simp only [es]
      have key : ∀ (i : Nat) (r : List Vl), u.rows[i]? = some r → r[u.pk]? = some (kyR u.pk row) → putBy (pkK u.pk) row u.rows = u.rows.set i row := fun i r hi hr =>
        putBy_old row tb.srt hi ((key_code tb (List.mem_of_getElem? hi) k3 k4).mp hr)
      refine ⟨k1, ?_, fun y hy => ?_⟩
      · obtain ⟨i, hi⟩ := List.getElem?_of_mem fr.1
        rw [key i o hi fr.2, List.length_set]
      · rw [k2] at hy
        cases hy
        exact ⟨⟨o, fr.1, fr.2⟩, key⟩
theorem kdel_rf (tb : TbOk u) (hw : key.wf) : RfK u.rows u.pk key (delR u key).2 ∧ Late (delR u key).2 := by
  unfold delR
  by_cases c : chkKey u key ≠ 0
  · rw [if_pos c]
    simp only
    have : chkKey u key = 0 ∨ chkKey u key = 15 ∨ chkKey u key = 16 := chkVal_val _ _
    exact ⟨RfK.triv (by omega), by unfold Late; omega⟩
  · rw [if_neg c]
    cases hf : fndK u (cV key) with
    | some r =>
      simp only
      exact ⟨RfK.triv (by omega), by unfold Late; omega⟩
    | none =>
      simp only
      exact ⟨⟨fun h => by omega, fun h => by omega, fun _ => fnd_no tb hf⟩, by unfold Late; omega⟩
theorem kdel_ok (tb : TbOk u) (hw : key.wf) (h : (delR u key).2 = 0) : (∃ r ∈ u.rows, r[u.pk]? = some key) ∧ ∀ (i : Nat) (r : List Vl), u.rows[i]? = some r → r[u.pk]? = some key → (delR u key).1.rows = u.rows.eraseIdx i := by
  unfold delR at h ⊢
  by_cases c : chkKey u key ≠ 0
  · rw [if_pos c] at h
    exact absurd h c
  · rw [if_neg c] at h ⊢
    have c0 : chkKey u key = 0 := by omega
    have kk := chkVal_ok c0 hw
    cases hf : fndK u (cV key) with
    | none => rw [hf] at h; simp only at h; cases h
    | some o =>
      simp only
      have fr := fnd_row tb kk.1 kk.2 hf
      have es : (withR u (u.rows.filter (fun r => decide (pkK u.pk r ≠ cV key)))).rows = u.rows.filter (fun r => decide (pkK u.pk r ≠ cV key)) := rfl
      simp only [es]
      refine ⟨⟨o, fr.1, fr.2⟩, fun i r hi hr => ?_⟩
      have e := (key_code tb (List.mem_of_getElem? hi) kk.1 kk.2).mp hr
      rw [← e]
      exact filter_one tb.srt hi
theorem klkp_rf (tb : TbOk u) (hw : key.wf) : RfK u.rows u.pk key (lkpR u key).2 ∧ Late (lkpR u key).2 := by
  unfold lkpR
  by_cases c : chkKey u key ≠ 0
  · rw [if_pos c]
    simp only
    have : chkKey u key = 0 ∨ chkKey u key = 15 ∨ chkKey u key = 16 := chkVal_val _ _
    exact ⟨RfK.triv (by omega), by unfold Late; omega⟩
  · rw [if_neg c]
    cases hf : fndK u (cV key) with
    | some r =>
      simp only
      exact ⟨RfK.triv (by omega), by unfold Late; omega⟩
    | none =>
      simp only
      exact ⟨⟨fun h => by omega, fun h => by omega, fun _ => fnd_no tb hf⟩, by unfold Late; omega⟩
theorem klkp_ok (tb : TbOk u) (hw : key.wf) (h : (lkpR u key).2 = 0) : (∃ r ∈ u.rows, r[u.pk]? = some key) ∧ ∀ (i : Nat) (r : List Vl), u.rows[i]? = some r → r[u.pk]? = some key → (lkpR u key).1 = r := by
  unfold lkpR at h ⊢
  by_cases c : chkKey u key ≠ 0
  · rw [if_pos c] at h
    exact absurd h c
  · rw [if_neg c] at h ⊢
    have c0 : chkKey u key = 0 := by omega
    have kk := chkVal_ok c0 hw
    cases hf : fndK u (cV key) with
    | none => rw [hf] at h; simp only at h; cases h
    | some o =>
      simp only
      have fr := fnd_row tb kk.1 kk.2 hf
      refine ⟨⟨o, fr.1, fr.2⟩, fun i r hi hr => ?_⟩
      obtain ⟨j, hj⟩ := List.getElem?_of_mem fr.1
      have e1 := (key_code tb (List.mem_of_getElem? hi) kk.1 kk.2).mp hr
      have e2 := (key_code tb fr.1 kk.1 kk.2).mp fr.2
      have := srt_inj tb.srt hj hi (e2.trans e1.symm)
      subst this
      rw [hj] at hi
      cases hi
      rfl
theorem scn_late (tb : TbOk u) (col : Int) (lo hi : Bnd) : Late (scnE u col lo hi) := by
  unfold scnE Late
  split
  · omega
  · split
    · omega
    · split
      · split <;> omega
      · omega
end
end Go.Proofs.Qxb6500414aGreat
