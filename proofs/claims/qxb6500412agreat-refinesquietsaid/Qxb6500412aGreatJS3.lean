/-
  OWN WORK. THE TABLE LAW: KeptLookup (written by tools/gen_js3.py).
-/
import Derived.Test.Qxb6500412aGreatJS2
import Derived.Test.Qxb6500412aGreatELk
namespace Go.Proofs.Qxb6500412aGreat
open Go.RowKit Go.PlainAid
set_option linter.unusedSimpArgs false
set_option linter.unusedVariables false

section
variable {q : Gnd} {w w' : World} {x : Nat} {op : Bool} {S : Vu} {T : List (Tb × Hd)} {v : Value} {l : List GE} {D : Db} {nm : ByteArray} {key : Vl}
theorem lkp_len {D : Db} (d : DOk D) : (lkpD D nm key).1.length ≤ 1000 := by
  unfold lkpD
  cases hf : findD D nm with
  | none => simp
  | some t0 =>
    have ok := d.tb t0 (by unfold findD at hf; exact List.mem_of_find?_eq_some hf)
    simp only
    unfold lkpR
    split
    · simp
    · cases hk : fndK t0 (cV key) with
      | none => simp
      | some r =>
        unfold fndK at hk
        simp only
        rw [(ok.row r (List.mem_of_find?_eq_some hk)).len]
        have := ok.n3
        omega
theorem lkp_no (h : ∀ e ∈ l, e.t.nm ≠ nm) (P : GP (l.map (·.t)) D) : lkpD D nm key = ([], 10) := by
  unfold lkpD
  rw [P.no (fun t ht => by obtain ⟨e, he, rfl⟩ := List.mem_map.mp ht; exact h e he)]
theorem lkp_chk {e : GE} (he : e ∈ l) (hn : e.t.nm = nm) (hc : chkKey e.t key ≠ 0) (P : GP (l.map (·.t)) D) : lkpD D nm key = ([], chkKey e.t key) := by
  obtain ⟨t0, h1, h2, h3⟩ := P.yes (List.mem_map.mpr ⟨e, he, rfl⟩) hn
  have : chkKey e.t key = chkKey t0 key := by unfold chkKey; rw [h3.cols, h3.pk]
  unfold lkpD lkpR
  rw [h1]
  simp only
  rw [← this, if_pos hc]
theorem lkp_row {e : GE} (d : DOk D) (he : e ∈ l) (hn : e.t.nm = nm) (hw : key.wf) (hc : chkKey e.t key = 0) {z : Int} (hr : GRR e.t key z) (P : GP (l.map (·.t)) D) : (z = -1 → lkpD D nm key = ([], 9)) ∧ ∀ (i : Nat) (r : List Vl), z = i → e.t.rows[i]? = some r → lkpD D nm key = (r, 0) := by
  obtain ⟨t0, h1, h2, h3⟩ := P.yes (List.mem_map.mpr ⟨e, he, rfl⟩) hn
  have ok := d.tb t0 h2
  have hc0 : chkKey t0 key = 0 := by unfold chkKey at hc ⊢; rw [h3.cols, h3.pk] at hc; exact hc
  obtain ⟨kf, ks⟩ := h3.keyOk ok hw hc
  unfold lkpD lkpR
  rw [h1]
  simp only
  rw [if_neg (by simpa using hc0)]
  rcases h3.find ok kf ks hr with ⟨rfl, hf, _⟩ | ⟨i, r, hi, rfl, _, hf⟩
  · exact ⟨fun _ => by rw [hf], fun i r e => by omega⟩
  · refine ⟨fun e => by omega, fun j r' e hr' => ?_⟩
    obtain rfl : i = j := by omega
    rw [hi] at hr'
    cases hr'
    rw [hf]
end
end Go.Proofs.Qxb6500412aGreat
