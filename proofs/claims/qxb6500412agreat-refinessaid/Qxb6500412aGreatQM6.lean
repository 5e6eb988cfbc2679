/-
  OWN WORK. QUERY's MODEL: the reader: where (written by tools/gen_qm6.py).
-/
import Derived.Test.Qxb6500412aGreatQM5
namespace Go.Proofs.Qxb6500412aGreat
open Go.RowKit Go.PlainAid
set_option linter.unusedSimpArgs false
set_option linter.unusedVariables false

theorem Tryz.infoSMCm : (Tryz.prog.info? 257).map (fun i => (i.zero, i.size, i.bytes)) = some (some (.agg #[.string ⟨#[]⟩, .string ⟨#[]⟩, .bool false, .int .i64 0, .string ⟨#[]⟩]), 5, 64) := by kernel_rfl
/-- A comparison's sign stands at a token. -/
def sgB : Option Tk → Bool
  | some (.sign s) => decide (opS s ≠ 0)
  | _ => false
/-- where on the list alone. -/
def whQ (P : Ps) (l : List Cm) : Ps × List Cm := if eatB wWHERE P = true then listP cmpP wAND (nextP P) l else (P, l)
theorem whereP_eq (P : Ps) (st : St) : whereP P st = ((whQ P st.wh).1, { st with wh := (whQ P st.wh).2 }) := by
  unfold whereP whQ
  split <;> rfl
def opP (P : Ps) : Ps := if opV P = 0 then failP else nextP P
theorem cmpP_eq (P : Ps) : cmpP P = (litP (opP (nameP P)), ⟨nameV P, opV (nameP P), litV (opP (nameP P))⟩) := rfl
theorem next_good {P : Ps} (h : (nextP P).2 = true) : P.2 = true := h
theorem eat_good {P : Ps} {x : ByteArray} (h : (eatP x P).2 = true) : P.2 = true := by
  unfold eatP at h
  split at h
  · exact h
  · exact h
theorem want_good {P : Ps} {x : ByteArray} (h : (wantP x P).2 = true) : P.2 = true := by
  unfold wantP at h
  split at h
  · exact h
  · cases h
theorem name_good {P : Ps} (h : (nameP P).2 = true) : P.2 = true := by
  unfold nameP at h
  split at h
  · exact h
  · cases h
theorem lit_good {P : Ps} (h : (litP P).2 = true) : P.2 = true := by
  unfold litP at h
  split at h
  · exact h
  · cases h
theorem op_good {P : Ps} (h : (opP P).2 = true) : P.2 = true ∧ opV P ≠ 0 := by
  unfold opP at h
  split at h
  · cases h
  · next c => exact ⟨h, c⟩
section
variable {lo : Nat} {w w' : World} {kr ks : Nat} {tv : Value} {l : List Tk} {P P' : Ps} {m : Ms} {i : Nat} {bad : Bool}
theorem MQR.any {m' : Ms} (h : MQR lo w kr ks tv l P m) (hp : P.2 = false) : MQR lo w kr ks tv l P m' := by
  obtain ⟨S, h1, h2, h3⟩ := h.sq
  exact ⟨h.rd, h.lr, S, h1, fun c => by (rw [hp] at c; cases c), h3⟩
theorem bad_fail (h : MRd w kr tv l P) (hp : P.2 = false) : P = failP := by
  obtain ⟨i, bad, h1, h2⟩ := h
  rcases seen h2 with ⟨e, _⟩ | ⟨_, _, e⟩
  · exact e
  · rw [e] at hp; cases hp
theorem sg_yes {s : ByteArray} (hP : P = (if bad = true then failP else (l.drop i, true))) (hi : i < l.length) (hy : l[i]? = some (.sign s)) (hs : opS s ≠ 0) : opP P = nextP P ∧ ((opP P).2 = true → opT (opV P) = s) := by
  rcases seen hP with ⟨e, _⟩ | ⟨_, e1, e2⟩
  · rw [e]; exact ⟨rfl, fun c => by cases c⟩
  · rw [dropAt hi hy] at e1
    have e : opV P = opS s := by unfold opV; rw [e1]
    unfold opP
    rw [e, if_neg hs]
    exact ⟨rfl, fun _ => opTS hs⟩
theorem sg_no (hP : P = (if bad = true then failP else (l.drop i, true))) (h : sgB l[i]? = false) : opP P = failP := by
  rcases seen hP with ⟨e, _⟩ | ⟨_, e1, e2⟩
  · rw [e]; rfl
  · unfold opP
    have e : opV P = 0 := by
      unfold opV
      rw [e1]
      by_cases hi : i < l.length
      · obtain ⟨y, hy⟩ : ∃ y, l[i]? = some y := ⟨_, List.getElem?_eq_getElem hi⟩
        rw [hy] at h
        rw [dropAt hi hy]
        cases y with
        | sign s =>
          have h' : decide (opS s ≠ 0) = false := h
          have := of_decide_eq_false h'
          exact Classical.not_not.1 this
        | word s => rfl
        | num v => rfl
        | str s => rfl
      · rw [List.drop_eq_nil_of_le (by omega)]
    rw [if_pos e]
theorem sgB_at (h : sgB l[i]? = true) : ∃ s, l[i]? = some (.sign s) ∧ opS s ≠ 0 ∧ i < l.length := by
  by_cases hi : i < l.length
  · obtain ⟨y, hy⟩ : ∃ y, l[i]? = some y := ⟨_, List.getElem?_eq_getElem hi⟩
    rw [hy] at h
    cases y with
    | sign s => exact ⟨s, hy, of_decide_eq_true h, hi⟩
    | word s => cases h
    | num v => cases h
    | str s => cases h
  · rw [List.getElem?_eq_none (by omega)] at h
    cases h
theorem SmOf.wh {S : Sq} {q : List Cm} {c : Cm} {v : Value} {n : Nat} (h : SmOf S { m with wh := q }) (hn : n = q.length + 1) : SmOf (S.setL 7 v (S.xs 7 ++ smC c) n) { m with wh := q ++ [c] } := by
  refine ⟨h.k0, h.k1, h.x2, h.k3, h.x4, h.x5, h.k6, ⟨?_, ?_⟩, h.k8, h.k9, h.k10, h.k11⟩
  · show S.xs 7 ++ smC c = smcs (q ++ [c])
    rw [h.x7.1, smcs_app]
    simp [smcs]
  · show n = (q ++ [c]).length
    rw [hn]; simp
theorem listP_bad {α : Type} {body : Ps → Ps × α} {sep : ByteArray} (hb : (body failP).1 = failP) (q : List α) : (listP body sep failP q).1 = failP := by
  unfold listP loopP
  rw [hb, if_neg (show ¬ eatB sep failP = true from fun c => by cases c)]
theorem SMM.blt {S : Sq} (h : SMM lo w ks S) : ∀ b, (b = ks ∨ ∃ j, smj j ∧ (S.cell j).ownBlock = some b) → b < w.heap.size := by
  rintro b (e | ⟨j, hj, hb⟩)
  · rw [e]; exact h.lt
  · exact ownsRow_lt (h.own j hj) b hb
/-- What a nonterminal leaves. -/
def MqP (lo kr ks : Nat) (tv : Value) (l : List Tk) (P : Ps) (m : Ms) (w w' : World) : Prop := MQR lo w' kr ks tv l P m ∧ Only (fun b => lo ≤ b) w w'
end
end Go.Proofs.Qxb6500412aGreat

