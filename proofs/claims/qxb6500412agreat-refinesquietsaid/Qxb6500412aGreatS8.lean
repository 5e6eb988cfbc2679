/-
  OWN WORK. QUERY, plain: the grammar over the tokens. No program in sight.
-/
import Derived.Test.Qxb6500412aGreatS7
namespace Go.Proofs.Qxb6500412aGreat
open Go.RowKit Go.PlainAid
set_option linter.unusedSimpArgs false
set_option linter.unusedVariables false

theorem nextP_len (P : Ps) : (nextP P).1.length ≤ P.1.length := by unfold nextP; simp
theorem eat_len {w0 : ByteArray} {P : Ps} (h : eatB w0 P = true) : (nextP P).1.length + 1 = P.1.length := by
  obtain ⟨l, b⟩ := P
  cases l with
  | nil => cases h
  | cons x l => rfl
theorem eatP_len (w0 : ByteArray) (P : Ps) : (eatP w0 P).1.length ≤ P.1.length := by
  unfold eatP
  split
  · exact nextP_len P
  · exact Nat.le_refl _
theorem failP_len (P : Ps) : failP.1.length ≤ P.1.length := Nat.zero_le _
theorem wantP_len (w0 : ByteArray) (P : Ps) : (wantP w0 P).1.length ≤ P.1.length := by
  unfold wantP
  split
  · exact nextP_len P
  · exact failP_len P
theorem nameP_len (P : Ps) : (nameP P).1.length ≤ P.1.length := by
  unfold nameP
  split
  · exact nextP_len P
  · exact failP_len P
theorem litP_len (P : Ps) : (litP P).1.length ≤ P.1.length := by
  unfold litP
  split
  · exact nextP_len P
  · exact failP_len P
/-- A list of things parted by a sign. -/
def loopP {α : Type} (body : Ps → Ps × α) (sep : ByteArray) : Nat → Ps → List α → Ps × List α
  | 0, P, l => (P, l)
  | f + 1, P, l => if eatB sep (body P).1 = true then loopP body sep f (nextP (body P).1) (l ++ [(body P).2]) else ((body P).1, l ++ [(body P).2])
def listP {α : Type} (body : Ps → Ps × α) (sep : ByteArray) (P : Ps) (l : List α) : Ps × List α := loopP body sep (P.1.length + 1) P l
section
variable {α : Type} {body : Ps → Ps × α} {sep : ByteArray}
theorem loopP_more (hb : ∀ P, (body P).1.1.length ≤ P.1.length) : ∀ f g P l, P.1.length < f → P.1.length < g → loopP body sep f P l = loopP body sep g P l
  | 0, g, P, l, h, _ => by omega
  | f + 1, 0, P, l, _, h => by omega
  | f + 1, g + 1, P, l, h1, h2 => by
    unfold loopP
    by_cases c : eatB sep (body P).1 = true
    · rw [if_pos c, if_pos c]
      have e := eat_len c
      have h := hb P
      exact loopP_more hb f g _ _ (by omega) (by omega)
    · rw [if_neg c, if_neg c]
theorem listP_step (hb : ∀ P, (body P).1.1.length ≤ P.1.length) (P : Ps) (l : List α) : listP body sep P l = if eatB sep (body P).1 = true then listP body sep (nextP (body P).1) (l ++ [(body P).2]) else ((body P).1, l ++ [(body P).2]) := by
  have e0 : listP body sep P l = if eatB sep (body P).1 = true then loopP body sep P.1.length (nextP (body P).1) (l ++ [(body P).2]) else ((body P).1, l ++ [(body P).2]) := rfl
  rw [e0]
  by_cases c : eatB sep (body P).1 = true
  · rw [if_pos c, if_pos c]
    have e := eat_len c
    have h := hb P
    exact loopP_more hb _ _ _ _ (by omega) (by omega)
  · rw [if_neg c, if_neg c]
theorem listP_len (hb : ∀ P, (body P).1.1.length ≤ P.1.length) : ∀ f P l, (loopP body sep f P l).1.1.length ≤ P.1.length ∧ (loopP body sep f P l).2.length ≤ l.length + f
  | 0, P, l => ⟨Nat.le_refl _, Nat.le_refl _⟩
  | f + 1, P, l => by
    unfold loopP
    have h := hb P
    split
    · next c =>
      have e := eat_len c
      have := listP_len hb f (nextP (body P).1) (l ++ [(body P).2])
      simp at this ⊢
      omega
    · simp
      omega
end
def wAND : ByteArray := ⟨#[65, 78, 68]⟩
def wWHERE : ByteArray := ⟨#[87, 72, 69, 82, 69]⟩
def wCOMMA : ByteArray := ⟨#[44]⟩
/-- name op lit. -/
def cmpP (P : Ps) : Ps × Cm :=
  (litP (if opV (nameP P) = 0 then failP else nextP (nameP P)), ⟨nameV P, opV (nameP P), litV (if opV (nameP P) = 0 then failP else nextP (nameP P))⟩)
theorem cmpP_len (P : Ps) : (cmpP P).1.1.length ≤ P.1.length := by
  unfold cmpP
  refine Nat.le_trans (litP_len _) ?_
  split
  · exact failP_len P
  · exact Nat.le_trans (nextP_len _) (nameP_len P)
def whereP (P : Ps) (st : St) : Ps × St := if eatB wWHERE P = true then ((listP cmpP wAND (nextP P) st.wh).1, { st with wh := (listP cmpP wAND (nextP P) st.wh).2 }) else (P, st)
end Go.Proofs.Qxb6500412aGreat
