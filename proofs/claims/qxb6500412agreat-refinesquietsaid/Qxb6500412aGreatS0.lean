/-
  OWN WORK. QUERY, plain: a text cut into tokens. No program in sight.
-/
import Derived.Test.Qxb6500412aGreatEFld
namespace Go.Proofs.Qxb6500412aGreat
open Go.RowKit Go.PlainAid
set_option linter.unusedSimpArgs false
set_option linter.unusedVariables false

def blkC (c : Nat) : Bool := decide (c = 32) || decide (c = 9) || decide (c = 10) || decide (c = 13)
def letC (c : Nat) : Bool := (decide (65 ≤ c) && decide (c ≤ 90)) || (decide (97 ≤ c) && decide (c ≤ 122)) || decide (c = 95)
def digC (c : Nat) : Bool := decide (48 ≤ c) && decide (c ≤ 57)
def wrdC (c : Nat) : Bool := letC c || digC c
def nquC (c : Nat) : Bool := decide (c ≠ 39)
/-- How far the bytes of a kind go. -/
def runF (p : Nat → Bool) (t : ByteArray) : Nat → Nat → Nat
  | 0, i => i
  | f + 1, i => if i < t.size ∧ p (byteAt t i) = true then runF p t f (i + 1) else i
def run (p : Nat → Bool) (t : ByteArray) (i : Nat) : Nat := runF p t (t.size - i) i
section
variable {p : Nat → Bool} {t : ByteArray}
theorem runF_spec : ∀ f i, i + f = t.size ∨ t.size ≤ i → i ≤ t.size → i ≤ runF p t f i ∧ runF p t f i ≤ t.size ∧ (∀ k, i ≤ k → k < runF p t f i → p (byteAt t k) = true) ∧ (runF p t f i < t.size → p (byteAt t (runF p t f i)) = false)
  | 0, i, h, hi => by
    have : i = t.size := by omega
    exact ⟨Nat.le_refl _, hi, fun k h1 h2 => by (have h2' : k < i := h2); omega, fun h2 => by (have h2' : i < t.size := h2); omega⟩
  | f + 1, i, h, hi => by
    unfold runF
    by_cases c : i < t.size ∧ p (byteAt t i) = true
    · rw [if_pos c]
      obtain ⟨h1, h2, h3, h4⟩ := runF_spec f (i + 1) (by omega) (by omega)
      refine ⟨by omega, h2, fun k hk1 hk2 => ?_, h4⟩
      by_cases e : k = i
      · rw [e]; exact c.2
      · exact h3 k (by omega) hk2
    · rw [if_neg c]
      refine ⟨Nat.le_refl _, hi, fun k h1 h2 => by omega, fun h2 => ?_⟩
      cases e : p (byteAt t i) with
      | false => rfl
      | true => exact absurd ⟨h2, e⟩ c
theorem run_spec {i : Nat} (hi : i ≤ t.size) : i ≤ run p t i ∧ run p t i ≤ t.size ∧ (∀ k, i ≤ k → k < run p t i → p (byteAt t k) = true) ∧ (run p t i < t.size → p (byteAt t (run p t i)) = false) := runF_spec _ i (by omega) hi
theorem run_eq {i j : Nat} (hij : i ≤ j) (hj : j ≤ t.size) (h1 : ∀ k, i ≤ k → k < j → p (byteAt t k) = true) (h2 : j < t.size → p (byteAt t j) = false) : run p t i = j := by
  obtain ⟨r1, r2, r3, r4⟩ := run_spec (p := p) (t := t) (i := i) (by omega)
  rcases Nat.lt_trichotomy (run p t i) j with c | c | c
  · have := h1 _ r1 c
    rw [r4 (by omega)] at this
    cases this
  · exact c
  · have := r3 j hij c
    rw [h2 (by omega)] at this
    cases this
/-- The digits' number. -/
def numF (t : ByteArray) (i : Nat) : Nat → Nat
  | 0 => 0
  | n + 1 => numF t i n * 10 + (byteAt t (i + n) - 48)
def numD (t : ByteArray) (i j : Nat) : Nat := numF t i (j - i)
theorem numF_mono (t : ByteArray) (i : Nat) : ∀ {n m : Nat}, n ≤ m → numF t i n ≤ numF t i m := by
  intro n m h
  induction h with
  | refl => exact Nat.le_refl _
  | @step m _ ih =>
    have e : numF t i (m + 1) = numF t i m * 10 + (byteAt t (i + m) - 48) := rfl
    rw [e]
    omega
theorem numD_step {i j : Nat} (h : i ≤ j) : numD t i (j + 1) = numD t i j * 10 + (byteAt t j - 48) := by
  unfold numD
  rw [show j + 1 - i = (j - i) + 1 by omega]
  show numF t i (j - i) * 10 + (byteAt t (i + (j - i)) - 48) = _
  rw [show i + (j - i) = j by omega]
theorem numD_mono {i j k : Nat} (h : j ≤ k) : numD t i j ≤ numD t i k := numF_mono t i (by omega)
theorem numD_nil (i : Nat) : numD t i i = 0 := by unfold numD; rw [Nat.sub_self]; rfl
end
inductive Tk where
  | word (s : ByteArray)
  | num (v : Int)
  | str (s : ByteArray)
  | sign (s : ByteArray)
def numb (t : ByteArray) (i : Nat) : Bool := digC (byteAt t i) || (decide (byteAt t i = 45) && (decide (i + 1 < t.size) && digC (byteAt t (i + 1))))
def twoC (c : Nat) : Bool := decide (c = 60) || decide (c = 62) || decide (c = 33)
def oneC (c : Nat) : Bool := decide (c = 40) || decide (c = 41) || decide (c = 44) || decide (c = 42) || decide (c = 61) || decide (c = 60) || decide (c = 62)
def two (t : ByteArray) (i : Nat) : Bool := twoC (byteAt t i) && (decide (i + 1 < t.size) && decide (byteAt t (i + 1) = 61))
/-- A number that opens at place i. -/
def numA (t : ByteArray) (i : Nat) : Option (Tk × Nat) :=
  if byteAt t i = 45 then (if numD t (i + 1) (run digC t (i + 1)) ≤ 9223372036854775808 then some (.num (-(numD t (i + 1) (run digC t (i + 1)) : Int)), run digC t (i + 1)) else none)
  else (if numD t i (run digC t i) ≤ 9223372036854775807 then some (.num (numD t i (run digC t i) : Int), run digC t i) else none)
/-- The token at place i, where no blank stands, and where it ends. -/
def tokA (t : ByteArray) (i : Nat) : Option (Tk × Nat) :=
  if letC (byteAt t i) = true then some (.word (t.extract i (run wrdC t (i + 1))), run wrdC t (i + 1))
  else if numb t i = true then numA t i
  else if byteAt t i = 39 then (if run nquC t (i + 1) < t.size then some (.str (t.extract (i + 1) (run nquC t (i + 1))), run nquC t (i + 1) + 1) else none)
  else if two t i = true then some (.sign (t.extract i (i + 2)), i + 2)
  else if oneC (byteAt t i) = true then some (.sign (t.extract i (i + 1)), i + 1)
  else none
theorem numb_dig {t : ByteArray} {i : Nat} (h : numb t i = true) (hm : byteAt t i ≠ 45) : digC (byteAt t i) = true := by
  unfold numb at h
  simp only [Bool.or_eq_true, Bool.and_eq_true, decide_eq_true_eq] at h
  rcases h with h | h
  · exact h
  · exact absurd h.1 hm
theorem tokA_end {t : ByteArray} {i : Nat} (hi : i < t.size) {x : Tk × Nat} (h : tokA t i = some x) : i < x.2 ∧ x.2 ≤ t.size := by
  unfold tokA at h
  split at h
  · cases h
    have := run_spec (p := wrdC) (t := t) (i := i + 1) (by omega)
    exact ⟨by simp only; omega, this.2.1⟩
  · split at h
    · next hn =>
      unfold numA at h
      split at h
      · split at h
        · cases h
          have hs : i + 1 ≤ t.size := by omega
          have := run_spec (p := digC) (t := t) (i := i + 1) hs
          exact ⟨by simp only; omega, this.2.1⟩
        · cases h
      · next hm =>
        split at h
        · cases h
          have := run_spec (p := digC) (t := t) (i := i) (by omega)
          refine ⟨?_, this.2.1⟩
          simp only
          rcases Nat.lt_or_ge i (run digC t i) with c | c
          · exact c
          · have e : run digC t i = i := by omega
            have h4 := this.2.2.2 (by omega)
            rw [e, numb_dig hn hm] at h4
            cases h4
        · cases h
    · split at h
      · split at h
        · next hr =>
          cases h
          have := run_spec (p := nquC) (t := t) (i := i + 1) (by omega)
          exact ⟨by simp only; omega, by simp only; omega⟩
        · cases h
      · split at h
        · next h2 =>
          cases h
          unfold two at h2
          simp only [Bool.and_eq_true, decide_eq_true_eq] at h2
          exact ⟨by simp only; omega, by simp only; omega⟩
        · split at h
          · cases h
            exact ⟨by simp only; omega, by simp only; omega⟩
          · cases h
/-- The tokens from place i on, and whether the text could be cut to its end. -/
def lexF (t : ByteArray) : Nat → Nat → List Tk × Bool
  | 0, _ => ([], true)
  | f + 1, i => if run blkC t i < t.size then (match tokA t (run blkC t i) with
      | none => ([], false)
      | some x => ((x.1 :: (lexF t f x.2).1), (lexF t f x.2).2)) else ([], true)
def toks (t : ByteArray) (i : Nat) : List Tk × Bool := lexF t (t.size + 1 - i) i
theorem lexF_more (t : ByteArray) : ∀ f g i, i ≤ t.size → t.size < i + f → t.size < i + g → lexF t f i = lexF t g i
  | 0, g, i, hi, h1, h2 => by omega
  | f + 1, 0, i, hi, h1, h2 => by omega
  | f + 1, g + 1, i, hi, h1, h2 => by
    unfold lexF
    have hr := run_spec (p := blkC) (t := t) (i := i) hi
    by_cases c : run blkC t i < t.size
    · rw [if_pos c, if_pos c]
      cases hx : tokA t (run blkC t i) with
      | none => rfl
      | some x =>
        have he := tokA_end c hx
        simp only
        rw [lexF_more t f g x.2 he.2 (by omega) (by omega)]
    · rw [if_neg c, if_neg c]
theorem toks_end {t : ByteArray} {i : Nat} (hi : i ≤ t.size) (h : t.size ≤ run blkC t i) : toks t i = ([], true) := by
  unfold toks
  rw [show t.size + 1 - i = (t.size - i) + 1 by omega]
  unfold lexF
  rw [if_neg (by omega)]
theorem toks_bad {t : ByteArray} {i : Nat} (hi : i ≤ t.size) (h : run blkC t i < t.size) (hx : tokA t (run blkC t i) = none) : toks t i = ([], false) := by
  unfold toks
  rw [show t.size + 1 - i = (t.size - i) + 1 by omega]
  unfold lexF
  rw [if_pos h, hx]
theorem toks_some {t : ByteArray} {i : Nat} (hi : i ≤ t.size) (h : run blkC t i < t.size) {x : Tk × Nat} (hx : tokA t (run blkC t i) = some x) : toks t i = (x.1 :: (toks t x.2).1, (toks t x.2).2) := by
  have he := tokA_end h hx
  have hr := run_spec (p := blkC) (t := t) (i := i) hi
  have e : toks t i = (x.1 :: (lexF t (t.size - i) x.2).1, (lexF t (t.size - i) x.2).2) := by
    unfold toks
    rw [show t.size + 1 - i = (t.size - i) + 1 by omega]
    have e1 : lexF t (t.size - i + 1) i = if run blkC t i < t.size then (match tokA t (run blkC t i) with
      | none => ([], false)
      | some x => ((x.1 :: (lexF t (t.size - i) x.2).1), (lexF t (t.size - i) x.2).2)) else ([], true) := rfl
    rw [e1, if_pos h, hx]
  rw [e, lexF_more t (t.size - i) (t.size + 1 - x.2) x.2 he.2 (by omega) (by omega)]
  rfl
theorem lexF_len (t : ByteArray) : ∀ f i, i ≤ t.size → (lexF t f i).1.length ≤ t.size - i
  | 0, i, _ => by simp [lexF]
  | f + 1, i, hi => by
    unfold lexF
    have hr := run_spec (p := blkC) (t := t) (i := i) hi
    by_cases c : run blkC t i < t.size
    · rw [if_pos c]
      cases hx : tokA t (run blkC t i) with
      | none => simp
      | some x =>
        have he := tokA_end c hx
        have := lexF_len t f x.2 he.2
        simp
        omega
    · rw [if_neg c]; simp
theorem toks_len {t : ByteArray} {i : Nat} (hi : i ≤ t.size) : (toks t i).1.length ≤ t.size - i := lexF_len t _ i hi
end Go.Proofs.Qxb6500412aGreat
