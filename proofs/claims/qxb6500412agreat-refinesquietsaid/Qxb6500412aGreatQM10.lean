/-
  OWN WORK. QUERY's MODEL: parse: its start; eat where the token is known.
-/
import Derived.Test.Qxb6500412aGreatQM9
namespace Go.Proofs.Qxb6500412aGreat
open Go.RowKit Go.PlainAid
set_option linter.unusedSimpArgs false
set_option linter.unusedVariables false

section
variable {lo : Nat} {w w' : World} {kr ks : Nat} {tv : Value} {l : List Tk} {P P' : Ps} {m : Ms}
theorem smeat_no (h : MRd w kr tv l P) (x : ByteArray) (hx : xOk x) (hp : P.2 = true) (hb : eatB x P = false) : Calls Tryz.prog 264 #[.pointer (some ⟨kr, 0, none⟩), .string x] w fun e w' => e = .returned (.bool false) ∧ MRp kr tv l P w w' := by
  refine (smeat_any h x hx).mono ?_
  rintro e w1 ⟨b, rfl, h1, h2, h3⟩
  have e := h1 hp
  rw [hb] at e
  subst e
  exact ⟨rfl, h3 rfl⟩
theorem smeat_yes (h : MRd w kr tv l P) (x : ByteArray) (hx : xOk x) (hp : P.2 = true) (hb : eatB x P = true) : Calls Tryz.prog 264 #[.pointer (some ⟨kr, 0, none⟩), .string x] w fun e w' => e = .returned (.bool true) ∧ MRp kr tv l (nextP P) w w' := by
  refine (smeat_any h x hx).mono ?_
  rintro e w1 ⟨b, rfl, h1, h2, h3⟩
  have e := h1 hp
  rw [hb] at e
  subst e
  exact ⟨rfl, h2 rfl⟩
/-- The reader and the sentence, just made. -/
theorem MQR.start {t : ByteArray} (hr : Has w kr #[tv, .int .i64 0, .bool false] 325) (ho : OwnT 329 w tv (toks t 0).1) (ht : t.size ≤ 256) (hc : (toks t 0).2 = true) (hs : Has w ks (tabV 12 smz) 253) (h1 : lo ≤ kr) (h2 : lo ≤ ks) : MQR lo w kr ks tv (toks t 0).1 (toks t 0) (Ms.of St.z) := by
  refine ⟨⟨0, false, ⟨hr, ho, Nat.zero_le _, ?_, toks_wd t 0⟩, ?_⟩, h1, Sq.zm, SMM.zero hs h2, fun _ => smz_of, fun j _ => Nat.zero_le _⟩
  · have := toks_len (t := t) (i := 0) (Nat.zero_le _)
    omega
  · rw [if_neg (by decide), List.drop_zero, ← hc]
end
end Go.Proofs.Qxb6500412aGreat
