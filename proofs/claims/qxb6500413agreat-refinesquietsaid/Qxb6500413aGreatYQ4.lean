/-
  OWN WORK. THE TABLE LAW: Play.
-/
import Derived.Test.Qxb6500413aGreatYQ1
import Derived.Test.Qxb6500413aGreatYQ2
import Derived.Test.Qxb6500413aGreatYQ3
namespace Go.Proofs.Qxb6500413aGreat
open Go.RowKit Go.PlainAid
set_option linter.unusedSimpArgs false
set_option linter.unusedVariables false

def cmB (ok : Int) (op : Bool) : Bool := decide (ok = 2) && op
section
variable {lo : Nat} {w : World} {q : Gnd} {x z : Nat} {op : Bool} {S C : Vu} {T TC : List (Tb × Hd)} {U : Db} {H : Nat → Prop}
theorem YR.wide {e : Ending} {w' : World} {cm : Bool} (h : YR lo w q x z TC U H false e w') : YR lo w q x z TC U H cm e w' := by
  obtain ⟨he, q', op', S', C', T', TC', hist', H', J, hq, hH, oo⟩ := h
  refine ⟨he, q', op', S', C', T', TC', hist', H', J, ?_, hH, oo⟩
  rcases hq with h | ⟨h1, _⟩
  · exact .inl h
  · cases h1
theorem yplay_any (J : YJ lo w q x z op S C T TC U none H) (hrc : q.recs.length ≤ 300) (ok a bb cc : Int) (s t : ByteArray) (hT : t.size ≤ maxLen) : Calls Tryz.prog 25 #[.pointer (some ⟨x, 0, none⟩), .pointer (some ⟨z, 0, none⟩), opA ok a bb cc s t] w (YR lo w q x z TC U H (cmB ok op)) := by
  have wide : ∀ {P : Ending → World → Prop}, P = YR lo w q x z TC U H false → Calls Tryz.prog 25 #[.pointer (some ⟨x, 0, none⟩), .pointer (some ⟨z, 0, none⟩), opA ok a bb cc s t] w P → Calls Tryz.prog 25 #[.pointer (some ⟨x, 0, none⟩), .pointer (some ⟨z, 0, none⟩), opA ok a bb cc s t] w (YR lo w q x z TC U H (cmB ok op)) := by
    rintro P rfl h
    exact h.mono (fun _ _ h => h.wide)
  by_cases h : ∀ i : Int, 1 ≤ i → i ≤ 15 → ok ≠ i
  · exact wide rfl (yplayX J ok h a bb cc s t hT)
  · have h1 : 1 ≤ ok ∧ ok ≤ 15 := by
      refine Classical.byContradiction (fun c => h (fun i a b e => c ⟨by omega, by omega⟩))
    have : ok = 1 ∨ ok = 2 ∨ ok = 3 ∨ ok = 4 ∨ ok = 5 ∨ ok = 6 ∨ ok = 7 ∨ ok = 8 ∨ ok = 9 ∨ ok = 10 ∨ ok = 11 ∨ ok = 12 ∨ ok = 13 ∨ ok = 14 ∨ ok = 15 := by omega
    rcases this with rfl | rfl | rfl | rfl | rfl | rfl | rfl | rfl | rfl | rfl | rfl | rfl | rfl | rfl | rfl
    · cases op with
      | true => exact wide rfl (yplay1_open J a bb cc s t hT)
      | false => exact wide rfl (yplay1_shut J a bb cc s t hT)
    · cases op with
      | true => exact yplay2_open J hrc a bb cc s t hT
      | false => exact wide rfl (yplay2_shut J a bb cc s t hT)
    · cases op with
      | true => exact wide rfl (yplay3_open J a bb cc s t hT)
      | false => exact wide rfl (yplay3_shut J a bb cc s t hT)
    · cases op with
      | true => exact wide rfl (yplay4_open J a bb cc s t hT)
      | false => exact wide rfl (yplay4_shut J a bb cc s t hT)
    · cases op with
      | true => exact wide rfl (yplay5_open J a bb cc s t hT)
      | false => exact wide rfl (yplay5_shut J a bb cc s t hT)
    · cases op with
      | true => exact wide rfl (yplay6_open J a bb cc s t hT)
      | false => exact wide rfl (yplay6_shut J a bb cc s t hT)
    · cases op with
      | true => exact wide rfl (yplay7_open J a bb cc s t hT)
      | false => exact wide rfl (yplay7_shut J a bb cc s t hT)
    · cases op with
      | true => exact wide rfl (yplay8_open J a bb cc s t hT)
      | false => exact wide rfl (yplay8_shut J a bb cc s t hT)
    · cases op with
      | true => exact wide rfl (yplay9_open J a bb cc s t hT)
      | false => exact wide rfl (yplay9_shut J a bb cc s t hT)
    · exact wide rfl (yplay10 J a bb cc s t hT)
    · exact wide rfl (yplay11 J a bb cc s t hT)
    · exact wide rfl (yplay12 J a bb cc s t hT)
    · exact wide rfl (yplay13 J a bb cc s t hT)
    · exact wide rfl (yplay14 J a bb cc s t hT)
    · exact wide rfl (yplay15 J a bb cc s t hT)
end
end Go.Proofs.Qxb6500413aGreat
