/-
  OWN WORK. TXN: slotOf, freeSlot, barred.
-/
import Derived.Test.Qxb6500412aGreatX1
namespace Go.Proofs.Qxb6500412aGreat
open Go.RowKit Go.PlainAid
set_option linter.unusedSimpArgs false
set_option linter.unusedVariables false

section
variable {w : World} {g t : Nat} {X : Xs}
/-- The slot bears the name. -/
def Xs.bears (X : Xs) (nm : ByteArray) (i : Nat) : Prop := X.us i = true ∧ X.nm i = nm
/-- The lowest slot that bears the name, or -1. -/
def SlR (X : Xs) (nm : ByteArray) (r : Int) : Prop := (r = -1 ∧ ∀ i, i < 3 → ¬ X.bears nm i) ∨ ∃ i : Nat, i < 3 ∧ r = i ∧ X.bears nm i ∧ ∀ j, j < i → ¬ X.bears nm j
set_option maxRecDepth 100000 in
theorem xslotOf_any (H : XH w g t X) (nm : ByteArray) : Calls Tryz.prog 200 #[.pointer (some ⟨g, 0, none⟩), .string nm] w fun e w' => ∃ r, e = .returned (.int .i64 r) ∧ SlR X nm r ∧ w = w' := by
  have HG := hide H
  have kl := H.lt
  clear H
  go_enter Tryz.func200, Tryz.ntmps200
  go_upto_region 2 with fail
  go_loop [5] (fun jv => ∃ i : Nat, jv = .int .i64 i ∧ i ≤ 3 ∧ ∀ j, j < i → ¬ X.bears nm j) (fun jv => 4 - (intOf jv).toNat)
  case atStart => exact ⟨0, rfl, by omega, fun j hj => by omega⟩
  case round =>
    obtain ⟨i, rfl, hi, hne⟩ := hrel
    have HN := hide hne
    clear hne
    by_cases hs : i < 3
    · have a1 : decide ((i : Int) < 3) = true := decide_eq_true (by omega)
      have i3 : (i : Int) < 3 := by omega
      have d0 := (unhide HG).used hs
      have d1 := (unhide HG).name hs
      obtain ⟨b, hb⟩ : ∃ b : Bool, X.us i = b := ⟨_, rfl⟩
      rw [hb] at d0
      cases b with
      | false =>
        have HN2 := hide (show ∀ j, j < i + 1 → ¬ X.bears nm j from fun j hj => by
          by_cases e : j = i
          · subst e; intro h; have h1 := h.1; rw [hb] at h1; cases h1
          · exact unhide HN j (by omega))
        clear hb
        go_wp2_with fail
        go_round
        case rel => exact ⟨i + 1, by go_num, by omega, unhide HN2⟩
        case measure => simp [intOf]; omega
      | true =>
        by_cases h2 : X.nm i = nm
        · have b2 := seq_t h2
          have RR := hide (show SlR X nm i from .inr ⟨i, hs, rfl, ⟨hb, h2⟩, unhide HN⟩)
          clear h2 hb
          go_wp2_with fail
          go_ret
          exact ⟨_, rfl, unhide RR, rfl⟩
        · have b2 := seq_f h2
          have HN2 := hide (show ∀ j, j < i + 1 → ¬ X.bears nm j from fun j hj => by
            by_cases e : j = i
            · subst e; exact fun h => h2 h.2
            · exact unhide HN j (by omega))
          clear h2 hb
          go_wp2_with fail
          go_round
          case rel => exact ⟨i + 1, by go_num, by omega, unhide HN2⟩
          case measure => simp [intOf]; omega
    · obtain rfl : i = 3 := by omega
      have RR := hide (show SlR X nm (-1) from .inl ⟨rfl, unhide HN⟩)
      go_wp2_with fail
      go_ret
      exact ⟨_, rfl, unhide RR, rfl⟩
/-- The lowest free slot, or -1. -/
def FsR (X : Xs) (r : Int) : Prop := (r = -1 ∧ ∀ i, i < 3 → X.us i = true) ∨ ∃ i : Nat, i < 3 ∧ r = i ∧ X.us i = false
set_option maxRecDepth 100000 in
theorem xfreeSlot_any (H : XH w g t X) : Calls Tryz.prog 347 #[.pointer (some ⟨g, 0, none⟩)] w fun e w' => ∃ r, e = .returned (.int .i64 r) ∧ FsR X r ∧ w = w' := by
  have HG := hide H
  have kl := H.lt
  clear H
  go_enter Tryz.func347, Tryz.ntmps347
  go_upto_region 2 with fail
  go_loop [3] (fun jv => ∃ i : Nat, jv = .int .i64 i ∧ i ≤ 3 ∧ ∀ j, j < i → X.us j = true) (fun jv => 4 - (intOf jv).toNat)
  case atStart => exact ⟨0, rfl, by omega, fun j hj => by omega⟩
  case round =>
    obtain ⟨i, rfl, hi, hne⟩ := hrel
    have HN := hide hne
    clear hne
    by_cases hs : i < 3
    · have a1 : decide ((i : Int) < 3) = true := decide_eq_true (by omega)
      have i3 : (i : Int) < 3 := by omega
      have d0 := (unhide HG).used hs
      obtain ⟨b, hb⟩ : ∃ b : Bool, X.us i = b := ⟨_, rfl⟩
      rw [hb] at d0
      cases b with
      | true =>
        have HN2 := hide (show ∀ j, j < i + 1 → X.us j = true from fun j hj => by
          by_cases e : j = i
          · subst e; exact hb
          · exact unhide HN j (by omega))
        clear hb
        go_wp2_with fail
        go_round
        case rel => exact ⟨i + 1, by go_num, by omega, unhide HN2⟩
        case measure => simp [intOf]; omega
      | false =>
        have RR := hide (show FsR X i from .inr ⟨i, hs, rfl, hb⟩)
        clear hb
        go_wp2_with fail
        go_ret
        exact ⟨_, rfl, unhide RR, rfl⟩
    · obtain rfl : i = 3 := by omega
      have RR := hide (show FsR X (-1) from .inl ⟨rfl, unhide HN⟩)
      go_wp2_with fail
      go_ret
      exact ⟨_, rfl, unhide RR, rfl⟩
/-- Session o bars (s, mode) from slot i. -/
def Xs.bar1 (X : Xs) (i : Nat) (s mode : Int) (o : Nat) : Prop := (o : Int) ≠ s ∧ (X.md i o = 2 ∨ (mode = 2 ∧ X.md i o ≠ 0))
instance (X : Xs) (i : Nat) (s mode : Int) (o : Nat) : Decidable (X.bar1 i s mode o) := by unfold Xs.bar1; infer_instance
def Xs.bar (X : Xs) (i : Nat) (s mode : Int) : Bool := decide (X.bar1 i s mode 0 ∨ X.bar1 i s mode 1 ∨ X.bar1 i s mode 2 ∨ X.bar1 i s mode 3)
theorem Xs.bar_yes {i : Nat} {s mode : Int} {o : Nat} (ho : o < 4) (h : X.bar1 i s mode o) : X.bar i s mode = true := by
  unfold Xs.bar
  refine decide_eq_true ?_
  obtain rfl | rfl | rfl | rfl : o = 0 ∨ o = 1 ∨ o = 2 ∨ o = 3 := by omega
  · exact .inl h
  · exact .inr (.inl h)
  · exact .inr (.inr (.inl h))
  · exact .inr (.inr (.inr h))
theorem Xs.bar_no {i : Nat} {s mode : Int} (h : ∀ o, o < 4 → ¬ X.bar1 i s mode o) : X.bar i s mode = false := by
  unfold Xs.bar
  refine decide_eq_false ?_
  rintro (e | e | e | e)
  · exact h 0 (by omega) e
  · exact h 1 (by omega) e
  · exact h 2 (by omega) e
  · exact h 3 (by omega) e
theorem Xs.bar_iff {i : Nat} {s mode : Int} : X.bar i s mode = true ↔ ∃ o, o < 4 ∧ X.bar1 i s mode o := by
  constructor
  · intro h
    by_cases hx : ∃ o, o < 4 ∧ X.bar1 i s mode o
    · exact hx
    · rw [Xs.bar_no (fun o ho h1 => hx ⟨o, ho, h1⟩)] at h; cases h
  · rintro ⟨o, ho, h⟩
    exact Xs.bar_yes ho h
set_option maxRecDepth 100000 in
set_option maxHeartbeats 2000000 in
theorem xbarred_any (H : XH w g t X) {i : Nat} (hi3 : i < 3) (s mode : Int) : Calls Tryz.prog 301 #[.pointer (some ⟨g, 0, none⟩), .int .i64 (i : Int), .int .i64 s, .int .i64 mode] w fun e w' => e = .returned (.bool (X.bar i s mode)) ∧ w = w' := by
  have HG := hide H
  have kl := H.lt
  have i3 : (i : Int) < 3 := by omega
  obtain ⟨R, hR⟩ : ∃ b : Bool, X.bar i s mode = b := ⟨_, rfl⟩
  rw [hR]
  have HR := hide hR
  clear H hR
  go_enter Tryz.func301, Tryz.ntmps301
  go_upto_region 2 with fail
  go_loop [9] (fun jv => ∃ o : Nat, jv = .int .i64 o ∧ o ≤ 4 ∧ ∀ j, j < o → ¬ X.bar1 i s mode j) (fun jv => 5 - (intOf jv).toNat)
  case atStart => exact ⟨0, rfl, by omega, fun j hj => by omega⟩
  case round =>
    obtain ⟨o, rfl, ho, hne⟩ := hrel
    have HN := hide hne
    clear hne
    by_cases hs : o < 4
    · have a1 : decide ((o : Int) < 4) = true := decide_eq_true (by omega)
      have o4 : (o : Int) < 4 := by omega
      have d0 := (unhide HG).mode hi3 hs
      have next : ¬ X.bar1 i s mode o → ∀ j, j < o + 1 → ¬ X.bar1 i s mode j := fun h j hj => by
        by_cases e : j = o
        · subst e; exact h
        · exact unhide HN j (by omega)
      by_cases h1 : (o : Int) = s
      · have b1 : ((o : Int) != s) = false := by simp [h1]
        have HN2 := hide (next (fun h => h.1 h1))
        clear h1 next
        go_wp2_with fail
        go_round
        case rel => exact ⟨o + 1, by go_num, by omega, unhide HN2⟩
        case measure => simp [intOf]; omega
      · have b1 : ((o : Int) != s) = true := by simpa using h1
        obtain ⟨z, hz⟩ : ∃ z : Int, X.md i o = z := ⟨_, rfl⟩
        rw [hz] at d0
        by_cases h2 : z = 2
        · subst h2
          have RR : R = true := by rw [← unhide HR]; exact Xs.bar_yes hs ⟨h1, .inl hz⟩
          subst RR
          clear h1 hz next
          go_wp2_with fail
          go_ret
          exact ⟨rfl, rfl⟩
        · have b2 : (z == 2) = false := ne_intO h2
          by_cases h3 : mode = 2
          · subst h3
            by_cases h4 : z = 0
            · subst h4
              have HN2 := hide (next (fun h => h.2.elim (fun e => by rw [hz] at e; omega) (fun e => e.2 hz)))
              clear h1 hz next h2
              go_wp2_with fail
              go_round
              case rel => exact ⟨o + 1, by go_num, by omega, unhide HN2⟩
              case measure => simp [intOf]; omega
            · have b4 : (z != 0) = true := by simpa using h4
              have RR : R = true := by rw [← unhide HR]; exact Xs.bar_yes hs ⟨h1, .inr ⟨rfl, by rw [hz]; exact h4⟩⟩
              subst RR
              clear h1 hz next h2 h4
              go_wp2_with fail
              go_ret
              exact ⟨rfl, rfl⟩
          · have b3 : (mode == 2) = false := ne_intO h3
            have HN2 := hide (next (fun h => h.2.elim (fun e => h2 (hz.symm.trans e)) (fun e => h3 e.1)))
            clear h1 hz next h2 h3
            go_wp2_with fail
            go_round
            case rel => exact ⟨o + 1, by go_num, by omega, unhide HN2⟩
            case measure => simp [intOf]; omega
    · obtain rfl : o = 4 := by omega
      have RR : R = false := by rw [← unhide HR]; exact Xs.bar_no (unhide HN)
      subst RR
      go_wp2_with fail
      go_ret
      exact ⟨rfl, rfl⟩
end
end Go.Proofs.Qxb6500412aGreat
