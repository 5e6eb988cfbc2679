/-
  OWN WORK. THE ENGINE: reset.
-/
import Derived.Test.Qxb6500416aDEng
namespace Go.Proofs.Qxb6500416a
open Go.RowKit Go.PlainAid
set_option linter.unusedSimpArgs false
set_option linter.unusedVariables false

section
variable {w : World} {e : Nat} {L : List Str} {F : Nat → Prop}
set_option maxRecDepth 100000 in
set_option maxHeartbeats 1000000 in
theorem dreset_any (h : EP w e L F) :
    Calls Try.prog 38 #[.pointer (some ⟨e, 0, none⟩)] w fun x w' => x = .returned (.tuple #[]) ∧ EP w' e [] F ∧ Only (fun k => k = e) w w' := by
  obtain ⟨⟨hd, lv, sv, nv, h1, h2, h3, h4, h5, h6, h7⟩, h8, h9, h10⟩ := h
  obtain ⟨c2, b2⟩ := own_cut0 h2
  obtain ⟨c3, b3⟩ := own_cut0 h3
  obtain ⟨c4, b4⟩ := own_cut0 h4
  obtain ⟨la, lc, rfl⟩ := ownsRow_shape h2
  obtain ⟨sa, sc, rfl⟩ := ownsRow_shape h3
  obtain ⟨na, nc, rfl⟩ := ownsRow_shape h4
  have hel := h1.lt
  simp only [cut0] at c2 c3 c4 b2 b3 b4
  have n2 : ∀ y, (Value.slice la 0 lc).ownBlock = some y → y ≠ e := fun y hy => (h6 y (.inl (by rw [← b2]; exact hy))).2
  have n3 : ∀ y, (Value.slice sa 0 sc).ownBlock = some y → y ≠ e := fun y hy => (h6 y (.inr (.inl (by rw [← b3]; exact hy)))).2
  have n4 : ∀ y, (Value.slice na 0 nc).ownBlock = some y → y ≠ e := fun y hy => (h6 y (.inr (.inr (by rw [← b4]; exact hy)))).2
  have HE := hide (fun (w' : World) (hd' : Nat → Nat) (hE : EAt w' e hd' (.slice la 0 lc) (.slice sa 0 sc) (.slice na 0 nc)) (hz : ∀ b, b < 8 → hd' b = 0) (ho : Only (fun k => k = e) w w') => (⟨⟨hd', _, _, _, hE, ownsRow_keep c2 ho (fun k hk => n2 k hk), ownsRow_keep c3 ho (fun k hk => n3 k hk), ownsRow_keep c4 ho (fun k hk => n4 k hk), hz, fun y hy => by rw [b2, b3, b4] at hy; exact h6 y hy, fun y hy => by rw [b3] at hy; rw [b4]; exact h7 y hy⟩, h8, fun k hk => Nat.lt_of_lt_of_le (h9 k hk) ho.size, List.nodup_nil⟩ : EP w' e [] F))
  have H1 := hide h1
  clear h1 h2 h3 h4 h5 h6 h7 h8 h9 h10 c2 c3 c4 b2 b3 b4 n2 n3 n4
  go_enter Try.func38, Try.ntmps38
  go_wp2_with fail
  go_loopw [2] (fun iv wr => ∃ (b : Nat) (hd' : Nat → Nat), iv = .int .i64 b ∧ b ≤ 8 ∧ EAt wr e hd' (.slice la _ lc) (.slice sa _ sc) (.slice na _ nc) ∧ (∀ j, j < b → hd' j = 0) ∧ Only (fun k => k = e) w wr) (fun iv _ => (8 - intOf iv).toNat)
  case atStart => exact ⟨0, hd, rfl, by omega, unhide H1, fun j hj => by omega, Only.refl _ _⟩
  case round =>
    clear H1
    obtain ⟨b, hd', rfl, hb, hE, hz, ho⟩ := hrel
    have her := hE.lt
    by_cases hbl : b < 8
    · have a1 : decide ((b : Int) < 8) = true := by simp; omega
      have a2 : (b : Int) < 8 := by omega
      obtain ⟨q0, q1⟩ := hE.head b hbl
      have H2 := hide (hE.setHead b hbl 0)
      have HO := hide (ho.setCell (p := ⟨e, b, none⟩) (fun _ => rfl) (.int .i64 0))
      have hz2 : ∀ j, j < b + 1 → updT hd' b 0 j = 0 := by
        intro j hj
        by_cases ej : j = b
        · rw [ej, updT_same]
        · rw [updT_other _ _ _ _ ej]; exact hz j (by omega)
      have HZ := hide hz2
      clear hE ho hz hz2
      go_wp2_with fail
      go_roundw
      case rel => exact ⟨b + 1, _, by go_num, by omega, unhide H2, unhide HZ, unhide HO⟩
      case measure => simp [intOf]; omega
    · have a1 : decide ((b : Int) < 8) = false := by simp; omega
      have a1' : ¬ (b : Int) < 8 := by omega
      obtain ⟨q8, f8⟩ := hE.line_
      obtain ⟨q9, f9⟩ := hE.sum_
      obtain ⟨q10, f10⟩ := hE.next_
      have H3 := hide (((hE.setLine (.slice la 0 lc)).setSum (.slice sa 0 sc)).setNext (.slice na 0 nc))
      have HO := hide (((ho.setCell (p := ⟨e, 8, none⟩) (fun _ => rfl) (.slice la 0 lc)).setCell (p := ⟨e, 9, none⟩) (fun _ => rfl) (.slice sa 0 sc)).setCell (p := ⟨e, 10, none⟩) (fun _ => rfl) (.slice na 0 nc))
      have hz' : ∀ j, j < 8 → hd' j = 0 := fun j hj => hz j (by omega)
      clear hE ho hz
      go_wp2_with fail
      go_end0
      exact ⟨rfl, unhide HE _ _ (unhide H3) hz' (unhide HO), unhide HO⟩
end
end Go.Proofs.Qxb6500416a
