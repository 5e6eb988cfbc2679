/-
  OWN WORK. THE MODEL walm.Log: its memory; what reads it.
-/
import Derived.Test.Qxb6500415aLaw2
namespace Go.Proofs.Qxb6500415a
open Go.RowKit
set_option linter.unusedSimpArgs false
set_option linter.unusedVariables false

/-- The model's record: no Commit since the mark, or one. -/
def HistAt (w : World) (hv : Value) (b1 : Nat) (F : Nat → Prop) : Option (List ByteArray) → Prop
  | none => w.ownsRow 0 40 1 hv 0 []
  | some X => ∃ hk, w.ownsRow 0 40 1 hv 1 [.slice (some ⟨hk, 0, none⟩) 80 80] ∧ Has w hk (strs X) 60 ∧ hk ≠ b1 ∧ F hk ∧ X.length = 80

def histLen : Option (List ByteArray) → Nat
  | none => 0
  | some _ => 1

structure MLogAt (w : World) (m : Nat) (com cur : List ByteArray) (dirty : List Bool) (n : Nat) (op : Bool) (base : List ByteArray) (hist : Option (List ByteArray)) (F : Nat → Prop) : Prop where
  ex : ∃ b0 b1 b2 b5 hv, Has w m #[.slice (some ⟨b0, 0, none⟩) 80 80, .slice (some ⟨b1, 0, none⟩) 80 80, .slice (some ⟨b2, 0, none⟩) 80 80, .int .i64 n, .bool op, .slice (some ⟨b5, 0, none⟩) 80 80, hv] 74 ∧
    Has w b0 (strs com) 60 ∧ Has w b1 (strs cur) 60 ∧ Has w b2 (bools dirty) 4 ∧ Has w b5 (strs base) 60 ∧ HistAt w hv b1 F hist ∧ b0 ≠ b1 ∧ b5 ≠ b1 ∧ F m ∧ F b0 ∧ F b1 ∧ F b2 ∧ F b5 ∧ ∀ k, hv.ownBlock = some k → F k
  l0 : com.length = 80
  l1 : cur.length = 80
  l2 : dirty.length = 80
  l5 : base.length = 80
  inn : ∀ k, F k → k < w.heap.size

theorem HistAt.own {w : World} {hv : Value} {b1 : Nat} {F : Nat → Prop} {hist : Option (List ByteArray)} (h : HistAt w hv b1 F hist) : ∃ n xs, w.ownsRow 0 40 1 hv n xs ∧ n = histLen hist := by
  cases hist with
  | none => exact ⟨0, [], h, rfl⟩
  | some X => obtain ⟨hk, h1, _⟩ := h; exact ⟨1, _, h1, rfl⟩

theorem HistAt.keep {S F : Nat → Prop} {w w' : World} {hv : Value} {b1 : Nat} {hist : Option (List ByteArray)} (h : HistAt w hv b1 F hist) (ho : Only S w w') (hS : ∀ k, F k → ¬ S k) (hF : ∀ k, hv.ownBlock = some k → F k) : HistAt w' hv b1 F hist := by
  cases hist with
  | none => exact ownsRow_keep h ho (fun k hk => hS k (hF k hk))
  | some X =>
    obtain ⟨hk, h1, h2, h3, h4, h5⟩ := h
    exact ⟨hk, ownsRow_keep h1 ho (fun k hk => hS k (hF k hk)), h2.keep ho (hS _ h4), h3, h4, h5⟩

theorem HistAt.keep' {S F : Nat → Prop} {w w' : World} {hv : Value} {b1 : Nat} {hist : Option (List ByteArray)} (h : HistAt w hv b1 F hist) (ho : Only S w w') (hb : ∀ k, hv.ownBlock = some k → ¬ S k) (hS : ∀ k c, Has w k c 60 → k ≠ b1 → ¬ S k) : HistAt w' hv b1 F hist := by
  cases hist with
  | none => exact ownsRow_keep h ho hb
  | some X =>
    obtain ⟨hk, h1, h2, h3, h4, h5⟩ := h
    exact ⟨hk, ownsRow_keep h1 ho hb, h2.keep ho (hS _ _ h2 h3), h3, h4, h5⟩

theorem HistAt.mono {F G : Nat → Prop} {w : World} {hv : Value} {b1 : Nat} {hist : Option (List ByteArray)} (h : HistAt w hv b1 F hist) (hG : ∀ k, F k → G k) : HistAt w hv b1 G hist := by
  cases hist with
  | none => exact h
  | some X =>
    obtain ⟨hk, h1, h2, h3, h4, h5⟩ := h
    exact ⟨hk, h1, h2, h3, hG _ h4, h5⟩

section
variable {w : World} {m : Nat} {com cur : List ByteArray} {dirty : List Bool} {n : Nat} {op : Bool} {base : List ByteArray} {hist : Option (List ByteArray)} {F : Nat → Prop}

theorem MLogAt.keep {S : Nat → Prop} {w' : World} (h : MLogAt w m com cur dirty n op base hist F) (ho : Only S w w') (hS : ∀ k, F k → ¬ S k) : MLogAt w' m com cur dirty n op base hist F := by
  obtain ⟨⟨b0, b1, b2, b5, hv, h1, h2, h3, h4, h5, h6, n0, n5, f, f0, f1, f2, f5, fh⟩, l0, l1, l2, l5, hi⟩ := h
  exact ⟨⟨b0, b1, b2, b5, hv, h1.keep ho (hS _ f), h2.keep ho (hS _ f0), h3.keep ho (hS _ f1), h4.keep ho (hS _ f2), h5.keep ho (hS _ f5), h6.keep ho hS fh, n0, n5, f, f0, f1, f2, f5, fh⟩, l0, l1, l2, l5, fun k hk => Nat.lt_of_lt_of_le (hi k hk) ho.size⟩

theorem MLogAt.mono {G : Nat → Prop} (h : MLogAt w m com cur dirty n op base hist F) (hG : ∀ k, F k → G k) (hi' : ∀ k, G k → k < w.heap.size) : MLogAt w m com cur dirty n op base hist G := by
  obtain ⟨⟨b0, b1, b2, b5, hv, h1, h2, h3, h4, h5, h6, n0, n5, f, f0, f1, f2, f5, fh⟩, l0, l1, l2, l5, hi⟩ := h
  exact ⟨⟨b0, b1, b2, b5, hv, h1, h2, h3, h4, h5, h6.mono hG, n0, n5, hG _ f, hG _ f0, hG _ f1, hG _ f2, hG _ f5, fun k hk => hG _ (fh k hk)⟩, l0, l1, l2, l5, hi'⟩

theorem mintxn_any (h : MLogAt w m com cur dirty n op base hist F) :
    Calls Try.prog 73 #[.pointer (some ⟨m, 0, none⟩)] w fun e w' => e = .returned (.bool op) ∧ w = w' := by
  obtain ⟨⟨b0, b1, b2, b5, hv, h1, _⟩, _⟩ := h
  have c := h1.cell 4
  go_enter Try.func73, Try.ntmps73
  go_wp2
  go_ret
  exact ⟨rfl, rfl⟩

theorem mpending_any (h : MLogAt w m com cur dirty n op base hist F) :
    Calls Try.prog 29 #[.pointer (some ⟨m, 0, none⟩)] w fun e w' => e = .returned (.int .i64 n) ∧ w = w' := by
  obtain ⟨⟨b0, b1, b2, b5, hv, h1, _⟩, _⟩ := h
  have c := h1.cell 3
  go_enter Try.func29, Try.ntmps29
  go_wp2
  go_ret
  exact ⟨rfl, rfl⟩

set_option maxRecDepth 100000 in
theorem mread_in (h : MLogAt w m com cur dirty n op base hist F) (b : Nat) (hb : b < 80) :
    Calls Try.prog 74 #[.pointer (some ⟨m, 0, none⟩), .int .i64 b] w fun e w' => e = .returned (.tuple #[.string (cur.getD b emptyB), .int .i64 0]) ∧ w = w' := by
  obtain ⟨⟨b0, b1, b2, b5, hv, h1, h2, h3, _⟩, l0, l1, _⟩ := h
  have c := h1.cell 1
  have p := h3.cell b
  rw [strs_get _ _ (by omega)] at p
  have e1 : cur.getD b emptyB = cur[b] := by simp [List.getD_eq_getElem?_getD, l1, hb]
  rw [e1]
  clear e1
  have hneg : decide ((b : Int) < 0) = false := by simp
  have hge : decide (80 ≤ (b : Int)) = false := by simp; omega
  go_enter Try.func74, Try.ntmps74
  go_wp2
  go_ret2
  exact ⟨rfl, rfl⟩

theorem mread_out (m : Nat) (w : World) (b : Int) (hb : ¬ (0 ≤ b ∧ b < 80)) :
    Calls Try.prog 74 #[.pointer (some ⟨m, 0, none⟩), .int .i64 b] w fun e w' => e = .returned (.tuple #[.string emptyB, .int .i64 1]) ∧ w = w' := by
  by_cases h0 : b < 0
  · have h0' : decide (b < 0) = true := by simpa using h0
    go_enter Try.func74, Try.ntmps74
    go_wp2
    go_ret2
    exact ⟨rfl, rfl⟩
  · have h0' : decide (b < 0) = false := by simpa using h0
    have h8 : 80 ≤ b := by omega
    go_enter Try.func74, Try.ntmps74
    go_wp2
    go_ret2
    exact ⟨rfl, rfl⟩

set_option maxRecDepth 100000 in
theorem mdirty_in (h : MLogAt w m com cur dirty n op base hist F) (b : Nat) (hb : b < 80) :
    Calls Try.prog 76 #[.pointer (some ⟨m, 0, none⟩), .int .i64 b] w fun e w' => e = .returned (.bool (dirty.getD b false)) ∧ w = w' := by
  obtain ⟨⟨b0, b1, b2, b5, hv, h1, h2, h3, h4, _⟩, l0, l1, l2, _⟩ := h
  have c := h1.cell 2
  have p := h4.cell b
  rw [bools_get _ _ (by omega)] at p
  have e1 : dirty.getD b false = dirty[b] := by simp [List.getD_eq_getElem?_getD, l2, hb]
  rw [e1]
  clear e1
  have hb8 : (b : Int) < 80 := by omega
  have hge : decide (0 ≤ (b : Int)) = true := by simp
  have hlt : decide ((b : Int) < 80) = true := by simp; omega
  go_enter Try.func76, Try.ntmps76
  go_wp2
  go_ret
  exact ⟨rfl, rfl⟩

theorem mdirty_out (m : Nat) (w : World) (b : Int) (hb : ¬ (0 ≤ b ∧ b < 80)) :
    Calls Try.prog 76 #[.pointer (some ⟨m, 0, none⟩), .int .i64 b] w fun e w' => e = .returned (.bool false) ∧ w = w' := by
  by_cases h0 : 0 ≤ b
  · have h0' : decide (0 ≤ b) = true := by simpa using h0
    have h8 : decide (b < 80) = false := by simp; omega
    go_enter Try.func76, Try.ntmps76
    go_wp2
    go_ret
    exact ⟨rfl, rfl⟩
  · have h0' : decide (0 ≤ b) = false := by simpa using h0
    go_enter Try.func76, Try.ntmps76
    go_wp2
    go_ret
    exact ⟨rfl, rfl⟩
end

end Go.Proofs.Qxb6500415a
