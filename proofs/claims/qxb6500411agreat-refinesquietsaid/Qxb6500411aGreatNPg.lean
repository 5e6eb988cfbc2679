/-
  OWN WORK. THE MODEL pagerm.Pager: its memory; what reads it.
-/
import Derived.Test.Qxb6500411aGreatNState
namespace Go.Proofs.Qxb6500411aGreat
open Go.RowKit
set_option linter.unusedSimpArgs false
set_option linter.unusedVariables false

/-- The model's record: no Commit since the mark, or one. -/
def NHist (w : World) (hv : Value) (F : Nat → Prop) : Option (List Bool × List ByteArray) → Prop
  | none => w.ownsRow 0 50 1 hv 0 []
  | some X => ∃ hs, w.ownsRow 0 50 1 hv 1 [.pointer (some ⟨hs, 0, none⟩)] ∧ StAt w hs X.1 X.2 F

def nhistLen : Option (List Bool × List ByteArray) → Nat
  | none => 0
  | some _ => 1

structure MPAt (w : World) (q : Nat) (uc : List Bool) (pc : List ByteArray) (um : List Bool) (pm : List ByteArray) (ub : List Bool) (pb : List ByteArray) (hist : Option (List Bool × List ByteArray)) (op : Bool) (F : Nat → Prop) : Prop where
  ex : ∃ s0 s1 s2 hv F0 F1, Has w q #[.pointer (some ⟨s0, 0, none⟩), .pointer (some ⟨s1, 0, none⟩), .pointer (some ⟨s2, 0, none⟩), hv, .bool op] 55 ∧ StAt w s0 uc pc F0 ∧ StAt w s1 um pm F1 ∧ StAt w s2 ub pb F1 ∧ NHist w hv F1 hist ∧ (∀ k, hv.ownBlock = some k → F k ∧ k ≠ q ∧ ¬ F0 k ∧ ¬ F1 k) ∧ F q ∧ (∀ x, F0 x → F x ∧ x ≠ q ∧ ¬ F1 x) ∧ (∀ x, F1 x → F x ∧ x ≠ q)
  inn : ∀ k, F k → k < w.heap.size

theorem NHist.own {w : World} {hv : Value} {F : Nat → Prop} {hist : Option (List Bool × List ByteArray)} (h : NHist w hv F hist) : ∃ n xs, w.ownsRow 0 50 1 hv n xs ∧ n = nhistLen hist := by
  cases hist with
  | none => exact ⟨0, [], h, rfl⟩
  | some X => obtain ⟨hk, h1, _⟩ := h; exact ⟨1, _, h1, rfl⟩
theorem NHist.keep {S F : Nat → Prop} {w w' : World} {hv : Value} {hist : Option (List Bool × List ByteArray)} (h : NHist w hv F hist) (ho : Only S w w') (hS : ∀ k, F k → ¬ S k) (hb : ∀ k, hv.ownBlock = some k → ¬ S k) : NHist w' hv F hist := by
  cases hist with
  | none => exact ownsRow_keep h ho hb
  | some X =>
    obtain ⟨hk, h1, h2⟩ := h
    exact ⟨hk, ownsRow_keep h1 ho hb, h2.keep ho hS⟩
theorem NHist.mono {F G : Nat → Prop} {w : World} {hv : Value} {hist : Option (List Bool × List ByteArray)} (h : NHist w hv F hist) (hG : ∀ k, F k → G k) (hi' : ∀ k, G k → k < w.heap.size) : NHist w hv G hist := by
  cases hist with
  | none => exact h
  | some X =>
    obtain ⟨hk, h1, h2⟩ := h
    exact ⟨hk, h1, h2.mono hG hi'⟩
theorem NHist.shape {w : World} {hv : Value} {F : Nat → Prop} {hist : Option (List Bool × List ByteArray)} (h : NHist w hv F hist) : ∃ a cap, hv = .slice a (nhistLen hist) cap := by
  obtain ⟨n, xs, h1, rfl⟩ := h.own
  exact ownsRow_shape h1

section
variable {w : World} {q : Nat} {uc : List Bool} {pc : List ByteArray} {um : List Bool} {pm : List ByteArray} {ub : List Bool} {pb : List ByteArray} {hist : Option (List Bool × List ByteArray)} {op : Bool} {F : Nat → Prop}

theorem MPAt.keep {S : Nat → Prop} {w' : World} (h : MPAt w q uc pc um pm ub pb hist op F) (ho : Only S w w') (hS : ∀ k, F k → ¬ S k) : MPAt w' q uc pc um pm ub pb hist op F := by
  obtain ⟨⟨s0, s1, s2, hv, F0, F1, h1, h2, h3, h4, h5, fh, f, f0, f1⟩, hi⟩ := h
  exact ⟨⟨s0, s1, s2, hv, F0, F1, h1.keep ho (hS _ f), h2.keep ho (fun x hx => hS x (f0 x hx).1), h3.keep ho (fun x hx => hS x (f1 x hx).1), h4.keep ho (fun x hx => hS x (f1 x hx).1), h5.keep ho (fun x hx => hS x (f1 x hx).1) (fun k hk => hS k (fh k hk).1), fh, f, f0, f1⟩, fun k hk => Nat.lt_of_lt_of_le (hi k hk) ho.size⟩
theorem MPAt.quiet {w' : World} (h : MPAt w q uc pc um pm ub pb hist op F) (ho : Only (fun _ => False) w w') : MPAt w' q uc pc um pm ub pb hist op F := h.keep ho (fun _ _ h => h)
theorem MPAt.mono {G : Nat → Prop} (h : MPAt w q uc pc um pm ub pb hist op F) (hG : ∀ k, F k → G k) (hi' : ∀ k, G k → k < w.heap.size) : MPAt w q uc pc um pm ub pb hist op G := by
  obtain ⟨⟨s0, s1, s2, hv, F0, F1, h1, h2, h3, h4, h5, fh, f, f0, f1⟩, hi⟩ := h
  exact ⟨⟨s0, s1, s2, hv, F0, F1, h1, h2, h3, h4, h5, fun k hk => ⟨hG _ (fh k hk).1, (fh k hk).2⟩, hG _ f, fun x hx => ⟨hG _ (f0 x hx).1, (f0 x hx).2⟩, fun x hx => ⟨hG _ (f1 x hx).1, (f1 x hx).2⟩⟩, hi'⟩
theorem MPAt.lens (h : MPAt w q uc pc um pm ub pb hist op F) : uc.length = 72 ∧ pc.length = 72 ∧ um.length = 72 ∧ pm.length = 72 := by
  obtain ⟨⟨s0, s1, s2, hv, F0, F1, h1, h2, h3, h4, h5, fh, f, f0, f1⟩, hi⟩ := h
  exact ⟨h2.lu, h2.lp, h3.lu, h3.lp⟩

theorem nintxn_any (h : MPAt w q uc pc um pm ub pb hist op F) :
    Calls Tryz.prog 18 #[.pointer (some ⟨q, 0, none⟩)] w fun e w' => e = .returned (.bool op) ∧ w = w' := by
  obtain ⟨⟨s0, s1, s2, hv, F0, F1, h1, _⟩, _⟩ := h
  have c := h1.cell 4
  go_enter Tryz.func18, Tryz.ntmps18
  go_wp2
  go_ret
  exact ⟨rfl, rfl⟩

theorem nused_out (q : Nat) (w : World) (n : Int) (hn : ¬ (1 ≤ n ∧ n < 72)) :
    Calls Tryz.prog 59 #[.pointer (some ⟨q, 0, none⟩), .int .i64 n] w fun e w' => e = .returned (.bool false) ∧ w = w' := by
  by_cases h0 : 1 ≤ n
  · have h0' : decide (1 ≤ n) = true := by simpa using h0
    have h8 : decide (n < 72) = false := by simp; omega
    go_enter Tryz.func59, Tryz.ntmps59
    go_wp2
    go_ret
    exact ⟨rfl, rfl⟩
  · have h0' : decide (1 ≤ n) = false := by simpa using h0
    go_enter Tryz.func59, Tryz.ntmps59
    go_wp2
    go_ret
    exact ⟨rfl, rfl⟩

set_option maxRecDepth 100000 in
theorem nused_in (h : MPAt w q uc pc um pm ub pb hist op F) (n : Nat) (h1 : 1 ≤ n) (hn : n < 72) :
    Calls Tryz.prog 59 #[.pointer (some ⟨q, 0, none⟩), .int .i64 n] w fun e w' => e = .returned (.bool (usedL uc n)) ∧ w = w' := by
  obtain ⟨⟨s0, s1, s2, hv, F0, F1, k1, ⟨⟨b0, b1, g1, g2, g3, f, f0, f1⟩, lu, lp, hi⟩, _⟩, _⟩ := h
  have c0 := k1.cell 0
  have c1 := g1.cell 0
  have p0 := g2.cell n
  rw [bools_get _ _ (by omega)] at p0
  have e1 : usedL uc n = uc[n] := by simp [usedL, List.getD_eq_getElem?_getD, lu, hn]
  rw [e1]
  clear e1
  generalize uc[n] = u at *
  have a1 : decide (1 ≤ (n : Int)) = true := by simp; omega
  have a2 : decide ((n : Int) < 72) = true := by simp; omega
  have hn' : (n : Int) < 72 := by omega
  go_enter Tryz.func59, Tryz.ntmps59
  go_wp2_with fail
  go_ret
  exact ⟨rfl, rfl⟩

theorem nget_out (q : Nat) (w : World) (n : Int) (hn : ¬ (1 ≤ n ∧ n < 72)) :
    Calls Tryz.prog 34 #[.pointer (some ⟨q, 0, none⟩), .int .i64 n] w fun e w' => e = .returned (.tuple #[.string emptyB, .int .i64 5]) ∧ w = w' := by
  have C1 := hide (nused_out q w n hn)
  clear hn
  go_enter Tryz.func34, Tryz.ntmps34
  go_wp2_with fail
  refine (unhide C1).mono ?_
  rintro e w' ⟨rfl, rfl⟩
  go_wp2_with fail
  go_ret2
  exact ⟨rfl, rfl⟩
set_option maxRecDepth 100000 in
theorem nget_free (h : MPAt w q uc pc um pm ub pb hist op F) (n : Nat) (h1 : 1 ≤ n) (hn : n < 72) (hu : usedL uc n = false) :
    Calls Tryz.prog 34 #[.pointer (some ⟨q, 0, none⟩), .int .i64 n] w fun e w' => e = .returned (.tuple #[.string emptyB, .int .i64 5]) ∧ w = w' := by
  have C1 := nused_in h n h1 hn
  rw [hu] at C1
  have C1 := hide C1
  go_enter Tryz.func34, Tryz.ntmps34
  go_wp2_with fail
  refine (unhide C1).mono ?_
  rintro e w' ⟨rfl, rfl⟩
  go_wp2_with fail
  go_ret2
  exact ⟨rfl, rfl⟩
set_option maxRecDepth 100000 in
theorem nget_used (h : MPAt w q uc pc um pm ub pb hist op F) (n : Nat) (h1 : 1 ≤ n) (hn : n < 72) (hu : usedL uc n = true) :
    Calls Tryz.prog 34 #[.pointer (some ⟨q, 0, none⟩), .int .i64 n] w fun e w' => e = .returned (.tuple #[.string (pc.getD n emptyB), .int .i64 0]) ∧ w = w' := by
  have C1 := nused_in h n h1 hn
  rw [hu] at C1
  have C1 := hide C1
  obtain ⟨⟨s0, s1, s2, hv, F0, F1, k1, ⟨⟨b0, b1, g1, g2, g3, f, f0, f1⟩, lu, lp, hi⟩, _⟩, _⟩ := h
  have c0 := k1.cell 0
  have c1 := g1.cell 1
  have p0 := g3.cell n
  rw [strs_get _ _ (by omega)] at p0
  have e1 : pc.getD n emptyB = pc[n] := by simp [List.getD_eq_getElem?_getD, lp, hn]
  rw [e1]
  clear e1
  generalize pc[n] = u at *
  have hn' : (n : Int) < 72 := by omega
  go_enter Tryz.func34, Tryz.ntmps34
  go_wp2_with fail
  refine (unhide C1).mono ?_
  rintro e w' ⟨rfl, rfl⟩
  go_wp2_with fail
  go_ret2
  exact ⟨rfl, rfl⟩
end
end Go.Proofs.Qxb6500411aGreat
