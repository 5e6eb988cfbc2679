/-
  OWN WORK. THE LAW OF DIFF: Tweak, where At alone turns.
-/
import Derived.Test.Qxb6500416aDL16
namespace Go.Proofs.Qxb6500416a
open Go.RowKit Go.PlainAid
set_option linter.unusedSimpArgs false
set_option linter.unusedVariables false

theorem wrap64_in (x : Int) : -9223372036854775808 ≤ wrap64 x ∧ wrap64 x ≤ 9223372036854775807 := by
  unfold wrap64
  omega
section
variable {B : Nat} {w w' : World} {l e g cap : Nat} {mp pv r0 r1 k0 k1 k2 k3 : Value} {tx : ByteArray} {hs : List HV} {p : List Hk} {A0 A1 : List Fl} {L : List Str} {F R M : Nat → Prop}
/-- Place x of the patch's row is written. -/
theorem LS.row {hs' : List HV} {p' : List Hk} {x n0 : Nat} {u : Value} (h : LS B w l e mp (.slice (some ⟨g, 0, none⟩) n0 cap) r0 r1 k0 k1 k2 k3 tx hs p A0 A1 L F R M) (hP : PatO (w.setCell ⟨g, x, none⟩ u) (.slice (some ⟨g, 0, none⟩) n0 cap) hs' p' R) (hD : Dst hs') (hB : PB p') : LS B (w.setCell ⟨g, x, none⟩ u) l e mp (.slice (some ⟨g, 0, none⟩) n0 cap) r0 r1 k0 k1 k2 k3 tx hs' p' A0 A1 L F R M := by
  have ho := donly1 (w := w) (p := g) x u
  obtain ⟨c, hc⟩ := own_ty h.pat.1 g rfl
  have m0 : ∀ y, r0.ownBlock = some y → ¬ y = g := fun y hy e => by
    obtain ⟨c', hc'⟩ := own_ty h.f0 y hy
    subst e
    exact Has.ne hc hc' (by decide) rfl
  have m1 : ∀ y, r1.ownBlock = some y → ¬ y = g := fun y hy e => by
    obtain ⟨c', hc'⟩ := own_ty h.f1 y hy
    subst e
    exact Has.ne hc hc' (by decide) rfl
  have hR : R g := h.pat.2.2 g rfl
  exact h.regs (Has.keep h.lw ho (fun e => h.lR (e ▸ hR))) hP hD hB (ownsRow_keep h.f0 ho m0) (ownsRow_keep h.f1 ho m1) h.n0 h.n1 h.rf h.r01 ho (fun y hy => .inr (hy ▸ hR)) (fun y hy => .inl hy)
theorem LS.at_ (h : LS B w l e mp (.slice (some ⟨g, 0, none⟩) p.length cap) r0 r1 k0 k1 k2 k3 tx hs p A0 A1 L F R M) (a : Nat) (ha : a < p.length) (has : a < hs.length) (x : Int) (h1 : -9223372036854775808 ≤ x) (h2 : x ≤ 9223372036854775807) : LS B (w.setCell ⟨g, a * 3, none⟩ (.int .i64 x)) l e mp (.slice (some ⟨g, 0, none⟩) p.length cap) r0 r1 k0 k1 k2 k3 tx (hs.set a ⟨x, hs[a].dv, hs[a].iv⟩) (p.set a ⟨x, p[a].del, p[a].ins⟩) A0 A1 L F R M := by
  have hk := h.pb.all p[a] (List.getElem_mem ha)
  have hd := h.dst
  refine h.row (h.pat.set0 a ha has x) (hd.set a has _ ?_ ?_) (h.pb.set a ⟨hk.del, hk.ins, hk.sd, hk.si, h1, h2⟩)
  · have e := self_parts hs a has
    rw [e, dst_parts] at hd
    exact hd.2.2.1
  · intro y hy
    rcases hy with hy | hy
    · exact .inl hy
    · exact .inr (.inl hy)
end
set_option maxRecDepth 100000 in
set_option maxHeartbeats 4000000 in
theorem tweak_out {B : Nat} {w : World} {l : Nat} (h : LI B w l) (a b c : Int) (s : ByteArray) (ha : a < 0) :
    Calls Try.prog 15 #[.pointer (some ⟨l, 0, none⟩), .int .i64 a, .int .i64 b, .int .i64 c, .string s] w fun x w' => x = .returned (.tuple #[]) ∧ Stp B l w w' := by
  have hR := hide (And.intro h (Only.refl (fun y => B ≤ y) w))
  have b1 : decide (a < 0) = true := decide_eq_true ha
  clear h
  go_enter Try.func15, Try.ntmps15
  go_wp2_with fail
  refine bodyPost_ret (results_none rfl _ _ _) rfl ?_
  exact ⟨rfl, unhide hR⟩
set_option maxRecDepth 100000 in
set_option maxHeartbeats 4000000 in
theorem tweak_out2 {B : Nat} {w : World} {l e : Nat} {mp pv r0 r1 k0 k1 k2 k3 : Value} {tx : ByteArray} {hs : List HV} {p : List Hk} {A0 A1 : List Fl} {L : List Str} {F R M : Nat → Prop} (h : LS B w l e mp pv r0 r1 k0 k1 k2 k3 tx hs p A0 A1 L F R M) (a b c : Int) (s : ByteArray) (ha : (p.length : Int) ≤ a) :
    Calls Try.prog 15 #[.pointer (some ⟨l, 0, none⟩), .int .i64 a, .int .i64 b, .int .i64 c, .string s] w fun x w' => x = .returned (.tuple #[]) ∧ Stp B l w w' := by
  have hR := hide (And.intro h.li (Only.refl (fun y => B ≤ y) w))
  obtain ⟨x, cc, rfl⟩ : ∃ x cc, pv = .slice x p.length cc := by
    have := h.pat.len
    rcases h.pat.1.2 with ⟨rfl, h0⟩ | ⟨g, cap, cur, rfl, _⟩
    · exact ⟨none, 0, by rw [show p.length = 0 by omega]⟩
    · exact ⟨_, _, by rw [this]⟩
  have b1 : decide (a < 0) = false := decide_eq_false (by omega)
  have b2 : decide ((p.length : Int) ≤ a) = true := decide_eq_true ha
  have c2 := Has.cell h.lw 2
  have ll := Has.lt h.lw
  clear h
  go_enter Try.func15, Try.ntmps15
  go_wp2_with fail
  refine bodyPost_ret (results_none rfl _ _ _) rfl ?_
  exact ⟨rfl, unhide hR⟩
set_option maxRecDepth 100000 in
set_option maxHeartbeats 4000000 in
theorem tweak_else {B : Nat} {w : World} {l e g cap : Nat} {mp r0 r1 k0 k1 k2 k3 : Value} {tx : ByteArray} {hs : List HV} {p : List Hk} {A0 A1 : List Fl} {L : List Str} {F R M : Nat → Prop} (h : LS B w l e mp (.slice (some ⟨g, 0, none⟩) p.length cap) r0 r1 k0 k1 k2 k3 tx hs p A0 A1 L F R M) (a : Nat) (ha : a < p.length) (b c : Int) (s : ByteArray) (hc1 : c ≠ 1) (hc2 : c ≠ 2) (hc3 : c ≠ 3) (hc4 : c ≠ 4) (hc5 : c ≠ 5) :
    Calls Try.prog 15 #[.pointer (some ⟨l, 0, none⟩), .int .i64 a, .int .i64 b, .int .i64 c, .string s] w fun x w' => x = .returned (.tuple #[]) ∧ Stp B l w w' := by
  have has : a < hs.length := by have := h.pat.len; omega
  obtain ⟨x, hx⟩ : ∃ x, x = wrap64 (p[a].at_ + b) := ⟨_, rfl⟩
  have hxr : -9223372036854775808 ≤ x ∧ x ≤ 9223372036854775807 := by
    rw [hx]
    exact wrap64_in _
  have b1 : decide ((a : Int) < 0) = false := decide_eq_false (by omega)
  have b2 : decide ((p.length : Int) ≤ (a : Int)) = false := decide_eq_false (by omega)
  have b3 : (a : Int) < (p.length : Int) := by omega
  have d1 : (c == 1) = false := by simpa using hc1
  have d2 : (c == 2) = false := by simpa using hc2
  have d3 : (c == 3) = false := by simpa using hc3
  have d4 : (c == 4) = false := by simpa using hc4
  have d5 : (c == 5) = false := by simpa using hc5
  obtain ⟨g', cap', _, ee, hgl, c0, c1, _, _⟩ := h.pat.at a ha
  obtain ⟨rfl, rfl⟩ : g = g' ∧ cap = cap' := by simpa using ee
  obtain ⟨cc, hgh⟩ := own_ty h.pat.1 g rfl
  have f0 := hgh.free (a * 3)
  have c2 := Has.cell h.lw 2
  have ll := Has.lt h.lw
  have hne : g ≠ l := Has.ne hgh h.lw (by decide)
  have hR := hide (h.stp (R' := R) (h.at_ a ha has x hxr.1 hxr.2).li (donly1 (p := g) (a * 3) (.int .i64 x)) (fun y hy => .inr (hy ▸ h.pat.2.2 g rfl)))
  clear h ee hgh hxr
  go_enter Try.func15, Try.ntmps15
  go_wp2_with fail
  go_end0
  rw [← hx]
  exact ⟨rfl, unhide hR⟩
end Go.Proofs.Qxb6500416a
