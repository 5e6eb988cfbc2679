/-
  OWN WORK. THE LAW OF DIFF: Tweak, where it stops early (laid by tools/gen_dl18.py).
-/
import Derived.Test.Qxb6500416aDL17
namespace Go.Proofs.Qxb6500416a
open Go.RowKit Go.PlainAid
set_option linter.unusedSimpArgs false
set_option linter.unusedVariables false

theorem own_len {w : World} {v : Value} {l : List Str} (h : OwnL w v l) : ∃ a c, v = .slice a l.length c := by
  have := h.row
  rcases this.2 with ⟨rfl, h0⟩ | ⟨g, cap, cur, rfl, _⟩
  · exact ⟨none, 0, by rw [h0]⟩
  · exact ⟨_, _, rfl⟩
set_option maxRecDepth 100000 in
set_option maxHeartbeats 4000000 in
theorem tweak_1none {B : Nat} {w : World} {l e g cap : Nat} {mp r0 r1 k0 k1 k2 k3 : Value} {tx : ByteArray} {hs : List HV} {p : List Hk} {A0 A1 : List Fl} {L : List Str} {F R M : Nat → Prop} (h : LS B w l e mp (.slice (some ⟨g, 0, none⟩) p.length cap) r0 r1 k0 k1 k2 k3 tx hs p A0 A1 L F R M) (a : Nat) (ha : a < p.length) (b : Int) (s : ByteArray) (hd : p[a].del.length = 0) :
    Calls Try.prog 15 #[.pointer (some ⟨l, 0, none⟩), .int .i64 a, .int .i64 b, .int .i64 1, .string s] w fun x w' => x = .returned (.tuple #[]) ∧ Stp B l w w' := by
  have has : a < hs.length := by have := h.pat.len; omega
  obtain ⟨x, hx⟩ : ∃ x, x = wrap64 (p[a].at_ + b) := ⟨_, rfl⟩
  have hxr : -9223372036854775808 ≤ x ∧ x ≤ 9223372036854775807 := by
    rw [hx]
    exact wrap64_in _
  have b1 : decide ((a : Int) < 0) = false := decide_eq_false (by omega)
  have b2 : decide ((p.length : Int) ≤ (a : Int)) = false := decide_eq_false (by omega)
  have b3 : (a : Int) < (p.length : Int) := by omega
  obtain ⟨g', cap', _, ee, hgl, c0, c1, c3, hok⟩ := h.pat.at a ha
  obtain ⟨rfl, rfl⟩ : g = g' ∧ cap = cap' := by simpa using ee
  obtain ⟨cc, hgh⟩ := own_ty h.pat.1 g rfl
  obtain ⟨d1, d2, ed⟩ := own_len hok.del
  obtain ⟨i1, i2, ei⟩ := own_len hok.ins
  have f0 := hgh.free (a * 3)
  have c2 := Has.cell h.lw 2
  have ll := Has.lt h.lw
  have hne : g ≠ l := Has.ne hgh h.lw (by decide)
  have e1 : ((p[a].del.length : Int) == 0) = true := by simp [hd]
  clear hd
  have hR := hide (And.intro h.li (Only.refl (fun y => B ≤ y) w))
  rw [ed] at c1
  rw [ei] at c3
  clear h ee hgh hxr hok ed ei
  go_enter Try.func15, Try.ntmps15
  go_wp2_with fail
  refine bodyPost_ret (results_none rfl _ _ _) rfl ?_
  exact ⟨rfl, unhide hR⟩
set_option maxRecDepth 100000 in
set_option maxHeartbeats 4000000 in
theorem tweak_2full {B : Nat} {w : World} {l e g cap : Nat} {mp r0 r1 k0 k1 k2 k3 : Value} {tx : ByteArray} {hs : List HV} {p : List Hk} {A0 A1 : List Fl} {L : List Str} {F R M : Nat → Prop} (h : LS B w l e mp (.slice (some ⟨g, 0, none⟩) p.length cap) r0 r1 k0 k1 k2 k3 tx hs p A0 A1 L F R M) (a : Nat) (ha : a < p.length) (b : Int) (s : ByteArray) (hd : 2048 < p[a].ins.length) :
    Calls Try.prog 15 #[.pointer (some ⟨l, 0, none⟩), .int .i64 a, .int .i64 b, .int .i64 2, .string s] w fun x w' => x = .returned (.tuple #[]) ∧ Stp B l w w' := by
  have has : a < hs.length := by have := h.pat.len; omega
  obtain ⟨x, hx⟩ : ∃ x, x = wrap64 (p[a].at_ + b) := ⟨_, rfl⟩
  have hxr : -9223372036854775808 ≤ x ∧ x ≤ 9223372036854775807 := by
    rw [hx]
    exact wrap64_in _
  have b1 : decide ((a : Int) < 0) = false := decide_eq_false (by omega)
  have b2 : decide ((p.length : Int) ≤ (a : Int)) = false := decide_eq_false (by omega)
  have b3 : (a : Int) < (p.length : Int) := by omega
  obtain ⟨g', cap', _, ee, hgl, c0, c1, c3, hok⟩ := h.pat.at a ha
  obtain ⟨rfl, rfl⟩ : g = g' ∧ cap = cap' := by simpa using ee
  obtain ⟨cc, hgh⟩ := own_ty h.pat.1 g rfl
  obtain ⟨d1, d2, ed⟩ := own_len hok.del
  obtain ⟨i1, i2, ei⟩ := own_len hok.ins
  have f0 := hgh.free (a * 3)
  have c2 := Has.cell h.lw 2
  have ll := Has.lt h.lw
  have hne : g ≠ l := Has.ne hgh h.lw (by decide)
  have e1 : decide ((2048 : Int) < (p[a].ins.length : Int)) = true := decide_eq_true (by omega)
  have hR := hide (h.stp (R' := R) (h.at_ a ha has x hxr.1 hxr.2).li (donly1 (p := g) (a * 3) (.int .i64 x)) (fun y hy => .inr (hy ▸ h.pat.2.2 g rfl)))
  rw [ed] at c1
  rw [ei] at c3
  clear h ee hgh hxr hok ed ei
  go_enter Try.func15, Try.ntmps15
  go_wp2_with fail
  refine bodyPost_ret (results_none rfl _ _ _) rfl ?_
  rw [← hx]
  exact ⟨rfl, unhide hR⟩
set_option maxRecDepth 100000 in
set_option maxHeartbeats 4000000 in
theorem tweak_3full {B : Nat} {w : World} {l e g cap : Nat} {mp r0 r1 k0 k1 k2 k3 : Value} {tx : ByteArray} {hs : List HV} {p : List Hk} {A0 A1 : List Fl} {L : List Str} {F R M : Nat → Prop} (h : LS B w l e mp (.slice (some ⟨g, 0, none⟩) p.length cap) r0 r1 k0 k1 k2 k3 tx hs p A0 A1 L F R M) (a : Nat) (ha : a < p.length) (b : Int) (s : ByteArray) (hd : 2048 < p[a].del.length) :
    Calls Try.prog 15 #[.pointer (some ⟨l, 0, none⟩), .int .i64 a, .int .i64 b, .int .i64 3, .string s] w fun x w' => x = .returned (.tuple #[]) ∧ Stp B l w w' := by
  have has : a < hs.length := by have := h.pat.len; omega
  obtain ⟨x, hx⟩ : ∃ x, x = wrap64 (p[a].at_ + b) := ⟨_, rfl⟩
  have hxr : -9223372036854775808 ≤ x ∧ x ≤ 9223372036854775807 := by
    rw [hx]
    exact wrap64_in _
  have b1 : decide ((a : Int) < 0) = false := decide_eq_false (by omega)
  have b2 : decide ((p.length : Int) ≤ (a : Int)) = false := decide_eq_false (by omega)
  have b3 : (a : Int) < (p.length : Int) := by omega
  obtain ⟨g', cap', _, ee, hgl, c0, c1, c3, hok⟩ := h.pat.at a ha
  obtain ⟨rfl, rfl⟩ : g = g' ∧ cap = cap' := by simpa using ee
  obtain ⟨cc, hgh⟩ := own_ty h.pat.1 g rfl
  obtain ⟨d1, d2, ed⟩ := own_len hok.del
  obtain ⟨i1, i2, ei⟩ := own_len hok.ins
  have f0 := hgh.free (a * 3)
  have c2 := Has.cell h.lw 2
  have ll := Has.lt h.lw
  have hne : g ≠ l := Has.ne hgh h.lw (by decide)
  have e1 : decide ((2048 : Int) < (p[a].del.length : Int)) = true := decide_eq_true (by omega)
  have hR := hide (h.stp (R' := R) (h.at_ a ha has x hxr.1 hxr.2).li (donly1 (p := g) (a * 3) (.int .i64 x)) (fun y hy => .inr (hy ▸ h.pat.2.2 g rfl)))
  rw [ed] at c1
  rw [ei] at c3
  clear h ee hgh hxr hok ed ei
  go_enter Try.func15, Try.ntmps15
  go_wp2_with fail
  refine bodyPost_ret (results_none rfl _ _ _) rfl ?_
  rw [← hx]
  exact ⟨rfl, unhide hR⟩
set_option maxRecDepth 100000 in
set_option maxHeartbeats 4000000 in
theorem tweak_5full {B : Nat} {w : World} {l e g cap : Nat} {mp r0 r1 k0 k1 k2 k3 : Value} {tx : ByteArray} {hs : List HV} {p : List Hk} {A0 A1 : List Fl} {L : List Str} {F R M : Nat → Prop} (h : LS B w l e mp (.slice (some ⟨g, 0, none⟩) p.length cap) r0 r1 k0 k1 k2 k3 tx hs p A0 A1 L F R M) (a : Nat) (ha : a < p.length) (b : Int) (s : ByteArray) (hd : 2048 < p.length) :
    Calls Try.prog 15 #[.pointer (some ⟨l, 0, none⟩), .int .i64 a, .int .i64 b, .int .i64 5, .string s] w fun x w' => x = .returned (.tuple #[]) ∧ Stp B l w w' := by
  have has : a < hs.length := by have := h.pat.len; omega
  obtain ⟨x, hx⟩ : ∃ x, x = wrap64 (p[a].at_ + b) := ⟨_, rfl⟩
  have hxr : -9223372036854775808 ≤ x ∧ x ≤ 9223372036854775807 := by
    rw [hx]
    exact wrap64_in _
  have b1 : decide ((a : Int) < 0) = false := decide_eq_false (by omega)
  have b2 : decide ((p.length : Int) ≤ (a : Int)) = false := decide_eq_false (by omega)
  have b3 : (a : Int) < (p.length : Int) := by omega
  obtain ⟨g', cap', _, ee, hgl, c0, c1, c3, hok⟩ := h.pat.at a ha
  obtain ⟨rfl, rfl⟩ : g = g' ∧ cap = cap' := by simpa using ee
  obtain ⟨cc, hgh⟩ := own_ty h.pat.1 g rfl
  obtain ⟨d1, d2, ed⟩ := own_len hok.del
  obtain ⟨i1, i2, ei⟩ := own_len hok.ins
  have f0 := hgh.free (a * 3)
  have c2 := Has.cell h.lw 2
  have ll := Has.lt h.lw
  have hne : g ≠ l := Has.ne hgh h.lw (by decide)
  have e1 : decide ((2048 : Int) < (p.length : Int)) = true := decide_eq_true (by omega)
  have hR := hide (h.stp (R' := R) (h.at_ a ha has x hxr.1 hxr.2).li (donly1 (p := g) (a * 3) (.int .i64 x)) (fun y hy => .inr (hy ▸ h.pat.2.2 g rfl)))
  rw [ed] at c1
  rw [ei] at c3
  clear h ee hgh hxr hok ed ei
  go_enter Try.func15, Try.ntmps15
  go_wp2_with fail
  refine bodyPost_ret (results_none rfl _ _ _) rfl ?_
  rw [← hx]
  exact ⟨rfl, unhide hR⟩
end Go.Proofs.Qxb6500416a
