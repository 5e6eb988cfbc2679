/-
  OWN WORK. THE LAW OF DIFF: Tweak, every case.
-/
import Derived.Test.Qxb6500416aDL25
namespace Go.Proofs.Qxb6500416a
open Go.RowKit Go.PlainAid
set_option linter.unusedSimpArgs false
set_option linter.unusedVariables false

theorem tweak_any {B : Nat} {w : World} {l : Nat} (h : LI B w l) (a b c : Int) (s : ByteArray) (hs9 : s.size ≤ 9223372036854775807) :
    Calls Try.prog 15 #[.pointer (some ⟨l, 0, none⟩), .int .i64 a, .int .i64 b, .int .i64 c, .string s] w fun x w' => x = .returned (.tuple #[]) ∧ Stp B l w w' := by
  by_cases ha : a < 0
  · exact tweak_out h a b c s ha
  obtain ⟨e, mp, pv, r0, r1, k0, k1, k2, k3, tx, hs, p, A0, A1, L, F, R, M, h⟩ := h
  by_cases hb : (p.length : Int) ≤ a
  · exact tweak_out2 h a b c s hb
  obtain ⟨n, rfl⟩ : ∃ n : Nat, a = (n : Int) := ⟨a.toNat, by omega⟩
  have hn : n < p.length := by omega
  obtain ⟨g, cap, _, rfl, _⟩ := h.pat.at n hn
  by_cases c1 : c = 1
  · subst c1
    by_cases hd : p[n].del.length = 0
    · exact tweak_1none h n hn b s hd
    · exact tweak_1 h n hn b s hd
  by_cases c2 : c = 2
  · subst c2
    by_cases hd : 2048 < p[n].ins.length
    · exact tweak_2full h n hn b s hd
    · exact tweak_2 h n hn b s (by omega) hs9
  by_cases c3 : c = 3
  · subst c3
    by_cases hd : 2048 < p[n].del.length
    · exact tweak_3full h n hn b s hd
    · exact tweak_3 h n hn b s (by omega) hs9
  by_cases c4 : c = 4
  · subst c4
    exact tweak_4 h n hn b s
  by_cases c5 : c = 5
  · subst c5
    by_cases hd : 2048 < p.length
    · exact tweak_5full h n hn b s hd
    · exact tweak_5 h n hn b s (by omega)
  exact tweak_else h n hn b c s c1 c2 c3 c4 c5
end Go.Proofs.Qxb6500416a
