/-
  OWN WORK. QUERY's LAW: placeOf.
-/
import Derived.Test.Qxb6500412aGreatQE18
namespace Go.Proofs.Qxb6500412aGreat
open Go.RowKit Go.PlainAid
set_option linter.unusedSimpArgs false
set_option linter.unusedVariables false

section
variable {w w' : World} {ca : Option Addr} {cn cc : Nat} {l : List Cl} {tn : ByteArray} {pk ix : Int}
set_option maxRecDepth 100000 in
set_option maxHeartbeats 4000000 in
theorem slplaceOf_any (h : OwnC w (.slice ca cn cc) l) (hl : l.length ≤ 100) (nm : ByteArray) : Calls Tryz.prog 116 #[schU tn (.slice ca cn cc) pk ix, .string nm] w fun e w' => e = .returned (.int .i64 (qcol l nm)) ∧ Only (fun _ => False) w w' := by
  unfold schU
  have o1 : Only (fun _ => False) w (w.alloc (.cells #[.string tn, .slice ca cn cc, .int .i64 pk, .int .i64 ix] 79)) := (Only.refl _ w).alloc _
  have N1 := Has.new w #[.string tn, .slice ca cn cc, .int .i64 pk, .int .i64 ix] 79
  have h1 := h.keep o1 (fun _ _ e => e)
  obtain ⟨a', cap', hsh⟩ := h.shape
  have hcn : cn = l.length := by cases hsh; rfl
  subst hcn
  have c1 : (w.alloc (.cells #[.string tn, .slice ca l.length cc, .int .i64 pk, .int .i64 ix] 79)).cell? ⟨w.heap.size, 1, none⟩ = some (.slice ca l.length cc) := N1.cell 1
  have kl := N1.lt
  have HH := hide (And.intro h1 o1)
  clear h h1 o1 N1 hsh
  go_enter Tryz.func116, Tryz.ntmps116
  go_upto_region 2 with fail
  generalize w.alloc (.cells #[.string tn, .slice ca l.length cc, .int .i64 pk, .int .i64 ix] 79) = w1 at *
  generalize w.heap.size = gs at *
  go_loop [5] (fun jv => ∃ i : Nat, jv = .int .i64 i ∧ i ≤ l.length ∧ ∀ (j : Nat) (x : Cl), l[j]? = some x → j < i → x.1 ≠ nm) (fun jv => 100 - (intOf jv).toNat)
  case atStart => exact ⟨0, rfl, Nat.zero_le _, fun j _ _ hj => by omega⟩
  case round =>
    obtain ⟨i, rfl, hi, hne⟩ := hrel
    have HN := hide hne
    clear hne
    by_cases hs : i < l.length
    · have a1 : decide ((i : Int) < (l.length : Int)) = true := decide_eq_true (by omega)
      have a1p : (i : Int) < (l.length : Int) := by omega
      obtain ⟨x, hx⟩ := getE hs
      obtain ⟨ib, ha, d0, _⟩ := (unhide HH).1.at_ hx
      subst ha
      by_cases h2 : x.1 = nm
      · have b2 := seq_t h2
        have RR := hide (show qcol l nm = (i : Int) from qcol_hit hx h2 (unhide HN))
        clear h2 hx
        go_wp2_with fail
        go_ret
        exact ⟨by rw [unhide RR]; rfl, (unhide HH).2⟩
      · have b2 := seq_f h2
        have HN2 := hide (show ∀ (j : Nat) (y : Cl), l[j]? = some y → j < i + 1 → y.1 ≠ nm from fun j y hy hji => by
          by_cases e : j = i
          · subst e
            rw [hx] at hy
            cases hy
            exact h2
          · exact unhide HN j y hy (by omega))
        clear h2 hx
        go_wp2_with fail
        go_round
        case measure => simp [intOf]; omega
        case rel => exact ⟨i + 1, by go_num, by omega, unhide HN2⟩
    · have a1 : decide ((i : Int) < (l.length : Int)) = false := decide_eq_false (by omega)
      have a1p : ¬ (i : Int) < (l.length : Int) := by omega
      have RR := hide (show qcol l nm = -1 from qcol_miss (fun k y hy => unhide HN k y hy (by have := (List.getElem?_eq_some_iff.1 hy).1; omega)))
      go_wp2_with fail
      go_ret
      exact ⟨by rw [unhide RR]; rfl, (unhide HH).2⟩
end
end Go.Proofs.Qxb6500412aGreat
