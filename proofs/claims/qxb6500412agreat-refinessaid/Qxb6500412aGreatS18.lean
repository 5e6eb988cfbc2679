/-
  OWN WORK. QUERY: the planner's small functions: ColOf, Usable.
-/
import Derived.Test.Qxb6500412aGreatS17
namespace Go.Proofs.Qxb6500412aGreat
open Go.RowKit Go.PlainAid
set_option linter.unusedSimpArgs false
set_option linter.unusedVariables false

/-- The place of a column, or -1. -/
def qcF (nm : ByteArray) : Nat → List Cl → Int
  | _, [] => -1
  | i, c :: l => if c.1 = nm then (i : Int) else qcF nm (i + 1) l
def qcol (l : List Cl) (nm : ByteArray) : Int := qcF nm 0 l
theorem qcF_spec (nm : ByteArray) : ∀ (l : List Cl) (i : Nat), (qcF nm i l = -1 ∧ ∀ c ∈ l, c.1 ≠ nm) ∨ ∃ (j : Nat) (c : Cl), l[j]? = some c ∧ c.1 = nm ∧ qcF nm i l = ((i + j : Nat) : Int) ∧ ∀ (k : Nat) (y : Cl), l[k]? = some y → k < j → y.1 ≠ nm
  | [], i => .inl ⟨rfl, fun c hc => by cases hc⟩
  | x :: l, i => by
    by_cases h : x.1 = nm
    · exact .inr ⟨0, x, rfl, h, by unfold qcF; rw [if_pos h]; rfl, fun k y _ hk => by omega⟩
    · have e : qcF nm i (x :: l) = qcF nm (i + 1) l := by
        show (if x.1 = nm then (i : Int) else qcF nm (i + 1) l) = _
        rw [if_neg h]
      rcases qcF_spec nm l (i + 1) with ⟨h1, h2⟩ | ⟨j, c, h1, h2, h3, h4⟩
      · refine .inl ⟨by rw [e, h1], fun c hc => ?_⟩
        rcases List.mem_cons.1 hc with rfl | hc
        · exact h
        · exact h2 c hc
      · refine .inr ⟨j + 1, c, h1, h2, by rw [e, h3]; omega, fun k y hy hk => ?_⟩
        cases k with
        | zero =>
          simp only [List.getElem?_cons_zero, Option.some.injEq] at hy
          subst hy
          exact h
        | succ k => exact h4 k y hy (by omega)
theorem qcol_spec (l : List Cl) (nm : ByteArray) : (qcol l nm = -1 ∧ ∀ c ∈ l, c.1 ≠ nm) ∨ ∃ (j : Nat) (c : Cl), l[j]? = some c ∧ c.1 = nm ∧ qcol l nm = (j : Int) ∧ ∀ (k : Nat) (y : Cl), l[k]? = some y → k < j → y.1 ≠ nm := by
  have := qcF_spec nm l 0
  simpa [qcol] using this
theorem qcol_hit {l : List Cl} {nm : ByteArray} {i : Nat} {c : Cl} (h : l[i]? = some c) (hc : c.1 = nm) (hn : ∀ (k : Nat) (y : Cl), l[k]? = some y → k < i → y.1 ≠ nm) : qcol l nm = (i : Int) := by
  rcases qcol_spec l nm with ⟨_, h2⟩ | ⟨j, y, h1, h2, h3, h4⟩
  · exact absurd hc (h2 c (List.mem_of_getElem? h))
  · rcases Nat.lt_trichotomy i j with e | e | e
    · exact absurd hc (h4 i c h e)
    · rw [h3, e]
    · exact absurd h2 (hn j y h1 e)
theorem qcol_miss {l : List Cl} {nm : ByteArray} (hn : ∀ (k : Nat) (y : Cl), l[k]? = some y → y.1 ≠ nm) : qcol l nm = -1 := by
  rcases qcol_spec l nm with ⟨h, _⟩ | ⟨j, y, h1, h2, h3, h4⟩
  · exact h
  · exact absurd h2 (hn j y h1)
theorem qcol_rng (l : List Cl) (nm : ByteArray) : -1 ≤ qcol l nm ∧ qcol l nm < (l.length : Int) := by
  rcases qcol_spec l nm with ⟨h, _⟩ | ⟨j, y, h1, h2, h3, h4⟩
  · rw [h]; omega
  · have := (List.getElem?_eq_some_iff.1 h1).1
    rw [h3]; omega
/-- A schema as a value. -/
def schU (nm : ByteArray) (cv : Value) (pk ix : Int) : Value := .agg #[.string nm, cv, .int .i64 pk, .int .i64 ix]
section
variable {w w' : World} {ca : Option Addr} {cn cc : Nat} {l : List Cl} {tn : ByteArray} {pk ix : Int}
set_option maxRecDepth 100000 in
set_option maxHeartbeats 4000000 in
theorem sqcolOf_any (h : OwnC w (.slice ca cn cc) l) (hl : l.length ≤ 100) (nm : ByteArray) : Calls Tryz.prog 111 #[schU tn (.slice ca cn cc) pk ix, .string nm] w fun e w' => e = .returned (.int .i64 (qcol l nm)) ∧ Only (fun _ => False) w w' := by
  unfold schU
  have o1 : Only (fun _ => False) w (w.alloc (.cells #[.string tn, .slice ca cn cc, .int .i64 pk, .int .i64 ix] 79)) := (Only.refl _ w).alloc _
  have N1 := Has.new w #[.string tn, .slice ca cn cc, .int .i64 pk, .int .i64 ix] 79
  have h1 := h.keep o1 (fun _ _ e => e)
  obtain ⟨a', cap', hsh⟩ := h.shape
  have hcn : cn = l.length := by cases hsh; rfl
  subst hcn
  have c1 : (w.alloc (.cells #[.string tn, .slice ca l.length cc, .int .i64 pk, .int .i64 ix] 79)).cell? ⟨w.heap.size, 1, none⟩ = some (.slice ca l.length cc) := N1.cell 1
  have kl := N1.lt
  have HH := hide (And.intro h1 o1)
  clear h h1 o1 N1 hsh
  go_enter Tryz.func111, Tryz.ntmps111
  go_upto_region 2 with fail
  generalize w.alloc (.cells #[.string tn, .slice ca l.length cc, .int .i64 pk, .int .i64 ix] 79) = w1 at *
  generalize w.heap.size = gs at *
  go_loop [5] (fun jv => ∃ i : Nat, jv = .int .i64 i ∧ i ≤ l.length ∧ ∀ (j : Nat) (x : Cl), l[j]? = some x → j < i → x.1 ≠ nm) (fun jv => 100 - (intOf jv).toNat)
  case atStart => exact ⟨0, rfl, Nat.zero_le _, fun j _ _ hj => by omega⟩
  case round =>
    obtain ⟨i, rfl, hi, hne⟩ := hrel
    have HN := hide hne
    clear hne
    by_cases hs : i < l.length
    · have a1 : decide ((i : Int) < (l.length : Int)) = true := decide_eq_true (by omega)
      have a1p : (i : Int) < (l.length : Int) := by omega
      obtain ⟨x, hx⟩ := getE hs
      obtain ⟨ib, ha, d0, _⟩ := (unhide HH).1.at_ hx
      subst ha
      by_cases h2 : x.1 = nm
      · have b2 := seq_t h2
        have RR := hide (show qcol l nm = (i : Int) from qcol_hit hx h2 (unhide HN))
        clear h2 hx
        go_wp2_with fail
        go_ret
        exact ⟨by rw [unhide RR]; rfl, (unhide HH).2⟩
      · have b2 := seq_f h2
        have HN2 := hide (show ∀ (j : Nat) (y : Cl), l[j]? = some y → j < i + 1 → y.1 ≠ nm from fun j y hy hji => by
          by_cases e : j = i
          · subst e
            rw [hx] at hy
            cases hy
            exact h2
          · exact unhide HN j y hy (by omega))
        clear h2 hx
        go_wp2_with fail
        go_round
        case measure => simp [intOf]; omega
        case rel => exact ⟨i + 1, by go_num, by omega, unhide HN2⟩
    · have a1 : decide ((i : Int) < (l.length : Int)) = false := decide_eq_false (by omega)
      have a1p : ¬ (i : Int) < (l.length : Int) := by omega
      have RR := hide (show qcol l nm = -1 from qcol_miss (fun k y hy => unhide HN k y hy (by have := (List.getElem?_eq_some_iff.1 hy).1; omega)))
      go_wp2_with fail
      go_ret
      exact ⟨by rw [unhide RR]; rfl, (unhide HH).2⟩
/-- A comparison as a value. -/
def cmU (c : Cm) : Value := .agg #[.string c.col, .int .i64 c.op, .bool c.lit.str, .int .i64 c.lit.i, .string c.lit.s]
def useB (c : Cm) : Bool := decide (c.op ≠ 5) && decide (c.lit.s.size ≤ 7)
set_option maxRecDepth 100000 in
theorem squsable_any (c : Cm) (w : World) : Calls Tryz.prog 348 #[cmU c] w fun e w' => e = .returned (.bool (useB c)) ∧ Only (fun _ => False) w w' := by
  unfold cmU
  have o1 : Only (fun _ => False) w (w.alloc (.cells #[.string c.col, .int .i64 c.op, .bool c.lit.str, .int .i64 c.lit.i, .string c.lit.s] 300)) := (Only.refl _ w).alloc _
  have HO := hide o1
  clear o1
  unfold useB
  by_cases h1 : c.op = 5
  · have b1 : (c.op != 5) = false := by simp [h1]
    rw [h1]
    go_enter Tryz.func348, Tryz.ntmps348
    go_wp2_with fail
    go_ret
    refine ⟨rfl, ?_⟩
    rw [h1] at HO
    exact unhide HO
  · have b1 : (c.op != 5) = true := by simpa using h1
    have e1 : decide (c.op ≠ 5) = true := by simpa using h1
    rw [e1]
    have e2 : decide ((c.lit.s.size : Int) ≤ 7) = decide (c.lit.s.size ≤ 7) := by rw [Bool.eq_iff_iff]; simp; omega
    go_enter Tryz.func348, Tryz.ntmps348
    go_wp2_with fail
    go_ret
    exact ⟨by simp, unhide HO⟩
end
end Go.Proofs.Qxb6500412aGreat
