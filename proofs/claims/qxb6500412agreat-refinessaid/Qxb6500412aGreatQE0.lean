/-
  OWN WORK. QUERY's MODEL: colOf; comparisons in memory; holds (written by tools/gen_qe0.py).
-/
import Derived.Test.Qxb6500412aGreatQM6
import Derived.Test.Qxb6500412aGreatS22
namespace Go.Proofs.Qxb6500412aGreat
open Go.RowKit Go.PlainAid
set_option linter.unusedSimpArgs false
set_option linter.unusedVariables false

section
variable {w w' : World} {ca : Option Addr} {cn cc : Nat} {l : List Cl} {tn : ByteArray} {pk ix : Int}
set_option maxRecDepth 100000 in
set_option maxHeartbeats 4000000 in
theorem smcolOf_any (h : OwnC w (.slice ca cn cc) l) (hl : l.length ≤ 100) (nm : ByteArray) : Calls Tryz.prog 273 #[schU tn (.slice ca cn cc) pk ix, .string nm] w fun e w' => e = .returned (.int .i64 (qcol l nm)) ∧ Only (fun _ => False) w w' := by
  unfold schU
  have o1 : Only (fun _ => False) w (w.alloc (.cells #[.string tn, .slice ca cn cc, .int .i64 pk, .int .i64 ix] 79)) := (Only.refl _ w).alloc _
  have N1 := Has.new w #[.string tn, .slice ca cn cc, .int .i64 pk, .int .i64 ix] 79
  have h1 := h.keep o1 (fun _ _ e => e)
  obtain ⟨a', cap', hsh⟩ := h.shape
  have hcn : cn = l.length := by cases hsh; rfl
  subst hcn
  have c1 : (w.alloc (.cells #[.string tn, .slice ca l.length cc, .int .i64 pk, .int .i64 ix] 79)).cell? ⟨w.heap.size, 1, none⟩ = some (.slice ca l.length cc) := N1.cell 1
  have kl := N1.lt
  have HH := hide (And.intro h1 o1)
  clear h h1 o1 N1 hsh
  go_enter Tryz.func273, Tryz.ntmps273
  go_upto_region 2 with fail
  generalize w.alloc (.cells #[.string tn, .slice ca l.length cc, .int .i64 pk, .int .i64 ix] 79) = w1 at *
  generalize w.heap.size = gs at *
  go_loop [5] (fun jv => ∃ i : Nat, jv = .int .i64 i ∧ i ≤ l.length ∧ ∀ (j : Nat) (x : Cl), l[j]? = some x → j < i → x.1 ≠ nm) (fun jv => 100 - (intOf jv).toNat)
  case atStart => exact ⟨0, rfl, Nat.zero_le _, fun j _ _ hj => by omega⟩
  case round =>
    obtain ⟨i, rfl, hi, hne⟩ := hrel
    have HN := hide hne
    clear hne
    by_cases hs : i < l.length
    · have a1 : decide ((i : Int) < (l.length : Int)) = true := decide_eq_true (by omega)
      have a1p : (i : Int) < (l.length : Int) := by omega
      obtain ⟨x, hx⟩ := getE hs
      obtain ⟨ib, ha, d0, _⟩ := (unhide HH).1.at_ hx
      subst ha
      by_cases h2 : x.1 = nm
      · have b2 := seq_t h2
        have RR := hide (show qcol l nm = (i : Int) from qcol_hit hx h2 (unhide HN))
        clear h2 hx
        go_wp2_with fail
        go_ret
        exact ⟨by rw [unhide RR]; rfl, (unhide HH).2⟩
      · have b2 := seq_f h2
        have HN2 := hide (show ∀ (j : Nat) (y : Cl), l[j]? = some y → j < i + 1 → y.1 ≠ nm from fun j y hy hji => by
          by_cases e : j = i
          · subst e
            rw [hx] at hy
            cases hy
            exact h2
          · exact unhide HN j y hy (by omega))
        clear h2 hx
        go_wp2_with fail
        go_round
        case measure => simp [intOf]; omega
        case rel => exact ⟨i + 1, by go_num, by omega, unhide HN2⟩
    · have a1 : decide ((i : Int) < (l.length : Int)) = false := decide_eq_false (by omega)
      have a1p : ¬ (i : Int) < (l.length : Int) := by omega
      have RR := hide (show qcol l nm = -1 from qcol_miss (fun k y hy => unhide HN k y hy (by have := (List.getElem?_eq_some_iff.1 hy).1; omega)))
      go_wp2_with fail
      go_ret
      exact ⟨by rw [unhide RR]; rfl, (unhide HH).2⟩
end
/-- Comparisons in memory. -/
def OwnSm (w : World) (v : Value) (l : List Cm) : Prop := w.ownsRow 0 257 5 v l.length (smcs l)
section
variable {w w' : World} {v : Value} {l : List Cm}
theorem OwnSm.keep {B : Nat → Prop} (h : OwnSm w v l) (ho : Only B w w') (hB : ∀ k, v.ownBlock = some k → ¬ B k) : OwnSm w' v l := ownsRow_keep h ho hB
theorem OwnSm.quiet (h : OwnSm w v l) (ho : Only (fun _ => False) w w') : OwnSm w' v l := h.keep ho (fun _ _ e => e)
theorem OwnSm.shape (h : OwnSm w v l) : ∃ a cap, v = .slice a l.length cap := ownsRow_shape h
theorem smcs_get : ∀ (l : List Cm) (i : Nat) (c : Cm), l[i]? = some c → ∀ j, j < 5 → (smcs l)[i * 5 + j]? = (smC c)[j]?
  | [], i, c, h, j, hj => by simp at h
  | x :: l, 0, c, h, j, hj => by
    simp only [List.getElem?_cons_zero, Option.some.injEq] at h
    subst h
    show (smC x ++ smcs l)[0 * 5 + j]? = _
    rw [List.getElem?_append_left (by simp [smC]; omega)]
    congr 1
    omega
  | x :: l, i + 1, c, h, j, hj => by
    show (smC x ++ smcs l)[(i + 1) * 5 + j]? = _
    have e : (i + 1) * 5 + j = (smC x).length + (i * 5 + j) := by simp [smC]; omega
    rw [e, List.getElem?_append_right (by omega), Nat.add_sub_cancel_left]
    exact smcs_get l i c h j hj
theorem OwnSm.at_ {a : Option Addr} {n cap : Nat} (h : OwnSm w (.slice a n cap) l) {i : Nat} {c : Cm} (hx : l[i]? = some c) : ∃ g, a = some ⟨g, 0, none⟩ ∧ w.cell? ⟨g, i * 5, none⟩ = some (.string c.col) ∧ w.cell? ⟨g, i * 5 + 1, none⟩ = some (.string (opT c.op)) ∧ w.cell? ⟨g, i * 5 + 2, none⟩ = some (.bool c.lit.str) ∧ w.cell? ⟨g, i * 5 + 3, none⟩ = some (.int .i64 c.lit.i) ∧ w.cell? ⟨g, i * 5 + 4, none⟩ = some (.string c.lit.s) := by
  have hi := (List.getElem?_eq_some_iff.1 hx).1
  rcases h.2 with ⟨he, h0⟩ | ⟨g, cap', cur, he, _⟩
  · omega
  · obtain ⟨rfl, _⟩ : a = some ⟨g, 0, none⟩ ∧ True := by
      have := he
      simp at this
      exact ⟨this.1, trivial⟩
    refine ⟨g, rfl, ?_⟩
    have hc := World.ownsRow.cells h (g := g) (by first | exact rfl | simp [Value.ownBlock])
    have a0 : (smcs l)[i * 5]? = some (.string c.col) := by have := smcs_get l i c hx 0 (by omega); simpa [smC] using this
    have a1 : (smcs l)[i * 5 + 1]? = some (.string (opT c.op)) := by have := smcs_get l i c hx 1 (by omega); simpa [smC] using this
    have a2 : (smcs l)[i * 5 + 2]? = some (.bool c.lit.str) := by have := smcs_get l i c hx 2 (by omega); simpa [smC] using this
    have a3 : (smcs l)[i * 5 + 3]? = some (.int .i64 c.lit.i) := by have := smcs_get l i c hx 3 (by omega); simpa [smC] using this
    have a4 : (smcs l)[i * 5 + 4]? = some (.string c.lit.s) := by have := smcs_get l i c hx 4 (by omega); simpa [smC] using this
    have b0 := hc _ _ a0
    have b1 := hc _ _ a1
    have b2 := hc _ _ a2
    have b3 := hc _ _ a3
    have b4 := hc _ _ a4
    rw [addr_add] at b0 b1 b2 b3 b4
    exact ⟨b0, b1, b2, b3, b4⟩
end
def okSg (op : Int) : Prop := op = 1 ∨ op = 2 ∨ op = 3 ∨ op = 4 ∨ op = 5 ∨ op = 6
set_option maxRecDepth 100000 in
set_option maxHeartbeats 4000000 in
theorem smholds_any (c op : Int) (hop : okSg op) (w : World) : Calls Tryz.prog 332 #[.int .i64 c, .string (opT op)] w fun e w' => e = .returned (.bool (holdB c op)) ∧ w = w' := by
  rcases hop with rfl | rfl | rfl | rfl | rfl | rfl
  · show Calls Tryz.prog 332 #[.int .i64 c, .string ⟨#[60]⟩] w fun e w' => e = .returned (.bool (holdB c 1)) ∧ w = w'
    have hp : holdB c 1 = decide (c < 0) := by
      unfold holdB opL opE opG
      rcases Int.lt_trichotomy c 0 with h | h | h
      · have h1 : ¬ c = 0 := by omega
        have h2 : ¬ 0 < c := by omega
        have h3 : ¬ 0 ≤ c := by omega
        have h4 : c ≤ 0 := by omega
        have h5 : (c == 0) = false := by simpa using h1
        simp [h, h1, h2, h3, h4, h5]
      · subst h; simp
      · have h1 : ¬ c < 0 := by omega
        have h2 : c ≠ 0 := by omega
        simp [h, h1, h2]; try omega
    rw [hp]
    clear hp
    go_enter Tryz.func332, Tryz.ntmps332
    go_wp2_with fail
    go_ret
    exact ⟨by first | rfl | simp, rfl⟩
  · show Calls Tryz.prog 332 #[.int .i64 c, .string ⟨#[61]⟩] w fun e w' => e = .returned (.bool (holdB c 2)) ∧ w = w'
    have hp : holdB c 2 = (c == 0) := by
      unfold holdB opL opE opG
      rcases Int.lt_trichotomy c 0 with h | h | h
      · have h1 : ¬ c = 0 := by omega
        have h2 : ¬ 0 < c := by omega
        have h3 : ¬ 0 ≤ c := by omega
        have h4 : c ≤ 0 := by omega
        have h5 : (c == 0) = false := by simpa using h1
        simp [h, h1, h2, h3, h4, h5]
      · subst h; simp
      · have h1 : ¬ c < 0 := by omega
        have h2 : c ≠ 0 := by omega
        simp [h, h1, h2]; try omega
    rw [hp]
    clear hp
    go_enter Tryz.func332, Tryz.ntmps332
    go_wp2_with fail
    go_ret
    exact ⟨by first | rfl | simp, rfl⟩
  · show Calls Tryz.prog 332 #[.int .i64 c, .string ⟨#[60, 61]⟩] w fun e w' => e = .returned (.bool (holdB c 3)) ∧ w = w'
    have hp : holdB c 3 = decide (c ≤ 0) := by
      unfold holdB opL opE opG
      rcases Int.lt_trichotomy c 0 with h | h | h
      · have h1 : ¬ c = 0 := by omega
        have h2 : ¬ 0 < c := by omega
        have h3 : ¬ 0 ≤ c := by omega
        have h4 : c ≤ 0 := by omega
        have h5 : (c == 0) = false := by simpa using h1
        simp [h, h1, h2, h3, h4, h5]
      · subst h; simp
      · have h1 : ¬ c < 0 := by omega
        have h2 : c ≠ 0 := by omega
        simp [h, h1, h2]; try omega
    rw [hp]
    clear hp
    go_enter Tryz.func332, Tryz.ntmps332
    go_wp2_with fail
    go_ret
    exact ⟨by first | rfl | simp, rfl⟩
  · show Calls Tryz.prog 332 #[.int .i64 c, .string ⟨#[62]⟩] w fun e w' => e = .returned (.bool (holdB c 4)) ∧ w = w'
    have hp : holdB c 4 = decide (c > 0) := by
      unfold holdB opL opE opG
      rcases Int.lt_trichotomy c 0 with h | h | h
      · have h1 : ¬ c = 0 := by omega
        have h2 : ¬ 0 < c := by omega
        have h3 : ¬ 0 ≤ c := by omega
        have h4 : c ≤ 0 := by omega
        have h5 : (c == 0) = false := by simpa using h1
        simp [h, h1, h2, h3, h4, h5]
      · subst h; simp
      · have h1 : ¬ c < 0 := by omega
        have h2 : c ≠ 0 := by omega
        simp [h, h1, h2]; try omega
    rw [hp]
    clear hp
    go_enter Tryz.func332, Tryz.ntmps332
    go_wp2_with fail
    go_ret
    exact ⟨by first | rfl | simp, rfl⟩
  · show Calls Tryz.prog 332 #[.int .i64 c, .string ⟨#[33, 61]⟩] w fun e w' => e = .returned (.bool (holdB c 5)) ∧ w = w'
    have hp : holdB c 5 = (c != 0) := by
      unfold holdB opL opE opG
      rcases Int.lt_trichotomy c 0 with h | h | h
      · have h1 : ¬ c = 0 := by omega
        have h2 : ¬ 0 < c := by omega
        have h3 : ¬ 0 ≤ c := by omega
        have h4 : c ≤ 0 := by omega
        have h5 : (c == 0) = false := by simpa using h1
        simp [h, h1, h2, h3, h4, h5]
      · subst h; simp
      · have h1 : ¬ c < 0 := by omega
        have h2 : c ≠ 0 := by omega
        simp [h, h1, h2]; try omega
    rw [hp]
    clear hp
    go_enter Tryz.func332, Tryz.ntmps332
    go_wp2_with fail
    go_ret
    exact ⟨by first | rfl | simp, rfl⟩
  · show Calls Tryz.prog 332 #[.int .i64 c, .string ⟨#[62, 61]⟩] w fun e w' => e = .returned (.bool (holdB c 6)) ∧ w = w'
    have hp : holdB c 6 = decide (c ≥ 0) := by
      unfold holdB opL opE opG
      rcases Int.lt_trichotomy c 0 with h | h | h
      · have h1 : ¬ c = 0 := by omega
        have h2 : ¬ 0 < c := by omega
        have h3 : ¬ 0 ≤ c := by omega
        have h4 : c ≤ 0 := by omega
        have h5 : (c == 0) = false := by simpa using h1
        simp [h, h1, h2, h3, h4, h5]
      · subst h; simp
      · have h1 : ¬ c < 0 := by omega
        have h2 : c ≠ 0 := by omega
        simp [h, h1, h2]; try omega
    rw [hp]
    clear hp
    go_enter Tryz.func332, Tryz.ntmps332
    go_wp2_with fail
    go_ret
    exact ⟨by first | rfl | simp, rfl⟩
end Go.Proofs.Qxb6500412aGreat
