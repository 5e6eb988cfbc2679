/-
  OWN WORK. QUERY's LAW: usableOn; the planner's work, plain.
-/
import Derived.Test.Qxb6500412aGreatQE19
import Derived.Test.Qxb6500412aGreatQL0
namespace Go.Proofs.Qxb6500412aGreat
open Go.RowKit Go.PlainAid
set_option linter.unusedSimpArgs false
set_option linter.unusedVariables false

def uoB (cols : List Cl) (c : Cm) (col : Int) : Bool := useB c && decide (0 ≤ col) && decide (qcol cols c.col = col)
/-- A comparison, as the law hands it on. -/
def scU (c : Cm) : Value := .agg #[.string c.col, .string (opT c.op), .bool c.lit.str, .int .i64 c.lit.i, .string c.lit.s]
theorem lit_t {os : ByteArray} {l : List UInt8} {c : ByteArray} (hc : c.toList = l) (h : os = c) : (os.toList == l) = true := by rw [← hc]; exact seq_t h
theorem lit_f {os : ByteArray} {l : List UInt8} {c : ByteArray} (hc : c.toList = l) (h : ¬ os = c) : (os.toList == l) = false := by rw [← hc]; exact seq_f h
theorem opT_ne {o : Int} : opT o = ⟨#[33, 61]⟩ ↔ o = 5 := by
  unfold opT
  by_cases h1 : o = 1
  · rw [if_pos h1]; exact ⟨fun e => absurd e (by decide), fun e => by omega⟩
  · rw [if_neg h1]
    by_cases h2 : o = 2
    · rw [if_pos h2]; exact ⟨fun e => absurd e (by decide), fun e => by omega⟩
    · rw [if_neg h2]
      by_cases h3 : o = 3
      · rw [if_pos h3]; exact ⟨fun e => absurd e (by decide), fun e => by omega⟩
      · rw [if_neg h3]
        by_cases h4 : o = 4
        · rw [if_pos h4]; exact ⟨fun e => absurd e (by decide), fun e => by omega⟩
        · rw [if_neg h4]
          by_cases h5 : o = 5
          · rw [if_pos h5]; exact ⟨fun _ => h5, fun _ => rfl⟩
          · rw [if_neg h5]; exact ⟨fun e => absurd e (by decide), fun e => absurd e h5⟩
theorem opT_eq {o : Int} : opT o = ⟨#[61]⟩ ↔ o = 2 := by
  unfold opT
  by_cases h1 : o = 1
  · rw [if_pos h1]; exact ⟨fun e => absurd e (by decide), fun e => by omega⟩
  · rw [if_neg h1]
    by_cases h2 : o = 2
    · rw [if_pos h2]; exact ⟨fun _ => h2, fun _ => rfl⟩
    · rw [if_neg h2]
      by_cases h3 : o = 3
      · rw [if_pos h3]; exact ⟨fun e => absurd e (by decide), fun e => by omega⟩
      · rw [if_neg h3]
        by_cases h4 : o = 4
        · rw [if_pos h4]; exact ⟨fun e => absurd e (by decide), fun e => by omega⟩
        · rw [if_neg h4]
          by_cases h5 : o = 5
          · rw [if_pos h5]; exact ⟨fun e => absurd e (by decide), fun e => by omega⟩
          · rw [if_neg h5]; exact ⟨fun e => absurd e (by decide), fun e => absurd e h2⟩
section
variable {w w' : World} {ca : Option Addr} {cn cc : Nat} {cols : List Cl} {tn : ByteArray} {pk ix : Int}
set_option maxRecDepth 100000 in
set_option maxHeartbeats 4000000 in
theorem slusableOn_any (h : OwnC w (.slice ca cn cc) cols) (hl : cols.length ≤ 100) (c : Cm) (col : Int) : Calls Tryz.prog 182 #[schU tn (.slice ca cn cc) pk ix, scU c, .int .i64 col] w fun e w' => e = .returned (.bool (uoB cols c col)) ∧ Only (fun _ => False) w w' := by
  unfold schU scU
  have o1 : Only (fun _ => False) w ((w.alloc (.cells #[.string tn, .slice ca cn cc, .int .i64 pk, .int .i64 ix] 79)).alloc (.cells #[.string c.col, .string (opT c.op), .bool c.lit.str, .int .i64 c.lit.i, .string c.lit.s] 259)) := ((Only.refl _ w).alloc _).alloc _
  have N1 : Has ((w.alloc (.cells #[.string tn, .slice ca cn cc, .int .i64 pk, .int .i64 ix] 79)).alloc (.cells #[.string c.col, .string (opT c.op), .bool c.lit.str, .int .i64 c.lit.i, .string c.lit.s] 259)) w.heap.size #[.string tn, .slice ca cn cc, .int .i64 pk, .int .i64 ix] 79 := (Has.new w _ _).keep ((Only.refl (fun _ => False) _).alloc _) (fun e => e)
  have N2 : Has ((w.alloc (.cells #[.string tn, .slice ca cn cc, .int .i64 pk, .int .i64 ix] 79)).alloc (.cells #[.string c.col, .string (opT c.op), .bool c.lit.str, .int .i64 c.lit.i, .string c.lit.s] 259)) (w.heap.size + 1) #[.string c.col, .string (opT c.op), .bool c.lit.str, .int .i64 c.lit.i, .string c.lit.s] 259 := Has.new' _ _ _ _ (by simp)
  have HH := hide (And.intro (h.keep o1 (fun _ _ e => e)) o1)
  clear h o1
  obtain ⟨R, hR⟩ : ∃ b, uoB cols c col = b := ⟨_, rfl⟩
  rw [hR]
  unfold uoB at hR
  go_enter Tryz.func182, Tryz.ntmps182
  go_upto_region 1 with fail
  generalize (w.alloc (.cells #[.string tn, .slice ca cn cc, .int .i64 pk, .int .i64 ix] 79)).alloc (.cells #[.string c.col, .string (opT c.op), .bool c.lit.str, .int .i64 c.lit.i, .string c.lit.s] 259) = w1 at *
  have a0 : w1.cell? ⟨w.heap.size, 0, none⟩ = some (.string tn) := N1.cell 0
  have a1 : w1.cell? ⟨w.heap.size, 1, none⟩ = some (.slice ca cn cc) := N1.cell 1
  have a2 : w1.cell? ⟨w.heap.size, 2, none⟩ = some (.int .i64 pk) := N1.cell 2
  have a3 : w1.cell? ⟨w.heap.size, 3, none⟩ = some (.int .i64 ix) := N1.cell 3
  have al := N1.lt
  have b0 : w1.cell? ⟨w.heap.size + 1, 0, none⟩ = some (.string c.col) := N2.cell 0
  have b1 : w1.cell? ⟨w.heap.size + 1, 1, none⟩ = some (.string (opT c.op)) := N2.cell 1
  have b4 : w1.cell? ⟨w.heap.size + 1, 4, none⟩ = some (.string c.lit.s) := N2.cell 4
  have bl := N2.lt
  have CP := slplaceOf_any (tn := tn) (pk := pk) (ix := ix) (unhide HH).1 hl c.col
  unfold schU at CP
  obtain ⟨qc, hqc⟩ : ∃ z, qcol cols c.col = z := ⟨_, rfl⟩
  rw [hqc] at CP
  have CP := hide CP
  rw [hqc] at hR
  clear hqc N1 N2
  generalize w.heap.size = G at *
  obtain ⟨os, hos⟩ : ∃ s, opT c.op = s := ⟨_, rfl⟩
  rw [hos] at b1
  by_cases h5 : c.op = 5
  · have e5 : os = ⟨#[33, 61]⟩ := by rw [← hos]; exact opT_ne.mpr h5
    have d1 : (os.toList == [33, 61]) = true := lit_t (by decide +kernel) e5
    have hu : useB c = false := by unfold useB; rw [h5]; rfl
    have hR : R = false := by rw [← hR, hu]; rfl
    subst hR
    clear h5 e5 hos CP hu
    go_wp2_with fail
    go_ret
    exact ⟨rfl, (unhide HH).2⟩
  have e5 : ¬ os = ⟨#[33, 61]⟩ := fun e => h5 (opT_ne.mp (hos.trans e))
  have d1 : (os.toList == [33, 61]) = false := lit_f (by decide +kernel) e5
  have hu : useB c = decide (c.lit.s.size ≤ 7) := by unfold useB; rw [decide_eq_true h5]; rfl
  rw [hu] at hR
  clear h5 e5 hos hu
  by_cases h7 : c.lit.s.size ≤ 7
  rotate_left
  · have d2 : decide ((c.lit.s.size : Int) ≤ 7) = false := decide_eq_false (by omega)
    have hR : R = false := by rw [← hR, decide_eq_false h7]; rfl
    subst hR
    clear h7 CP
    go_wp2_with fail
    go_ret
    exact ⟨rfl, (unhide HH).2⟩
  have d2 : decide ((c.lit.s.size : Int) ≤ 7) = true := decide_eq_true (by omega)
  rw [decide_eq_true h7] at hR
  clear h7
  by_cases h0 : 0 ≤ col
  rotate_left
  · have d3 : decide (0 ≤ col) = false := decide_eq_false h0
    have d3' : decide (col ≥ 0) = false := d3
    have hR : R = false := by rw [← hR, d3]; rfl
    subst hR
    clear h0 CP
    go_wp2_with fail
    go_ret
    exact ⟨rfl, (unhide HH).2⟩
  have d3 : decide (0 ≤ col) = true := decide_eq_true h0
  have d3' : decide (col ≥ 0) = true := d3
  have HR := hide (show R = decide (qc = col) by rw [← hR, d3]; rfl)
  clear h0 hR
  go_wp2_with fail
  refine (unhide CP).mono ?_
  rintro e w2 ⟨rfl, o2⟩
  have HO2 := hide ((unhide HH).2.trans o2 (fun _ _ e => e))
  clear CP o2 HH
  by_cases hq : qc = col
  · have d4 : (qc == col) = true := by simpa using hq
    have hR : R = true := by rw [unhide HR, decide_eq_true hq]
    subst hR
    clear hq
    go_wp2_with fail
    go_ret
    exact ⟨rfl, unhide HO2⟩
  · have d4 : (qc == col) = false := by simpa using hq
    have hR : R = false := by rw [unhide HR, decide_eq_false hq]
    subst hR
    clear hq
    go_wp2_with fail
    go_ret
    exact ⟨rfl, unhide HO2⟩
end
/-- The planner's work, in the simplest way. -/
def plI (cols : List Cl) (pk ix : Int) (l : List Cm) : Int :=
  if l.any (fun c => uoB cols c pk && decide (c.op = 2)) = true then 1 else if l.any (fun c => uoB cols c pk) = true then 2 else if l.any (fun c => uoB cols c ix) = true then 3 else 4
section
variable {cols : List Cl} {pk ix : Int} {l : List Cm}
theorem span_fold (col : Int) : ∀ (l : List Cm) (s : Qs), (0 < (l.foldl (spS cols col) s).n ↔ 0 < s.n ∨ l.any (spB cols col) = true) ∧ ((l.foldl (spS cols col) s).eq.1 = true ↔ s.eq.1 = true ∨ l.any (fun c => spB cols col c && decide (c.op = 2)) = true)
  | [], s => by simp
  | c :: l, s => by
    have ih := span_fold col l (spS cols col s c)
    rw [List.foldl_cons, List.any_cons, List.any_cons]
    rw [ih.1, ih.2]
    unfold spS
    cases hb : spB cols col c with
    | false => simp
    | true =>
      simp only [if_true, Bool.true_and, Bool.true_or, or_true, iff_true, Nat.zero_lt_succ, true_or, true_and, Bool.or_eq_true, decide_eq_true_eq]
      unfold spE
      by_cases h2 : c.op = 2
      · simp only [h2, decide_true, Bool.true_and]
        cases he : s.eq.1 with
        | true => simp [he]
        | false => simp
      · simp [h2]
theorem planI_kind (hpk : 0 ≤ pk) : plI cols pk ix l = (planD cols pk ix l).kind := by
  have hu : ∀ c, uoB cols c pk = spB cols pk c := fun c => by unfold uoB spB; rw [decide_eq_true hpk, Bool.and_true]
  have h1 := span_fold (cols := cols) pk l Qs.z
  have h2 := span_fold (cols := cols) ix l Qs.z
  unfold plI planD
  simp only [hu]
  have z1 : ¬ (Qs.z.eq.1 = true) := by decide
  have z2 : ¬ (0 < Qs.z.n) := by decide
  have a1 : (spanD cols l pk).eq.1 = true ↔ l.any (fun c => spB cols pk c && decide (c.op = 2)) = true := by unfold spanD; rw [h1.2]; exact ⟨fun h => h.resolve_left z1, .inr⟩
  have a2 : 0 < (spanD cols l pk).n ↔ l.any (spB cols pk) = true := by unfold spanD; rw [h1.1]; exact ⟨fun h => h.resolve_left z2, .inr⟩
  have a3 : 0 < (spanD cols l ix).n ↔ l.any (spB cols ix) = true := by unfold spanD; rw [h2.1]; exact ⟨fun h => h.resolve_left z2, .inr⟩
  by_cases c1 : l.any (fun c => spB cols pk c && decide (c.op = 2)) = true
  · rw [if_pos c1, if_pos (a1.mpr c1)]
  · rw [if_neg c1, if_neg (fun h => c1 (a1.mp h))]
    by_cases c2 : l.any (spB cols pk) = true
    · rw [if_pos c2, if_pos (a2.mpr c2)]
    · rw [if_neg c2, if_neg (fun h => c2 (a2.mp h))]
      by_cases c3 : 0 ≤ ix
      · have hv : ∀ c, uoB cols c ix = spB cols ix c := fun c => by unfold uoB spB; rw [decide_eq_true c3, Bool.and_true]
        simp only [hv]
        by_cases c4 : l.any (spB cols ix) = true
        · rw [if_pos c4, if_pos ⟨c3, a3.mpr c4⟩]
        · rw [if_neg c4, if_neg (fun h => c4 (a3.mp h.2))]
      · have hv : ∀ c, uoB cols c ix = false := fun c => by unfold uoB; rw [decide_eq_false c3, Bool.and_false, Bool.false_and]
        simp only [hv]
        rw [if_neg (by simp), if_neg (fun h => c3 h.1)]
theorem planI_rng : 1 ≤ plI cols pk ix l ∧ plI cols pk ix l ≤ 4 := by
  unfold plI
  split
  · omega
  · split
    · omega
    · split <;> omega
end
end Go.Proofs.Qxb6500412aGreat
