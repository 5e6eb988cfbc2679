/-
  OWN WORK. LINES OF TEXT: JoinLines, SameLines.
-/
import Derived.Test.Qxb6500416aDText
namespace Go.Proofs.Qxb6500416a
open Go.RowKit Go.PlainAid
set_option linter.unusedSimpArgs false
set_option linter.unusedVariables false

theorem sb_app (a b : Str) : sb a ++ sb b = sb (a ++ b) := ls_inj (by rw [ls_cat, ls_sb, ls_sb, ls_sb])
theorem cat_sb (a b : Str) (h : a.length + b.length ≤ 10000000) : binOp .add 9 (.string (sb a)) (.string (sb b)) = pure (.string (sb (a ++ b))) := by
  rw [← sb_app]
  simp [binOp, Op.stringOp]
  intro h'
  exfalso
  have h1 := sb_size a
  have h2 := sb_size b
  omega
/-- A list of lines, as it lies in memory. -/
def LnIn (w : World) (v : Value) (l : List Str) : Prop := StrsIn w v (l.map sb)
theorem LnIn.keep {S : Nat → Prop} {w w' : World} {v : Value} {l : List Str} (h : LnIn w v l) (ho : Only S w w') (hS : ∀ k, v.ownBlock = some k → ¬ S k) : LnIn w' v l := StrsIn.keep h ho hS
theorem LnIn.parts {w : World} {v : Value} {l : List Str} (h : LnIn w v l) : ∃ a cap, v = .slice a l.length cap ∧ (0 < l.length → ∃ g, a = some ⟨g, 0, none⟩ ∧ ∀ i (h : i < l.length), w.cell? ⟨g, i, none⟩ = some (.string (sb l[i]))) := by
  obtain ⟨a, cap, rfl, hc⟩ := h
  refine ⟨a, cap, by simp, fun hn => ?_⟩
  obtain ⟨g, rfl, hg⟩ := hc (by simpa using hn)
  refine ⟨g, rfl, fun i hi => ?_⟩
  have := hg i (by simpa using hi)
  simpa using this
set_option maxRecDepth 100000 in
set_option maxHeartbeats 1000000 in
theorem joinLines_any {w : World} (v : Value) (l : List Str) (h : LnIn w v l) (hl : l.length ≤ 1000000) (hlen : l.flatten.length ≤ 1000000) :
    Calls Try.prog 48 #[v] w fun e w' => e = .returned (.string (sb l.flatten)) ∧ w = w' := by
  obtain ⟨a, cap, rfl, hc⟩ := h.parts
  have Hc := hide hc
  clear h hc
  go_enter Try.func48, Try.ntmps48
  go_wp2_with fail
  go_loop [3, 4] (fun sv iv => ∃ i : Nat, i ≤ l.length ∧ iv = .int .i64 i ∧ sv = .string (sb (l.take i).flatten)) (fun _ iv => l.length - (intOf iv).toNat)
  case atStart => exact ⟨0, by omega, rfl, rfl⟩
  case round =>
    obtain ⟨i, hi, rfl, rfl⟩ := hrel
    by_cases hil : i < l.length
    · obtain ⟨g, rfl, hcell⟩ := unhide Hc (by omega)
      have c0 := hcell i hil
      have hgl : g < w.heap.size := World.block_lt_of_cell? w _ c0
      have a1 : decide ((i : Int) < (l.length : Int)) = true := by simp; omega
      have a2 : (i : Int) < (l.length : Int) := by omega
      have hsn : (l.take (i + 1)).flatten = (l.take i).flatten ++ l[i] := by rw [List.take_succ_eq_append_getElem hil, List.flatten_append, List.flatten_cons, List.flatten_nil, List.append_nil]
      have hle : (l.take (i + 1)).flatten.length ≤ 1000000 := by
        have := congrArg (fun t : List Str => t.flatten.length) (List.take_append_drop (i + 1) l)
        simp only [List.flatten_append, List.length_append] at this
        omega
      have hcat := cat_sb (l.take i).flatten l[i] (by rw [hsn, List.length_append] at hle; omega)
      have Hsn := hide hsn
      clear hcell hsn hle
      generalize (l.take i).flatten = A at *
      generalize l[i] = x at *
      go_wp2_with fail
      go_round
      case rel => exact ⟨i + 1, by omega, by go_num, by rw [unhide Hsn]⟩
      case measure => simp [intOf]; omega
    · have a1 : decide ((i : Int) < (l.length : Int)) = false := by simp; omega
      have a1' : ¬ (i : Int) < (l.length : Int) := by omega
      have e1 : i = l.length := by omega
      subst e1
      rw [List.take_length]
      go_wp2_with fail
      go_ret
      exact ⟨rfl, rfl⟩
theorem beqB (a b : ByteArray) : (a.toList == b.toList) = decide (ls a = ls b) := ls_eq_iff a b
theorem lines_ne {A B : List Str} (h : A.length = B.length) {i : Nat} (hi : i < A.length) (hne : A[i] ≠ B[i]'(by omega)) : A ≠ B := by
  intro e
  subst e
  exact hne rfl
set_option maxRecDepth 100000 in
set_option maxHeartbeats 1000000 in
theorem sameLines_any {w : World} (v u : Value) (A B : List Str) (hA : LnIn w v A) (hB : LnIn w u B) (hl : A.length ≤ 1000000) :
    Calls Try.prog 67 #[v, u] w fun e w' => e = .returned (.bool (decide (A = B))) ∧ Only (fun _ => False) w w' := by
  obtain ⟨a, capa, rfl, hca⟩ := hA.parts
  obtain ⟨b, capb, rfl, hcb⟩ := hB.parts
  have HA := hide hca
  have HB := hide hcb
  clear hca hcb hA hB
  by_cases hlen : A.length = B.length
  · have a0 : ((A.length : Int) != (B.length : Int)) = false := by rw [hlen]; simp
    go_enter Try.func67, Try.ntmps67
    go_wp2_with fail
    go_loopw [5] (fun iv wr => ∃ i : Nat, i ≤ A.length ∧ iv = .int .i64 i ∧ A.take i = B.take i ∧ Only (fun _ => False) w wr) (fun iv _ => A.length - (intOf iv).toNat)
    case atStart => exact ⟨0, by omega, rfl, by simp, Only.refl _ _⟩
    case round =>
      obtain ⟨i, hi, rfl, htk, ho⟩ := hrel
      by_cases hil : i < A.length
      · have hilB : i < B.length := by omega
        obtain ⟨g, rfl, h1⟩ := unhide HA (by omega)
        obtain ⟨g', rfl, h2⟩ := unhide HB (by omega)
        have c0 := h1 i hil
        have d0 := h2 i hilB
        have hg : g < w.heap.size := World.block_lt_of_cell? w _ c0
        have hg' : g' < w.heap.size := World.block_lt_of_cell? w _ d0
        rw [← World.cell?_of_block (ho.block g hg (fun h => h))] at c0
        rw [← World.cell?_of_block (ho.block g' hg' (fun h => h))] at d0
        have hs := ho.size
        have hg1 : g < wr.heap.size := by omega
        have hg1' : g' < wr.heap.size := by omega
        have a1 : decide ((i : Int) < (A.length : Int)) = true := by simp; omega
        have a2 : (i : Int) < (A.length : Int) := by omega
        have a3 : (i : Int) < (B.length : Int) := by omega
        by_cases he : A[i] = B[i]
        · have e1 : ((sb A[i]).toList == (sb B[i]).toList) = true := by rw [he]; simp
          have ht2 : A.take (i + 1) = B.take (i + 1) := by rw [List.take_succ_eq_append_getElem hil, List.take_succ_eq_append_getElem hilB, htk, he]
          have Ht2 := hide ht2
          have HO := hide ho
          clear he htk ht2 h1 h2 ho
          generalize sb A[i] = x at *
          generalize sb B[i] = y at *
          go_wp2_with fail
          go_quiet (fail)
          have ho4 := (unhide HO).drewO nq
          go_wp2_with fail
          go_roundw
          case rel => exact ⟨i + 1, by omega, by go_num, unhide Ht2, ho4⟩
          case measure => simp [intOf]; omega
        · have e1 : ((sb A[i]).toList == (sb B[i]).toList) = false := by rw [beqB, ls_sb, ls_sb, decide_eq_false he]
          have hne := lines_ne hlen hil he
          have HO := hide ho
          have Hne := hide hne
          clear he htk hne h1 h2 ho
          generalize sb A[i] = x at *
          generalize sb B[i] = y at *
          go_wp2_with fail
          go_quiet (fail)
          have ho4 := (unhide HO).drewO nq
          go_wp2_with fail
          go_ret
          exact ⟨by rw [decide_eq_false (unhide Hne)]; rfl, ho4⟩
      · have a1 : decide ((i : Int) < (A.length : Int)) = false := by simp; omega
        have a1' : ¬ (i : Int) < (A.length : Int) := by omega
        have e1 : i = A.length := by omega
        have hAB : A = B := by
          rw [e1, List.take_length] at htk
          rw [hlen, List.take_length] at htk
          exact htk
        have HAB := hide hAB
        clear hAB htk e1
        go_wp2_with fail
        go_ret
        exact ⟨by rw [decide_eq_true (unhide HAB)]; rfl, ho⟩
  · have a0 : ((A.length : Int) != (B.length : Int)) = true := by simp; omega
    have Hne : Hid (A ≠ B) := hide (fun e => hlen (by rw [e]))
    clear hlen
    go_enter Try.func67, Try.ntmps67
    go_wp2_with fail
    go_ret
    exact ⟨by rw [decide_eq_false (unhide Hne)]; rfl, Only.refl _ _⟩
end Go.Proofs.Qxb6500416a
