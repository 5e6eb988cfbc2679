/-
  OWN WORK. THE OBJECT STORE: pick.
-/
import Derived.Test.Qxb6500417aGreatOPack
namespace Go.Proofs.Qxb6500417aGreat
open Go.RowKit
set_option linter.unusedSimpArgs false
set_option linter.unusedVariables false

def freeTo (us : Nat → Nat) (b : Nat) : List Nat := (List.range b).filter (fun c => c != 0 && !usedW us c)
theorem freeTo_one (us : Nat → Nat) : freeTo us 1 = [] := rfl
theorem freeTo_succ (us : Nat → Nat) (b : Nat) (hb : b ≠ 0) : freeTo us (b + 1) = if usedW us b = true then freeTo us b else freeTo us b ++ [b] := by
  unfold freeTo
  rw [List.range_succ, List.filter_append]
  cases h : usedW us b <;> simp [h, hb]
theorem freeTo_mem (us : Nat → Nat) (b c : Nat) : c ∈ freeTo us b ↔ c < b ∧ c ≠ 0 ∧ usedW us c = false := by
  unfold freeTo
  simp
theorem freeTo_nodup (us : Nat → Nat) (b : Nat) : (freeTo us b).Nodup := List.nodup_range.sublist List.filter_sublist

structure Picked (us : Nat → Nat) (n : Nat) (L : List Nat) : Prop where
  le : L.length ≤ n
  nodup : L.Nodup
  free : ∀ b ∈ L, 1 ≤ b ∧ b < 145 ∧ usedW us b = false
  all : L.length < n → ∀ b, 1 ≤ b → b < 145 → usedW us b = false → b ∈ L
theorem picked_at (us : Nat → Nat) (n b : Nat) (hb : b ≤ 145) (hl : (freeTo us b).length ≤ n) (he : b = 145 ∨ (freeTo us b).length = n) : Picked us n (freeTo us b) := by
  refine ⟨hl, freeTo_nodup us b, ?_, ?_⟩
  · intro c hc
    rw [freeTo_mem] at hc
    exact ⟨by omega, by omega, hc.2.2⟩
  · intro hlt c h1 h2 h3
    rw [freeTo_mem]
    rcases he with rfl | he
    · exact ⟨h2, by omega, h3⟩
    · omega

def p3 (L : List Nat) : Array Value := #[.int .i64 (L.getD 0 0 : Nat), .int .i64 (L.getD 1 0 : Nat), .int .i64 (L.getD 2 0 : Nat)]
theorem p3_snoc (L : List Nat) (b : Nat) (h : L.length < 3) : (p3 L).setIfInBounds L.length (.int .i64 (b : Int)) = p3 (L ++ [b]) := by
  unfold p3
  match L, h with
  | [], _ => rfl
  | [a], _ => rfl
  | [a, c], _ => rfl
theorem p3_get (L : List Nat) (i : Nat) (h : i < 3) : (p3 L)[i]? = some (.int .i64 (L.getD i 0 : Nat)) := by
  unfold p3
  match i, h with
  | 0, _ => rfl
  | 1, _ => rfl
  | 2, _ => rfl

section
variable {w : World} {s d : Nat} {tab : Nat → Ent} {hd us : Nat → Nat} {nf rt : Nat} {D B : Nat → Nat} {recs : List Rec} {F : Nat → Prop}

set_option maxRecDepth 100000 in
set_option maxHeartbeats 4000000 in
theorem pick_any (h : SAt w s d tab hd us nf rt) (hu : wordsOk us) (n : Nat) (hn : n ≤ 3) :
    Calls Tryz.prog 191 #[.pointer (some ⟨s, 0, none⟩), .int .i64 n] w fun e w' => (∃ L, e = .returned (.tuple #[.agg #[.int .i64 (L.getD 0 0 : Nat), .int .i64 (L.getD 1 0 : Nat), .int .i64 (L.getD 2 0 : Nat)], .int .i64 L.length]) ∧ Picked us n L) ∧ Only (fun _ => False) w w' := by
  have hsl := Has.lt h
  have g0 : Has ((w.alloc (.cells #[.int .i64 0, .int .i64 0, .int .i64 0] 210)).alloc (.cells #[.int .i64 0, .int .i64 0, .int .i64 0] 210)) (w.heap.size + 1) (p3 (freeTo us 1)) 210 := by
    have := Has.new' (w.alloc (.cells #[.int .i64 0, .int .i64 0, .int .i64 0] 210)) #[.int .i64 0, .int .i64 0, .int .i64 0] 210 (w.heap.size + 1) (by simp)
    exact this
  have r0 : Has ((w.alloc (.cells #[.int .i64 0, .int .i64 0, .int .i64 0] 210)).alloc (.cells #[.int .i64 0, .int .i64 0, .int .i64 0] 210)) w.heap.size #[.int .i64 0, .int .i64 0, .int .i64 0] 210 := (Has.new w _ _).alloc _
  have G0 := hide g0
  have R0 := hide r0
  clear g0 r0
  go_enter Tryz.func191, Tryz.ntmps191
  go_wp2_with fail
  go_loopw [7, 8] (fun gv bv wr => ∃ b : Nat, 1 ≤ b ∧ b ≤ 145 ∧ (freeTo us b).length ≤ n ∧ bv = .int .i64 b ∧ gv = .int .i64 ((freeTo us b).length : Nat) ∧ Has wr w.heap.size #[.int .i64 0, .int .i64 0, .int .i64 0] 210 ∧ Has wr (w.heap.size + 1) (p3 (freeTo us b)) 210 ∧ Only (fun _ => False) w wr) (fun _ bv _ => (145 - intOf bv).toNat)
  case atStart => exact ⟨1, by omega, by omega, by rw [freeTo_one]; simp, rfl, rfl, unhide R0, unhide G0, ((Only.refl _ w).alloc _).alloc _⟩
  case round =>
    clear G0 R0
    obtain ⟨b, hb1, hb, hle, rfl, rfl, hr, hg, ho⟩ := hrel
    by_cases hgo : b < 145 ∧ (freeTo us b).length < n
    · obtain ⟨hb5, hgn⟩ := hgo
      have C1 := hide (isUsed_any (h.keep ho (fun h => h)) b hb5 (hu _ (by omega)))
      have hS := freeTo_succ us b (by omega)
      have hset := hg.setCell (freeTo us b).length (.int .i64 (b : Int))
      rw [p3_snoc _ _ (by omega)] at hset
      have hcell := hg.cell (freeTo us b).length
      rw [p3_get _ _ (by omega)] at hcell
      have hfree := hg.free (freeTo us b).length
      have hrset := hr.setCell_other (p := ⟨w.heap.size + 1, (freeTo us b).length, none⟩) (by simp) (.int .i64 (b : Int))
      have hoset : Only (fun _ => False) w (wr.setCell ⟨w.heap.size + 1, (freeTo us b).length, none⟩ (.int .i64 (b : Int))) := ho.setCell (p := ⟨w.heap.size + 1, (freeTo us b).length, none⟩) (fun hlt => absurd hlt (by simp)) _
      generalize hf : freeTo us b = L at *
      have Hset := hide hset
      have Hrset := hide hrset
      have Hoset := hide hoset
      have HS := hide hS
      clear hset hrset hoset hS
      generalize hll : L.length = ll at *
      have Hll := hide hll
      clear hll
      have a1 : decide ((b : Int) < 145) = true := by simp; omega
      have a2 : decide ((ll : Int) < (n : Int)) = true := by simp; omega
      have a3 : (ll : Int) < 3 := by omega
      have Hg := hide hg
      have Hr := hide hr
      clear hg hr
      generalize L.getD ll 0 = z0 at *
      cases hub : usedW us b with
      | true =>
        rw [hub] at C1 HS
        go_wp2_with fail
        refine (unhide C1).mono ?_
        rintro e w1 ⟨rfl, rfl⟩
        go_wp2_with fail
        go_roundw
        case rel =>
          have e := unhide HS
          simp only [if_true] at e
          exact ⟨b + 1, by omega, by omega, by rw [e, unhide Hll]; omega, by go_num, by rw [e, unhide Hll], unhide Hr, by rw [e]; exact unhide Hg, ho⟩
        case measure => simp [intOf]; omega
      | false =>
        rw [hub] at C1 HS
        go_wp2_with fail
        refine (unhide C1).mono ?_
        rintro e w1 ⟨rfl, rfl⟩
        go_wp2_with fail
        go_roundw
        case rel =>
          have e := unhide HS
          simp only [if_false, Bool.false_eq_true] at e
          exact ⟨b + 1, by omega, by omega, by rw [e, List.length_append, unhide Hll]; simp; omega, by go_num, by rw [e, List.length_append, unhide Hll]; go_num, unhide Hrset, by rw [e]; exact unhide Hset, unhide Hoset⟩
        case measure => simp [intOf]; omega
    · have hP := picked_at us n b hb hle (by omega)
      have HP := hide hP
      have k0 := hg.cell 0
      have k1 := hg.cell 1
      have k2 := hg.cell 2
      rw [p3_get _ _ (by omega)] at k0 k1 k2
      have l0 := hr.cell 0
      have l1 := hr.cell 1
      have l2 := hr.cell 2
      have y0 := hr.free 0
      have y1 := hr.free 1
      have y2 := hr.free 2
      clear hP
      generalize hf : freeTo us b = L at *
      clear hf
      generalize hll : L.length = ll at *
      have Hll := hide hll
      clear hll
      generalize hz0 : L.getD 0 0 = z0 at *
      generalize hz1 : L.getD 1 0 = z1 at *
      generalize hz2 : L.getD 2 0 = z2 at *
      have H0 := hide hz0
      have H1 := hide hz1
      have H2 := hide hz2
      clear hz0 hz1 hz2
      have hr3 := ((hr.setCell 0 (.int .i64 (z0 : Int))).setCell 1 (.int .i64 (z1 : Int))).setCell 2 (.int .i64 (z2 : Int))
      have hoo : Only (fun _ => False) w (((wr.setCell ⟨w.heap.size, 0, none⟩ (.int .i64 (z0 : Int))).setCell ⟨w.heap.size, 1, none⟩ (.int .i64 (z1 : Int))).setCell ⟨w.heap.size, 2, none⟩ (.int .i64 (z2 : Int))) :=
        ((ho.setCell (p := ⟨w.heap.size, 0, none⟩) (fun hlt => absurd hlt (Nat.lt_irrefl _)) _).setCell (p := ⟨w.heap.size, 1, none⟩) (fun hlt => absurd hlt (Nat.lt_irrefl _)) _).setCell (p := ⟨w.heap.size, 2, none⟩) (fun hlt => absurd hlt (Nat.lt_irrefl _)) _
      have Hoo := hide hoo
      have q0 := hr3.cell 0
      have q1 := hr3.cell 1
      have q2 := hr3.cell 2
      clear hoo
      by_cases hb5 : b < 145
      · have a1 : decide ((b : Int) < 145) = true := by simp; omega
        have a2 : decide ((ll : Int) < (n : Int)) = false := by simp; omega
        have a3 : ¬ ll < n := by omega
        clear hgo
        go_wp2_with fail
        refine bodyPost_ret (v := .tuple #[.agg #[.int .i64 (z0 : Int), .int .i64 (z1 : Int), .int .i64 (z2 : Int)], .int .i64 (ll : Int)]) (by simp [results, Tryz.results191, go_sem, q0, q1, q2]) rfl ?_
        refine ⟨⟨L, ?_, unhide HP⟩, unhide Hoo⟩
        rw [unhide H0, unhide H1, unhide H2, unhide Hll]
      · have a1 : decide ((b : Int) < 145) = false := by simp; omega
        clear hgo
        go_wp2_with fail
        refine bodyPost_ret (v := .tuple #[.agg #[.int .i64 (z0 : Int), .int .i64 (z1 : Int), .int .i64 (z2 : Int)], .int .i64 (ll : Int)]) (by simp [results, Tryz.results191, go_sem, q0, q1, q2]) rfl ?_
        refine ⟨⟨L, ?_, unhide HP⟩, unhide Hoo⟩
        rw [unhide H0, unhide H1, unhide H2, unhide Hll]
end
end Go.Proofs.Qxb6500417aGreat
