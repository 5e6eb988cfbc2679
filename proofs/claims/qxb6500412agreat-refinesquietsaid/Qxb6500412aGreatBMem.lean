/-
  OWN WORK. THE B-TREE: a decoded node in memory; childOf.
-/
import Derived.Test.Qxb6500412aGreatPgSee
import Derived.Test.Qxb6500412aGreatOTab
import Derived.Test.Qxb6500412aGreatBNd
import Derived.BigRegion
import Derived.BigQuiet
import Derived.Deep.QuietTactic
import Derived.Deep.DeepCutAuto
namespace Go.Proofs.Qxb6500412aGreat
open Go.RowKit Go.PlainAid
set_option linter.unusedSimpArgs false
set_option linter.unusedVariables false

/-- A decoded node: kind, n, keys, vals, kids; beyond n whatever there is. -/
structure Node where
  k : Nat
  n : Nat
  K : Nat → ByteArray
  V : Nat → ByteArray
  C : Nat → Nat
def ndc (x : Node) (off : Nat) : Value :=
  if off = 0 then .int .i64 (x.k : Int) else if off = 1 then .int .i64 (x.n : Int) else if off < 6 then .string (x.K (off - 2)) else if off < 10 then .string (x.V (off - 6)) else .int .i64 (x.C (off - 10) : Int)
def NdAt (w : World) (g : Nat) (x : Node) : Prop := Has w g (tabV 15 (ndc x)) 218
/-- The node as a value. -/
def ndA (x : Node) : Value := .agg #[.int .i64 (x.k : Int), .int .i64 (x.n : Int), .string (x.K 0), .string (x.K 1), .string (x.K 2), .string (x.K 3), .string (x.V 0), .string (x.V 1), .string (x.V 2), .string (x.V 3), .int .i64 (x.C 0 : Int), .int .i64 (x.C 1 : Int), .int .i64 (x.C 2 : Int), .int .i64 (x.C 3 : Int), .int .i64 (x.C 4 : Int)]
theorem ndc_lit (x : Node) : (#[.int .i64 (x.k : Int), .int .i64 (x.n : Int), .string (x.K 0), .string (x.K 1), .string (x.K 2), .string (x.K 3), .string (x.V 0), .string (x.V 1), .string (x.V 2), .string (x.V 3), .int .i64 (x.C 0 : Int), .int .i64 (x.C 1 : Int), .int .i64 (x.C 2 : Int), .int .i64 (x.C 3 : Int), .int .i64 (x.C 4 : Int)] : Array Value) = tabV 15 (ndc x) := rfl
section
variable {w : World} {g : Nat} {x : Node}
theorem NdAt.keep {S : Nat → Prop} {w' : World} (h : NdAt w g x) (ho : Only S w w') (hS : ¬ S g) : NdAt w' g x := Has.keep h ho hS
theorem NdAt.off (h : NdAt w g x) (off : Nat) (ho : off < 15) : w.cell? ⟨g, off, none⟩ = some (ndc x off) ∧ w.frozen? ⟨g, off, none⟩ = false := by
  refine ⟨?_, Has.free h _⟩
  rw [Has.cell h, tabV_get _ _ _ ho]
theorem NdAt.kind (h : NdAt w g x) : w.cell? ⟨g, 0, none⟩ = some (.int .i64 (x.k : Int)) ∧ w.frozen? ⟨g, 0, none⟩ = false := h.off 0 (by omega)
theorem NdAt.num (h : NdAt w g x) : w.cell? ⟨g, 1, none⟩ = some (.int .i64 (x.n : Int)) ∧ w.frozen? ⟨g, 1, none⟩ = false := h.off 1 (by omega)
theorem NdAt.key (h : NdAt w g x) (i : Nat) (hi : i < 4) : w.cell? ⟨g, 2 + i, none⟩ = some (.string (x.K i)) ∧ w.frozen? ⟨g, 2 + i, none⟩ = false := by
  have := h.off (2 + i) (by omega)
  unfold ndc at this
  rw [if_neg (by omega), if_neg (by omega), if_pos (by omega)] at this
  have e : 2 + i - 2 = i := by omega
  rw [e] at this
  exact this
theorem NdAt.val (h : NdAt w g x) (i : Nat) (hi : i < 4) : w.cell? ⟨g, 6 + i, none⟩ = some (.string (x.V i)) ∧ w.frozen? ⟨g, 6 + i, none⟩ = false := by
  have := h.off (6 + i) (by omega)
  unfold ndc at this
  rw [if_neg (by omega), if_neg (by omega), if_neg (by omega), if_pos (by omega)] at this
  have e : 6 + i - 6 = i := by omega
  rw [e] at this
  exact this
theorem NdAt.kid (h : NdAt w g x) (i : Nat) (hi : i < 5) : w.cell? ⟨g, 10 + i, none⟩ = some (.int .i64 (x.C i : Int)) ∧ w.frozen? ⟨g, 10 + i, none⟩ = false := by
  have := h.off (10 + i) (by omega)
  unfold ndc at this
  rw [if_neg (by omega), if_neg (by omega), if_neg (by omega), if_neg (by omega)] at this
  have e : 10 + i - 10 = i := by omega
  rw [e] at this
  exact this
def upF {α : Type} (f : Nat → α) (i : Nat) (v : α) : Nat → α := fun j => if j = i then v else f j
theorem upF_same {α : Type} (f : Nat → α) (i : Nat) (v : α) : upF f i v i = v := by simp [upF]
theorem upF_other {α : Type} (f : Nat → α) (i j : Nat) (v : α) (h : j ≠ i) : upF f i v j = f j := by simp [upF, h]
theorem NdAt.set (h : NdAt w g x) (off : Nat) (v : Value) (y : Node) (hy : ∀ j, j < 15 → ndc y j = if j = off then v else ndc x j) : NdAt (w.setCell ⟨g, off, none⟩ v) g y := by
  have := Has.setCell h off v
  rw [tabV_set] at this
  unfold NdAt
  rw [tabV_congr 15 (g := ndc y)] at this
  · exact this
  · intro j hj; exact (hy j hj).symm
theorem NdAt.setNum (h : NdAt w g x) (n : Nat) : NdAt (w.setCell ⟨g, 1, none⟩ (.int .i64 (n : Int))) g { x with n := n } := h.set 1 _ _ (fun j hj => by
  by_cases e : j = 1
  · subst e; rfl
  · rw [if_neg e]; unfold ndc; rw [if_neg e, if_neg e])
theorem NdAt.setKey (h : NdAt w g x) (i : Nat) (hi : i < 4) (s : ByteArray) : NdAt (w.setCell ⟨g, 2 + i, none⟩ (.string s)) g { x with K := upF x.K i s } := h.set (2 + i) _ _ (fun j hj => by
  unfold ndc
  by_cases e0 : j = 0
  · subst e0; rw [if_pos rfl, if_neg (by omega), if_pos rfl]
  · rw [if_neg e0]
    by_cases e1 : j = 1
    · subst e1; rw [if_pos rfl, if_neg (by omega), if_neg (by omega), if_pos rfl]
    · rw [if_neg e1]
      by_cases e6 : j < 6
      · rw [if_pos e6]
        by_cases e : j = 2 + i
        · subst e
          rw [if_pos rfl]
          have e2 : 2 + i - 2 = i := by omega
          show Value.string (upF x.K i s (2 + i - 2)) = _
          rw [e2, upF_same]
        · rw [if_neg e, if_neg e0, if_neg e1, if_pos e6]
          show Value.string (upF x.K i s (j - 2)) = _
          rw [upF_other _ _ _ _ (by omega)]
      · rw [if_neg e6, if_neg (show ¬ j = 2 + i by omega), if_neg e0, if_neg e1, if_neg e6])
theorem NdAt.setVal (h : NdAt w g x) (i : Nat) (hi : i < 4) (s : ByteArray) : NdAt (w.setCell ⟨g, 6 + i, none⟩ (.string s)) g { x with V := upF x.V i s } := h.set (6 + i) _ _ (fun j hj => by
  unfold ndc
  by_cases e0 : j = 0
  · subst e0; rw [if_pos rfl, if_neg (by omega), if_pos rfl]
  · rw [if_neg e0]
    by_cases e1 : j = 1
    · subst e1; rw [if_pos rfl, if_neg (by omega), if_neg (by omega), if_pos rfl]
    · rw [if_neg e1]
      by_cases e6 : j < 6
      · rw [if_pos e6, if_neg (show ¬ j = 6 + i by omega), if_neg e0, if_neg e1, if_pos e6]
      · rw [if_neg e6]
        by_cases e10 : j < 10
        · rw [if_pos e10]
          by_cases e : j = 6 + i
          · subst e
            rw [if_pos rfl]
            have e2 : 6 + i - 6 = i := by omega
            show Value.string (upF x.V i s (6 + i - 6)) = _
            rw [e2, upF_same]
          · rw [if_neg e, if_neg e0, if_neg e1, if_neg e6, if_pos e10]
            show Value.string (upF x.V i s (j - 6)) = _
            rw [upF_other _ _ _ _ (by omega)]
        · rw [if_neg e10, if_neg (show ¬ j = 6 + i by omega), if_neg e0, if_neg e1, if_neg e6, if_neg e10])
theorem NdAt.setKid (h : NdAt w g x) (i : Nat) (hi : i < 5) (c : Nat) : NdAt (w.setCell ⟨g, 10 + i, none⟩ (.int .i64 (c : Int))) g { x with C := upF x.C i c } := h.set (10 + i) _ _ (fun j hj => by
  unfold ndc
  by_cases e0 : j = 0
  · subst e0; rw [if_pos rfl, if_neg (by omega), if_pos rfl]
  · rw [if_neg e0]
    by_cases e1 : j = 1
    · subst e1; rw [if_pos rfl, if_neg (by omega), if_neg (by omega), if_pos rfl]
    · rw [if_neg e1]
      by_cases e6 : j < 6
      · rw [if_pos e6, if_neg (show ¬ j = 10 + i by omega), if_neg e0, if_neg e1, if_pos e6]
      · rw [if_neg e6]
        by_cases e10 : j < 10
        · rw [if_pos e10, if_neg (show ¬ j = 10 + i by omega), if_neg e0, if_neg e1, if_neg e6, if_pos e10]
        · rw [if_neg e10]
          by_cases e : j = 10 + i
          · subst e
            rw [if_pos rfl]
            have e2 : 10 + i - 10 = i := by omega
            show Value.int .i64 ((upF x.C i c (10 + i - 10) : Nat) : Int) = _
            rw [e2, upF_same]
          · rw [if_neg e, if_neg e0, if_neg e1, if_neg e6, if_neg e10]
            show Value.int .i64 ((upF x.C i c (j - 10) : Nat) : Int) = _
            rw [upF_other _ _ _ _ (by omega)])
theorem NdAt.new (w : World) (x : Node) : NdAt (w.alloc (.cells #[.int .i64 (x.k : Int), .int .i64 (x.n : Int), .string (x.K 0), .string (x.K 1), .string (x.K 2), .string (x.K 3), .string (x.V 0), .string (x.V 1), .string (x.V 2), .string (x.V 3), .int .i64 (x.C 0 : Int), .int .i64 (x.C 1 : Int), .int .i64 (x.C 2 : Int), .int .i64 (x.C 3 : Int), .int .i64 (x.C 4 : Int)] 218)) w.heap.size x := Has.new w _ _
end
/-- Which child a key lies under. -/
structure Child (x : Node) (key : ByteArray) (i : Nat) : Prop where
  lt_ : i < x.n
  le : ∀ j, j < i → lt key (x.K j) = false
  stop : i + 1 < x.n → lt key (x.K i) = true
set_option maxRecDepth 100000 in
theorem childOf_any (x : Node) (key : ByteArray) (h1 : 1 ≤ x.n) (h5 : x.n ≤ 5) (w : World) :
    Calls Tryz.prog 337 #[ndA x, .string key] w fun e w' => ∃ i : Nat, e = .returned (.int .i64 (i : Int)) ∧ Child x key i ∧ Only (fun _ => False) w w' := by
  have hN := NdAt.new w x
  have oN : Only (fun _ => False) w (w.alloc (.cells #[.int .i64 (x.k : Int), .int .i64 (x.n : Int), .string (x.K 0), .string (x.K 1), .string (x.K 2), .string (x.K 3), .string (x.V 0), .string (x.V 1), .string (x.V 2), .string (x.V 3), .int .i64 (x.C 0 : Int), .int .i64 (x.C 1 : Int), .int .i64 (x.C 2 : Int), .int .i64 (x.C 3 : Int), .int .i64 (x.C 4 : Int)] 218)) := (Only.refl _ w).alloc _
  have HN := hide hN
  have ON := hide oN
  clear hN oN
  unfold ndA
  go_enter Tryz.func337, Tryz.ntmps337
  go_upto_region 1 with fail
  generalize w.alloc (.cells #[.int .i64 (x.k : Int), .int .i64 (x.n : Int), .string (x.K 0), .string (x.K 1), .string (x.K 2), .string (x.K 3), .string (x.V 0), .string (x.V 1), .string (x.V 2), .string (x.V 3), .int .i64 (x.C 0 : Int), .int .i64 (x.C 1 : Int), .int .i64 (x.C 2 : Int), .int .i64 (x.C 3 : Int), .int .i64 (x.C 4 : Int)] 218) = w1 at *
  generalize w.heap.size = g at *
  have c1 := (unhide HN).num.1
  go_wp2_with fail
  go_loop [5] (fun iv => ∃ i : Nat, iv = .int .i64 i ∧ i < x.n ∧ ∀ j, j < i → lt key (x.K j) = false) (fun iv => 5 - (intOf iv).toNat)
  case atStart => exact ⟨0, rfl, by omega, fun j hj => by omega⟩
  case round =>
    obtain ⟨i, rfl, hi, hle⟩ := hrel
    have Hle := hide hle
    clear hle
    by_cases hs : i + 1 < x.n
    · have ck := ((unhide HN).key i (by omega)).1
      have a1 : decide ((i : Int) + 1 < (x.n : Int)) = true := decide_eq_true (by omega)
      have a2 : (i : Int) < 4 := by omega
      cases hl : lt key (x.K i) with
      | true =>
        have hl2 : Op.bytesLess key.toList (x.K i).toList = true := hl
        have RR := hide (show Child x key i from ⟨hi, unhide Hle, fun _ => hl⟩)
        clear hl
        go_wp2_with fail
        go_ret
        exact ⟨i, rfl, unhide RR, unhide ON⟩
      | false =>
        have hl2 : Op.bytesLess key.toList (x.K i).toList = false := hl
        have Hn : Hid (∀ j, j < i + 1 → lt key (x.K j) = false) := hide (fun j hj => by
          by_cases e : j = i
          · subst e; exact hl
          · exact unhide Hle j (by omega))
        clear hl
        go_wp2_with fail
        go_round
        case rel => exact ⟨i + 1, by go_num, by omega, unhide Hn⟩
        case measure => simp [intOf]; omega
    · have a1 : decide ((i : Int) + 1 < (x.n : Int)) = false := decide_eq_false (by omega)
      have RR := hide (show Child x key i from ⟨hi, unhide Hle, fun h => absurd h hs⟩)
      go_wp2_with fail
      go_ret
      exact ⟨i, rfl, unhide RR, unhide ON⟩
end Go.Proofs.Qxb6500412aGreat
