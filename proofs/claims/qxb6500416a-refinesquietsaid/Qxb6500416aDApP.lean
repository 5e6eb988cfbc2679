/-
  OWN WORK. A PATCH LAID ON A TEXT, in plain terms.
-/
import Derived.Test.Qxb6500416aDMgP
namespace Go.Proofs.Qxb6500416a
set_option linter.unusedSimpArgs false
set_option linter.unusedVariables false

def fitsH (a : List Str) (h : Hk) (cur : Nat) : Prop := (cur : Int) ≤ h.at_ ∧ h.at_ ≤ (a.length : Int) ∧ (h.del.length : Int) ≤ (a.length : Int) - h.at_
def applyF (a : List Str) : List Hk → Nat → Option (List Str)
  | [], cur => some (a.drop cur)
  | h :: p, cur => if (cur : Int) ≤ h.at_ ∧ h.at_ ≤ (a.length : Int) ∧ (h.del.length : Int) ≤ (a.length : Int) - h.at_ then
      (if cutL a h.at_.toNat (h.at_.toNat + h.del.length) = h.del then (applyF a p (h.at_.toNat + h.del.length)).map (fun r => cutL a cur h.at_.toNat ++ (h.ins ++ r)) else none) else none
def patB : List Hk → Nat
  | [] => 0
  | h :: p => h.del.flatten.length + h.ins.flatten.length + patB p
def patL : List Hk → Nat
  | [] => 0
  | h :: p => h.del.length + h.ins.length + patL p
/-- How far a patch has been laid. -/
structure ApAt (a : List Str) (p : List Hk) (out : List Str) (k cur : Nat) : Prop where
  kl : k ≤ p.length
  cl : cur ≤ a.length
  eq : applyF a p 0 = (applyF a (p.drop k) cur).map (fun r => out ++ r)
  len : out.length ≤ cur + patL (p.take k)
  siz : out.flatten.length ≤ (a.take cur).flatten.length + patB (p.take k)
theorem patL_snoc : ∀ (p : List Hk) (h : Hk), patL (p ++ [h]) = patL p + (h.del.length + h.ins.length)
  | [], h => by simp [patL]
  | x :: p, h => by
    rw [List.cons_append]
    simp only [patL]
    rw [patL_snoc p h]
    omega
theorem patB_snoc : ∀ (p : List Hk) (h : Hk), patB (p ++ [h]) = patB p + (h.del.flatten.length + h.ins.flatten.length)
  | [], h => by simp [patB]
  | x :: p, h => by
    rw [List.cons_append]
    simp only [patB]
    rw [patB_snoc p h]
    omega
theorem patL_take (p : List Hk) (k : Nat) : patL (p.take k) ≤ patL p := by
  have key : ∀ (a b : List Hk), patL a ≤ patL (a ++ b) := by
    intro a b
    induction a with
    | nil => simp [patL]
    | cons x r ih => simp only [List.cons_append, patL]; omega
  have := key (p.take k) (p.drop k)
  rw [List.take_append_drop] at this
  exact this
theorem patB_take (p : List Hk) (k : Nat) : patB (p.take k) ≤ patB p := by
  have key : ∀ (a b : List Hk), patB a ≤ patB (a ++ b) := by
    intro a b
    induction a with
    | nil => simp [patB]
    | cons x r ih => simp only [List.cons_append, patB]; omega
  have := key (p.take k) (p.drop k)
  rw [List.take_append_drop] at this
  exact this
section
variable {a : List Str} {p : List Hk} {out : List Str} {k cur : Nat}
theorem ApAt.start (a : List Str) (p : List Hk) : ApAt a p [] 0 0 := ⟨by omega, by omega, by simp, by simp, by simp⟩
theorem ApAt.no (h : ApAt a p out k cur) (hk : k < p.length) (hn : ¬ ((cur : Int) ≤ p[k].at_ ∧ p[k].at_ ≤ (a.length : Int) ∧ (p[k].del.length : Int) ≤ (a.length : Int) - p[k].at_)) : applyF a p 0 = none := by
  rw [h.eq, List.drop_eq_getElem_cons hk]
  simp only [applyF]
  rw [if_neg hn]
  rfl
theorem ApAt.no2 (h : ApAt a p out k cur) (hk : k < p.length) (hn : cutL a p[k].at_.toNat (p[k].at_.toNat + p[k].del.length) ≠ p[k].del) : applyF a p 0 = none := by
  rw [h.eq, List.drop_eq_getElem_cons hk]
  simp only [applyF]
  split
  · rfl
  · rfl
theorem ApAt.yes (h : ApAt a p out k cur) (hk : k < p.length) {at_ : Nat} (ha : p[k].at_ = (at_ : Int)) (h1 : cur ≤ at_) (h2 : at_ + p[k].del.length ≤ a.length) (he : cutL a at_ (at_ + p[k].del.length) = p[k].del) :
    ApAt a p (out ++ (cutL a cur at_ ++ p[k].ins)) (k + 1) (at_ + p[k].del.length) := by
  obtain ⟨kl, cl, eq, len, siz⟩ := h
  refine ⟨by omega, h2, ?_, ?_, ?_⟩
  · rw [eq, List.drop_eq_getElem_cons hk]
    simp only [applyF]
    rw [ha, Int.toNat_natCast, if_pos (by omega), if_pos he, Option.map_map]
    congr 1
    funext r
    simp
  · rw [List.take_succ_eq_append_getElem hk, patL_snoc, List.length_append, List.length_append, cutL_len _ _ _ h1 (by omega)]
    omega
  · rw [List.take_succ_eq_append_getElem hk, patB_snoc, List.flatten_append, List.flatten_append, List.length_append, List.length_append]
    have e1 := flat_take a cur at_ h1
    have e2 := flat_take a at_ (at_ + p[k].del.length) (by omega)
    omega
theorem ApAt.fin (h : ApAt a p out k cur) (hk : k = p.length) : applyF a p 0 = some (out ++ cutL a cur a.length) := by
  rw [h.eq, List.drop_eq_nil_of_le (by omega), cutL_all]
  rfl
end
end Go.Proofs.Qxb6500416a
