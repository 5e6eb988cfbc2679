/-
  OWN WORK. THE B-TREE: what a forest shows, as plain lists. No Go in sight.
-/
import Derived.Test.Qxb6500412aGreatBTr4
namespace Go.Proofs.Qxb6500412aGreat
open Go.RowKit Go.PlainAid
set_option linter.unusedSimpArgs false
set_option linter.unusedVariables false

/-- What a forest shows: a list of entries under each handle. -/
abbrev Vu := Nat → Option (List KV)
def Vz (S : Vu) (h : Int) : Option (List KV) := if 0 ≤ h ∧ h < 8 then S h.toNat else none
def Lz (S : Vu) (h : Int) : List KV := (Vz S h).getD []
def updV (S : Vu) (i : Nat) (o : Option (List KV)) : Vu := fun j => if j = i then o else S j
def al8 (S : Vu) : List KV := (List.range 8).flatMap (fun i => (S i).getD [])
structure Vok (S : Vu) : Prop where
  srt : ∀ i l, S i = some l → Srt l
  out : ∀ i, 8 ≤ i → S i = none
  ct : (al8 S).length ≤ 64
theorem Vok.len {S : Vu} (V : Vok S) (h : Int) : (Lz S h).length ≤ 64 := by
  unfold Lz Vz
  by_cases c : 0 ≤ h ∧ h < 8
  · rw [if_pos c]
    have := V.ct
    unfold al8 at this
    have h2 : ((S h.toNat).getD []).Sublist ((List.range 8).flatMap (fun i => (S i).getD [])) := by
      rw [List.flatMap_def]
      exact List.sublist_flatten_of_mem (List.mem_map.mpr ⟨h.toNat, List.mem_range.mpr (by omega), rfl⟩)
    exact Nat.le_trans h2.length_le this
  · rw [if_neg c]; simp
theorem Vok.lsrt {S : Vu} (V : Vok S) (h : Int) : Srt (Lz S h) := by
  unfold Lz Vz
  by_cases c : 0 ≤ h ∧ h < 8
  · rw [if_pos c]
    cases hs : S h.toNat with
    | none => exact List.Pairwise.nil
    | some l => exact V.srt _ _ hs
  · rw [if_neg c]; exact List.Pairwise.nil
def putS (S : Vu) (h : Int) (k v : ByteArray) : Vu × Int := match Vz S h with
  | none => (S, 7)
  | some l => if 16 < k.size ∨ 16 < v.size then (S, 8) else if getL k l = none ∧ 64 ≤ (al8 S).length then (S, 6) else (updV S h.toNat (some (putL k v l)), 0)
def delS (S : Vu) (h : Int) (k : ByteArray) : Vu × Int := match Vz S h with
  | none => (S, 7)
  | some l => if getL k l = none then (S, 9) else (updV S h.toNat (some (delL k l)), 0)
def dropS (S : Vu) (h : Int) : Vu × Int := match Vz S h with
  | none => (S, 7)
  | some l => (updV S h.toNat none, 0)
def lowS (S : Vu) : Option Nat := (List.range 8).find? (fun i => (S i).isNone)
def newS (S : Vu) : Vu × Int × Int := match lowS S with
  | none => (S, -1, 6)
  | some i => (updV S i (some []), i, 0)
theorem lowS_none {S : Vu} (h : ∀ j, j < 8 → S j ≠ none) : lowS S = none := by
  unfold lowS
  refine List.find?_eq_none.mpr (fun j hj => ?_)
  have := h j (List.mem_range.mp hj)
  cases hs : S j with
  | none => exact absurd hs this
  | some l => simp
theorem lowS_some {S : Vu} {i : Nat} (h8 : i < 8) (h0 : S i = none) (h : ∀ j, j < i → S j ≠ none) : lowS S = some i := by
  unfold lowS
  rw [List.find?_eq_some_iff_append]
  refine ⟨by simp [h0], List.range i, (List.range (7 - i)).map (fun j => i + 1 + j), ?_, fun j hj => ?_⟩
  · rw [show (8 : Nat) = i + (7 - i + 1) by omega, List.range_add, List.range_succ_eq_map]
    simp [Function.comp_def]
    intro a ha
    omega
  · have := h j (List.mem_range.mp hj)
    cases hs : S j with
    | none => exact absurd hs this
    | some l => simp
end Go.Proofs.Qxb6500412aGreat
