/-
  OWN WORK. THE INDEX: Check's tally; meet.
-/
import Derived.Test.Qxb6500418aILoad
namespace Go.Proofs.Qxb6500418a
open Go.RowKit Go.PlainAid
set_option linter.unusedSimpArgs false
set_option linter.unusedVariables false

def tcell (S : Nat → Bool) (nf : Nat) (off : Nat) : Value := if off < 49 then .bool (S off) else if off = 49 then .int .i64 (nf : Int) else .bool false
def TAt (w : World) (t : Nat) (S : Nat → Bool) (nf : Nat) : Prop := Has w t (tabV 51 (tcell S nf)) 71
section
variable {w : World} {t : Nat} {S : Nat → Bool} {nf : Nat}
theorem TAt.cel (h : TAt w t S nf) (i : Nat) (hi : i < 49) : w.cell? ⟨t, i, none⟩ = some (.bool (S i)) ∧ w.frozen? ⟨t, i, none⟩ = false := by
  refine ⟨?_, Has.free h _⟩
  rw [Has.cell h, tabV_get _ _ _ (by omega)]
  unfold tcell
  rw [if_pos hi]
theorem TAt.files_ (h : TAt w t S nf) : w.cell? ⟨t, 49, none⟩ = some (.int .i64 (nf : Int)) ∧ w.frozen? ⟨t, 49, none⟩ = false := by
  refine ⟨?_, Has.free h _⟩
  rw [Has.cell h, tabV_get _ _ _ (by omega)]; rfl
theorem TAt.bad_ (h : TAt w t S nf) : w.cell? ⟨t, 50, none⟩ = some (.bool false) ∧ w.frozen? ⟨t, 50, none⟩ = false := by
  refine ⟨?_, Has.free h _⟩
  rw [Has.cell h, tabV_get _ _ _ (by omega)]; rfl
theorem TAt.keep {Q : Nat → Prop} {w' : World} (h : TAt w t S nf) (ho : Only Q w w') (hS : ¬ Q t) : TAt w' t S nf := Has.keep h ho hS
theorem TAt.lt (h : TAt w t S nf) : t < w.heap.size := Has.lt h
theorem TAt.set (h : TAt w t S nf) (i : Nat) (hi : i < 49) : TAt (w.setCell ⟨t, i, none⟩ (.bool true)) t (updT S i true) nf := by
  have := Has.setCell h i (.bool true)
  rw [tabV_set] at this
  unfold TAt
  rw [tabV_congr 51 (g := tcell (updT S i true) nf)] at this
  · exact this
  · intro j hj
    unfold tcell
    by_cases e : j = i
    · subst e; rw [if_pos rfl, if_pos hi, updT_same]
    · rw [if_neg e, updT_other _ _ _ _ e]
theorem TAt.setFiles (h : TAt w t S nf) (v : Nat) : TAt (w.setCell ⟨t, 49, none⟩ (.int .i64 (v : Int))) t S v := by
  have := Has.setCell h 49 (.int .i64 (v : Int))
  rw [tabV_set] at this
  unfold TAt
  rw [tabV_congr 51 (g := tcell S v)] at this
  · exact this
  · intro j hj
    unfold tcell
    by_cases e : j = 49
    · subst e; rfl
    · rw [if_neg e, if_neg e, if_neg e]
set_option maxRecDepth 100000 in
theorem meet_any (h : TAt w t S nf) (c : Nat) (h1 : 1 ≤ c) (h2 : c < 49) (hs : S c = false) :
    Calls Try.prog 38 #[.pointer (some ⟨t, 0, none⟩), .int .i64 c] w fun e w' => e = .returned (.tuple #[]) ∧ TAt w' t (updT S c true) nf ∧ Only (fun k => k = t) w w' := by
  have htl := h.lt
  obtain ⟨c1, f1⟩ := h.cel c h2
  rw [hs] at c1
  have a1 : decide ((c : Int) ≤ 0) = false := by simp; omega
  have a2 : decide ((49 : Int) ≤ (c : Int)) = false := by simp; omega
  have a3 : (c : Int) < 49 := by omega
  have r := h.set c h2
  have o : Only (fun k => k = t) w (w.setCell ⟨t, c, none⟩ (.bool true)) := (Only.refl (fun k => k = t) w).setCell (p := ⟨t, c, none⟩) (fun _ => rfl) _
  have HR := hide r
  have HO := hide o
  clear h r o hs
  go_enter Try.func38, Try.ntmps38
  go_wp2_with fail

  go_end0
  exact ⟨rfl, unhide HR, unhide HO⟩
end

/-- The marks behind these nodes. -/
def mrk (S : Nat → Bool) (l : List Nat) : Nat → Bool := fun c => S c || decide (c ∈ l)
theorem mrk_nil (S : Nat → Bool) : mrk S [] = S := by funext c; simp [mrk]
theorem mrk_cons (S : Nat → Bool) (c : Nat) (l : List Nat) : mrk (updT S c true) l = mrk S (c :: l) := by
  funext x
  unfold mrk
  by_cases e : x = c
  · subst e; simp [updT_same]
  · rw [updT_other _ _ _ _ e]; simp [e]
theorem mrk_app (S : Nat → Bool) (a b : List Nat) : mrk (mrk S a) b = mrk S (a ++ b) := by
  funext x
  simp [mrk, Bool.or_assoc]
theorem mrk_other {S : Nat → Bool} {l : List Nat} {c : Nat} (h : S c = false) (hn : c ∉ l) : mrk S l c = false := by simp [mrk, h, hn]
end Go.Proofs.Qxb6500418a
