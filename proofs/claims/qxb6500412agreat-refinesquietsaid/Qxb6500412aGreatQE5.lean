/-
  OWN WORK. QUERY's MODEL, plain: a sound state stays sound: begin, a lock taken, a table written. No program in sight.
-/
import Derived.Test.Qxb6500412aGreatS37
import Derived.Test.Qxb6500412aGreatXM6
namespace Go.Proofs.Qxb6500412aGreat
open Go.RowKit Go.PlainAid
set_option linter.unusedSimpArgs false
set_option linter.unusedVariables false

section
variable {M : Mu} {s : Nat} {nm : ByteArray} {mode : Int} {D : Db}
theorem MuOk.begin (ok : MuOk M) (s : Nat) : MuOk (M.begin s) := by
  refine ⟨ok.g, ok.gs, ok.nms, ok.out, ok.ex, fun o n ho ha => ok.idle o n ho ?_, fun o ho ha => ok.si o ho ?_, ok.rg⟩
  · have ha' : (if o = s then true else M.act o) = false := ha
    split at ha'
    · cases ha'
    · exact ha'
  · have ha' : (if o = s then true else M.act o) = false := ha
    split at ha'
    · cases ha'
    · exact ha'
theorem MuQ.begin (ok : MuQ M) (s : Nat) : MuQ (M.begin s) := by
  refine ⟨ok.g, ok.gs, ok.out, ok.ex, fun o n ho ha => ok.idle o n ho ?_, fun o ho ha => ok.si o ho ?_, ok.rg, ok.nms, ok.tb⟩
  · have ha' : (if o = s then true else M.act o) = false := ha
    split at ha'
    · cases ha'
    · exact ha'
  · have ha' : (if o = s then true else M.act o) = false := ha
    split at ha'
    · cases ha'
    · exact ha'
theorem setL_at (o : Nat) (n : ByteArray) : (M.setL s nm mode).lk o n = if o = s ∧ n = nm ∧ M.lk s nm < mode then mode else M.lk o n := rfl
theorem MuOk.lock (ok : MuOk M) (hs : s < 4) (ha : M.act s = true) (hb : ¬ M.bars s nm mode) (hm : mode = 1 ∨ mode = 2) : MuOk (M.setL s nm mode) := by
  have nb : ∀ o, o < 4 → o ≠ s → M.lk o nm ≠ 2 ∧ (mode = 2 → M.lk o nm = 0) := fun o ho hne => by
    refine ⟨fun c => hb ⟨o, ho, hne, .inl c⟩, fun c => ?_⟩
    by_cases e : M.lk o nm = 0
    · exact e
    · exact absurd ⟨o, ho, hne, .inr ⟨c, e⟩⟩ hb
  refine ⟨ok.g, ok.gs, ok.nms, fun o n ho h2 => ok.out o n ho (fun c => ?_), fun a o n hs1 ho hne h2 => ?_, fun o n ho hz => ?_, ok.si, fun o n ho => ?_⟩
  · rw [setL_at] at h2
    split at h2
    · next e =>
      obtain ⟨rfl, rfl, e3⟩ := e
      rcases hm with rfl | rfl
      · omega
      · exact h2 rfl
    · exact h2 c
  · rw [setL_at] at h2 ⊢
    split at h2
    · next e =>
      obtain ⟨rfl, rfl, e3⟩ := e
      rw [if_neg (fun c => hne c.1.symm)]
      exact (nb o ho (fun c => hne c.symm)).2 h2
    · have h0 := ok.ex a o n hs1 ho hne h2
      split
      · next e =>
        obtain ⟨rfl, rfl, e3⟩ := e
        exact absurd h2 (nb a hs1 hne).1
      · exact h0
  · rw [setL_at]
    split
    · next e =>
      obtain ⟨rfl, _⟩ := e
      rw [show (M.setL o nm mode).act o = M.act o from rfl, ha] at hz
      cases hz
    · exact ok.idle o n ho hz
  · rw [setL_at]
    split
    · rcases hm with rfl | rfl <;> omega
    · exact ok.rg o n ho
theorem MuOk.write (ok : MuOk M) (hs : s < 4) (h2 : M.lk s nm = 2) (hD : DGd D) (hn : nmsD D = nmsD (M.see s)) (hf : ∀ o, o ≠ nm → findD D o = findD (M.see s) o) : MuOk (M.setV s D) := by
  have e : ∀ o, (M.setV s D).see o = if o = s then D else M.see o := fun _ => rfl
  refine ⟨ok.g, fun o ho => ?_, fun o ho => ?_, fun o n ho hl => ?_, ok.ex, ok.idle, fun o ho ha => ?_, ok.rg⟩
  · rw [e]
    split
    · exact hD
    · exact ok.gs o ho
  · rw [e]
    split
    · rw [hn]; exact ok.nms s hs
    · exact ok.nms o ho
  · rw [e]
    split
    · next c =>
      subst c
      have hne : n ≠ nm := fun c => by rw [c] at hl; exact hl h2
      rw [hf n hne]
      exact ok.out o n ho hl
    · exact ok.out o n ho hl
  · rw [e]
    split
    · next c =>
      subst c
      have := ok.idle o nm ho ha
      rw [h2] at this
      cases this
    · exact ok.si o ho ha
theorem putT_nms {D : Db} {t : Tb} (G : DGd D) (h : ∃ y ∈ D, y.nm = t.nm) : nmsD (putT t D) = nmsD D := by
  obtain ⟨y, hy, hn⟩ := h
  have e : ∀ u : Tb, nmsD (putT u D) = putBy (fun x : ByteArray => x) u.nm (nmsD D) := fun u => putBy_map (fun t : Tb => t.nm) (fun x : ByteArray => x) (fun t : Tb => t.nm) (fun _ => rfl) u D
  rw [e, ← hn, ← e, G.putT_same hy]
theorem putT_oth {D : Db} {t : Tb} {o : ByteArray} (G : DGd D) (h : ∃ y ∈ D, y.nm = t.nm) (ho : o ≠ t.nm) : findD (putT t D) o = findD D o := by
  rw [find_putT G.srt h, if_neg ho]
/-- A state in which the table has been written. -/
theorem MuOk.put (ok : MuOk M) (hs : s < 4) (h2 : M.lk s nm = 2) {t : Tb} (ht : TbOk t) (hn : t.nm = nm) (hf : findD (M.see s) nm ≠ none) : MuOk (M.setV s (putT t (M.see s))) := by
  have hy : ∃ y ∈ M.see s, y.nm = t.nm := by
    cases c : findD (M.see s) nm with
    | none => exact absurd c hf
    | some y =>
      obtain ⟨h1, h3⟩ := findD_mem c
      exact ⟨y, h1, by rw [h3, hn]⟩
  have G := ok.gs s hs
  exact ok.write hs h2 (G.put_same ht hy) (putT_nms G hy) (fun o ho => putT_oth G hy (by rw [hn]; exact ho))
end
end Go.Proofs.Qxb6500412aGreat
