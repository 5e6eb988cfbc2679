/-
  OWN WORK. WHAT A CUT OF THE STEP JUST PLAYED MAY LEAVE. No Go in sight.
-/
import Derived.Test.Qxb6500412aGreatWalInv
namespace Go.Proofs.Qxb6500412aGreat
set_option linter.unusedSimpArgs false
set_option linter.unusedVariables false

/-- The disk D shows the list X. -/
def Shows (D X : List ByteArray) : Prop := ∀ b, b < 80 → D.getD (73 + b) emptyB = X.getD b emptyB

structure CutInv (base : List ByteArray) (recs : List (Nat × ByteArray)) (was com : List ByteArray) : Prop where
  len : base.length = 153
  sz : ∀ x ∈ base, x.size = 128
  keys : ∀ r ∈ recs, r.1 < 153
  rsz : ∀ r ∈ recs, r.2.size = 128
  short : recs.length ≤ 146
  either : ∀ k, Shows (recov (replay base (recs.take k))) was ∨ Shows (recov (replay base (recs.take k))) com
  foot : Shows (recov (replay base (recs.take 0))) was
  work : ∀ k, recs.length ≤ k → Shows (recov (replay base (recs.take k))) com

theorem recov_of_zero {D : List ByteArray} (hz : byteAt (D.getD 0 emptyB) 0 = 0) : recov D = D := by
  have : recRecs D = [] := by unfold recRecs; rw [if_pos hz]
  unfold recov; rw [this]; rfl

section
variable {blk : List ByteArray} {op : Bool} {es : List (Nat × ByteArray)} {com cur : List ByteArray} {dirty : List Bool}

/-- No write since the mark. -/
theorem Inv.still (h : Inv blk op es com cur dirty) : CutInv blk [] com com := by
  have hr := recov_of_zero h.zero
  have hs : ∀ k, Shows (recov (replay blk ([].take k))) com := by
    intro k
    rw [List.take_nil]
    show Shows (recov blk) com
    rw [hr]
    exact h.coms
  exact ⟨h.len, h.sz, by simp, by simp, by simp, fun k => .inl (hs k), hs 0, fun k _ => hs k⟩

/-- A Commit since the mark. -/
theorem Inv.committed (h : Inv blk true es com cur dirty) : CutInv blk (commitAll blk es) com cur := by
  have hc := commit_cut h.len h.short h.good h.zero
  have hold : ∀ {D : List ByteArray}, (∀ b, b < 80 → D.getD (73 + b) emptyB = blk.getD (73 + b) emptyB) → Shows D com := fun hD b hb => by rw [hD b hb, h.coms b hb]
  have hnew : ∀ {D : List ByteArray}, (∀ b, b < 80 → D.getD (73 + b) emptyB = shown blk es b) → Shows D cur := fun hD b hb => by rw [hD b hb, h.curs b hb]
  refine ⟨h.len, h.sz, commitAll_in h.short, commitAll_size h.len h.short h.sz h.good, commitAll_length h.len h.short, fun k => ?_, ?_, fun k hk => ?_⟩
  · rcases hc k with ⟨h1, _⟩ | ⟨h1, _⟩
    · exact .inl (hold h1)
    · exact .inr (hnew h1)
  · rcases hc 0 with ⟨h1, _⟩ | ⟨h1, h2⟩
    · exact hold h1
    · rcases h2 with h2 | h2
      · omega
      · subst h2
        exact hold h1
  · rcases hc k with ⟨h1, h2⟩ | ⟨h1, _⟩
    · omega
    · exact hnew h1
end

section
variable {base : List ByteArray} {recs : List (Nat × ByteArray)} {was com : List ByteArray}

theorem CutInv.image_len (h : CutInv base recs was com) (k : Nat) : (replay base (recs.take k)).length = 153 := by simpa using h.len
theorem CutInv.image_sz (h : CutInv base recs was com) (k : Nat) : ∀ x ∈ replay base (recs.take k), x.size = 128 := replay_sizes _ _ h.sz (fun r hr => h.rsz r (List.mem_of_mem_take hr))

/-- Behind a cut and a recovery that shows X. -/
theorem CutInv.again (h : CutInv base recs was com) (k : Nat) {X : List ByteArray} (hX : Shows (recov (replay base (recs.take k))) X) : CutInv (replay base (recs.take k)) (recRecs (replay base (recs.take k))) X X := by
  have hs : ∀ j, Shows (recov (replay (replay base (recs.take k)) ((recRecs (replay base (recs.take k))).take j))) X := fun j => by rw [recov_idem]; exact hX
  exact ⟨h.image_len k, h.image_sz k, recRecs_in _, recRecs_size _ (h.image_len k) (h.image_sz k), Nat.le_trans (recRecs_length _) (by omega), fun j => .inl (hs j), hs 0, fun j _ => hs j⟩

theorem CutInv.inv (h : CutInv base recs was com) (k : Nat) {X : List ByteArray} (lX : X.length = 80) (hX : Shows (recov (replay base (recs.take k))) X) : Inv (recov (replay base (recs.take k))) false [] X X (nots 80) :=
  Inv.fresh (by rw [recov_length]; exact h.image_len k) (recov_sizes _ (h.image_len k) (h.image_sz k)) (recov_zero _) hX lX

theorem gotB_shows (D X : List ByteArray) : gotB D [] X = true ↔ Shows D X := by
  rw [gotB_iff]
  exact ⟨fun h b hb => by have := h b hb; rwa [shown_nil] at this, fun h b hb => by rw [shown_nil]; exact h b hb⟩
end

end Go.Proofs.Qxb6500412aGreat
