/-
  OWN WORK. THE OBJECT STORE: what a cut leaves, in plain terms.
-/
import Derived.Test.Qxb6500417aGreatOOpen
namespace Go.Proofs.Qxb6500417aGreat
open Go.RowKit
set_option linter.unusedSimpArgs false
set_option linter.unusedVariables false

def per (ob : Nat → Ob) : Nat → Ob := fun i => abortO (ob i)

theorem abort_ch (o : Ob) : (abortO o).ch = o.ch ∨ (abortO o).ch = [] := by
  unfold abortO
  by_cases h1 : o.st = 1
  · rw [if_pos h1]; exact .inr rfl
  · rw [if_neg h1]
    by_cases h3 : o.st = 3
    · rw [if_pos h3]; exact .inl rfl
    · rw [if_neg h3]; exact .inl rfl
theorem abort_mem {o : Ob} {b : Nat} (h : b ∈ (abortO o).ch) : b ∈ o.ch := by
  rcases abort_ch o with e | e
  · rwa [e] at h
  · rw [e] at h; simp at h
theorem abort_nodup {o : Ob} (h : o.ch.Nodup) : (abortO o).ch.Nodup := by
  rcases abort_ch o with e | e
  · rwa [e]
  · rw [e]; exact List.nodup_nil
theorem abort_st (o : Ob) (h3 : o.st ≤ 3) : ((abortO o).st = 0 ∧ (o.st = 0 ∨ o.st = 1)) ∨ ((abortO o).st = 2 ∧ lastO o = true) := by
  unfold abortO lastO
  by_cases h1 : o.st = 1
  · rw [if_pos h1]; exact .inl ⟨rfl, .inr h1⟩
  · rw [if_neg h1]
    by_cases h3' : o.st = 3
    · rw [if_pos h3']; exact .inr ⟨rfl, by simp [h3']⟩
    · rw [if_neg h3']
      by_cases h0 : o.st = 0
      · exact .inl ⟨h0, .inl h0⟩
      · have : o.st = 2 := by omega
        exact .inr ⟨this, by simp [this]⟩

section
variable {w : World} {s d : Nat} {tab : Nat → Ent} {hd us : Nat → Nat} {nf rt : Nat} {D B D' : Nat → Nat} {recs : List Rec} {F : Nat → Prop} {ob : Nat → Ob} {bk : Nat → List Nat} {po : Nat → Ob}

theorem Lays.congr {o : Ob} (h : Lays D o) (he : ∀ b ∈ o.ch, ∀ j, j < 64 → blkF D' b j = blkF D b j) : Lays D' o := ⟨h.k1, h.k4, h.n180, h.lies.congr he, h.by8⟩
theorem Lays.same {o o' : Ob} (h : Lays D o) (h1 : o'.ch = o.ch) (h2 : o'.kd = o.kd) (h3 : o'.dat = o.dat) : Lays D o' := by
  obtain ⟨st, kd, dat, ch⟩ := o'
  subst h1 h2 h3
  exact ⟨h.k1, h.k4, h.n180, h.lies, h.by8⟩

theorem Img.congr (h : Img D rt po) (h0 : ∀ j, j < 64 → D' j = D j) (hb : ∀ i, In i → ∀ b ∈ (po i).ch, ∀ j, j < 64 → blkF D' b j = blkF D b j) : Img D' rt po :=
  ⟨h.st, h.free, fun i hi h2 => (h.lays i hi h2).congr (hb i hi), h.nodup, h.disj,
    ⟨by rw [h0 0 (by omega)]; exact h.super.root0, h.super.root1, h.super.root2, fun i hi => by rw [h0 i (by have := hi.2; omega)]; exact h.super.row i hi, fun i h1 h2 => by rw [h0 i h2]; exact h.super.rest i h1 h2⟩, h.tw⟩

theorem SInv.img (h : SInv D tab hd us nf rt ob bk) : Img D rt (per ob) := by
  have hst := fun i (hi : In i) => abort_st (ob i) (h.rows.le3 i hi)
  refine ⟨?_, ?_, ?_, ?_, ?_, ?_, ?_⟩
  · intro i hi
    rcases hst i hi with h1 | h1
    · exact .inl h1.1
    · exact .inr h1.1
  · intro i hi h0
    show abortO (ob i) = Ob.free
    rcases hst i hi with h1 | h1
    · rcases h1.2 with e | e
      · rw [(h.rows.free i hi e).2]; rfl
      · unfold abortO; rw [if_pos e]
    · have h0' : (abortO (ob i)).st = 0 := h0
      rw [h1.1] at h0'; omega
  · intro i hi h2
    have h2' : (abortO (ob i)).st = 2 := h2
    rcases hst i hi with h1 | h1
    · rw [h1.1] at h2'; omega
    · have hne : (ob i).st ≠ 0 := by
        intro e
        have := h1.2
        unfold lastO at this
        rw [e] at this
        simp at this
      have hk := abort_keep (ob i) h1.2
      exact (h.rows.held i hi hne).lays.same hk.1 hk.2.1 hk.2.2
  · intro i hi; exact abort_nodup (h.rows.nodup i hi)
  · intro i j hi hj hne b hb hb'
    exact h.rows.disj i j hi hj hne b (abort_mem hb) (abort_mem hb')
  · exact h.super.congr (fun i hi => (abort_last (ob i) (h.rows.le3 i hi)).1) (fun i hi hl => (abort_keep (ob i) hl).1)
  · exact h.twp.sub (fun i hi hl => by
      have h1 := (abort_last (ob i) (h.rows.le3 i hi)).2
      have hl' : lastO (ob i) = true := by rw [← h1]; exact hl
      have hk := abort_keep (ob i) hl'
      exact ⟨hl', hk.2.1, hk.2.2⟩)

theorem OS.img (h : OS w s d D B recs ob rt F) : Img D rt (per ob) := by
  obtain ⟨⟨tab, hd, us, nf, bk, hs, hi⟩, _, _⟩ := h
  exact hi.img

theorem Img.put (h : Img D rt (per ob)) (k : Nat) (dat L : List Nat) (hLb : ∀ b ∈ L, 1 ≤ b ∧ b < 145 ∧ ∀ j, In j → b ∉ (ob j).ch) (kk : Nat) :
    Img (replayB D ((newsOf k dat L L.length).take kk)) rt (per ob) := by
  have hkey : ∀ r ∈ (newsOf k dat L L.length).take kk, r.1 ∈ L := fun r hr => newsOf_key k dat L _ (Nat.le_refl _) r (List.mem_of_mem_take hr)
  refine h.congr ?_ ?_
  · intro j hj
    have h1 := replay_other ((newsOf k dat L L.length).take kk) D 0 j (fun r hr e => by have := (hLb _ (hkey r hr)).1; omega) hj
    unfold blkF at h1
    simpa using h1
  · intro i hi b hb j hj
    exact replay_other _ _ _ _ (fun r hr e => (hLb _ (hkey r hr)).2.2 i hi (abort_mem (e ▸ hb))) hj

/-- What is seen of a table. -/
def View (ob ob' : Nat → Ob) : Prop := ∀ i, In i → liveO (ob i) = liveO (ob' i) ∧ (liveO (ob i) = true → (ob i).kd = (ob' i).kd ∧ (ob i).dat = (ob' i).dat)
def Same3 (ob ob' : Nat → Ob) : Prop := ∀ i, In i → (ob i).st = (ob' i).st ∧ (ob i).kd = (ob' i).kd ∧ (ob i).dat = (ob' i).dat
theorem View.same {rt' : Nat} {ob' : Nat → Ob} (h : Img D rt ob) (hf : ∀ i, In i → (ob' i).st = 0 ∨ (ob' i).st = 2) (hf0 : ∀ i, In i → (ob' i).st = 0 → (ob' i).kd = 0 ∧ (ob' i).dat = []) (hv : View ob ob') : Same3 ob ob' := by
  intro i hi
  obtain ⟨h1, h2⟩ := hv i hi
  unfold liveO at h1 h2
  rcases h.st i hi with e | e <;> rcases hf i hi with e' | e' <;> rw [e, e'] at h1 <;> rw [e, e']
  · have := hf0 i hi e'
    rw [h.free i hi e, this.1, this.2]
    exact ⟨rfl, rfl, rfl⟩
  · simp at h1
  · simp at h1
  · have := h2 (by rw [e]; rfl)
    exact ⟨rfl, this.1, this.2⟩
theorem Same3.view {ob' : Nat → Ob} (h : Same3 ob ob') : View ob ob' := by
  intro i hi
  obtain ⟨h1, h2, h3⟩ := h i hi
  unfold liveO
  rw [h1]
  exact ⟨rfl, fun _ => ⟨h2, h3⟩⟩
end
end Go.Proofs.Qxb6500417aGreat
