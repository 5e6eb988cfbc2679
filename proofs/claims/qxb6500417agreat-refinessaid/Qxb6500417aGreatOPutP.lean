/-
  OWN WORK. THE OBJECT STORE's PUT, in plain terms.
-/
import Derived.Test.Qxb6500417aGreatOCom
namespace Go.Proofs.Qxb6500417aGreat
open Go.RowKit
set_option linter.unusedSimpArgs false
set_option linter.unusedVariables false

theorem nodup_sub_le : ∀ (l m : List Nat), l.Nodup → (∀ a ∈ l, a ∈ m) → l.length ≤ m.length := by
  intro l
  induction l with
  | nil => intro m _ _; simp
  | cons a r ih =>
    intro m hn hs
    have ha : a ∈ m := hs a (by simp)
    have hn' := List.nodup_cons.1 hn
    have := ih (m.erase a) hn'.2 (fun c hc => by
      have h1 := hs c (by simp [hc])
      have h2 : c ≠ a := fun e => hn'.1 (e ▸ hc)
      exact (List.mem_erase_of_ne h2).2 h1)
    rw [List.length_erase_of_mem ha] at this
    have : 0 < m.length := List.length_pos_of_mem ha
    simp
    omega
theorem flat_le (f : Nat → List Nat) (c : Nat) : ∀ (l : List Nat), (∀ a ∈ l, (f a).length ≤ c) → (l.flatMap f).length ≤ c * l.length := by
  intro l
  induction l with
  | nil => intro _; simp
  | cons a r ih =>
    intro h
    rw [List.flatMap_cons, List.length_append, List.length_cons, Nat.mul_succ]
    have := ih (fun b hb => h b (by simp [hb]))
    have := h a (by simp)
    omega

section
variable {D : Nat → Nat} {tab : Nat → Ent} {hd us : Nat → Nat} {nf rt : Nat} {ob : Nat → Ob} {bk : Nat → List Nat}

theorem Rows.ch3 (h : Rows D tab us nf ob) {i : Nat} (hi : In i) : (ob i).ch.length ≤ 3 := by
  by_cases h0 : (ob i).st = 0
  · rw [h.chfree hi h0]; simp
  · exact (h.held i hi h0).lies.le3.2

/-- Where an id is free, three blocks are. -/
theorem Rows.room (h : Rows D tab us nf ob) {i : Nat} (hi : In i) (h0 : (ob i).st = 0) {n : Nat} (hn : n ≤ 3) {L : List Nat} (hL : Picked us n L) : L.length = n := by
  by_cases hlt : L.length < n
  · exfalso
    have hall := hL.all hlt
    have h1 := nodup_sub_le ((List.range 144).map (· + 1)) (L ++ ((List.range 49).filter (fun j => j != 0 && j != i)).flatMap (fun j => (ob j).ch)) (by
      rw [List.nodup_iff_pairwise_ne, List.pairwise_map]
      refine List.Pairwise.imp ?_ (List.nodup_iff_pairwise_ne.1 (List.nodup_range (n := 144)))
      intro a b hab; omega) (by
      intro a ha
      simp only [List.mem_map, List.mem_range] at ha
      obtain ⟨b, hb, rfl⟩ := ha
      rw [List.mem_append]
      cases hu : usedW us (b + 1) with
      | false => exact .inl (hall (b + 1) (by omega) (by omega) hu)
      | true =>
        right
        obtain ⟨j, hj, hm⟩ := (h.used (b + 1) (by omega)).1 hu
        rw [List.mem_flatMap]
        have hji : j ≠ i := fun e => by subst e; rw [h.chfree hj h0] at hm; simp at hm
        have := hj.1
        have := hj.2
        refine ⟨j, ?_, hm⟩
        simp only [List.mem_filter, List.mem_range]
        refine ⟨by omega, ?_⟩
        simp [hji]; omega)
    have h2 : ((List.range 49).filter (fun j => j != 0 && j != i)).length ≤ 47 := by
      have a1 := nodup_sub_le (0 :: i :: (List.range 49).filter (fun j => j != 0 && j != i)) (List.range 49) (by
        have := hi.1
        refine List.nodup_cons.2 ⟨?_, List.nodup_cons.2 ⟨?_, List.nodup_range.sublist List.filter_sublist⟩⟩
        · simp; omega
        · simp) (by
        intro a ha
        have := hi.2
        simp only [List.mem_cons, List.mem_filter, List.mem_range] at ha ⊢
        omega)
      simp only [List.length_cons, List.length_range] at a1
      omega
    have h3 := flat_le (fun j => (ob j).ch) 3 ((List.range 49).filter (fun j => j != 0 && j != i)) (by
      intro a ha
      simp only [List.mem_filter, List.mem_range] at ha
      have : a ≠ 0 := by intro e; rw [e] at ha; simp at ha
      exact h.ch3 ⟨by omega, by omega⟩)
    rw [List.length_append, List.length_map, List.length_range] at h1
    omega
  · have := hL.le; omega
end

theorem replay_other : ∀ (news : List Rec) (D : Nat → Nat) (c j : Nat), (∀ r ∈ news, r.1 ≠ c) → j < 64 → blkF (replayB D news) c j = blkF D c j := by
  intro news
  induction news with
  | nil => intro D c j _ _; rfl
  | cons a r ih =>
    intro D c j h hj
    have e : replayB D (a :: r) = replayB (putB D a.1 a.2) r := rfl
    rw [e, ih _ c j (fun x hx => h x (by simp [hx])) hj, blk_put_other (fun e => h a (by simp) e.symm) hj]
theorem replay_at : ∀ (news : List Rec) (D : Nat → Nat) (r : Rec) (j : Nat), (news.map (·.1)).Nodup → r ∈ news → j < 64 → blkF (replayB D news) r.1 j = r.2 j := by
  intro news
  induction news with
  | nil => intro D r j _ h; simp at h
  | cons a t ih =>
    intro D r j hn hr hj
    have e : replayB D (a :: t) = replayB (putB D a.1 a.2) t := rfl
    rw [List.map_cons, List.nodup_cons] at hn
    rw [e]
    rcases List.mem_cons.1 hr with rfl | hr
    · rw [replay_other _ _ _ _ (fun x hx e => hn.1 (by rw [← e]; exact List.mem_map.2 ⟨x, hx, rfl⟩)) hj, blk_put_same hj]
    · exact ih _ r j hn.2 hr hj

def newsOf (k : Nat) (dat : List Nat) (L : List Nat) (n : Nat) : List Rec := (List.range n).map (fun i => (L.getD i 0, packF k (L.getD (i + 1) 0) dat.length (dF dat) (60 * i)))
theorem newsOf_succ (k : Nat) (dat L : List Nat) (n : Nat) : newsOf k dat L (n + 1) = newsOf k dat L n ++ [(L.getD n 0, packF k (L.getD (n + 1) 0) dat.length (dF dat) (60 * n))] := by
  unfold newsOf
  rw [List.range_succ, List.map_append]
  rfl
theorem newsOf_len (k : Nat) (dat L : List Nat) (n : Nat) : (newsOf k dat L n).length = n := by simp [newsOf]
theorem newsOf_keys (k : Nat) (dat L : List Nat) : (newsOf k dat L L.length).map (·.1) = L := by
  unfold newsOf
  rw [List.map_map]
  apply List.ext_getElem (by simp)
  intro j h1 h2
  simp only [List.getElem_map, List.getElem_range, Function.comp]
  exact getD_in h2
theorem newsOf_key (k : Nat) (dat L : List Nat) (n : Nat) (hn : n ≤ L.length) : ∀ r ∈ newsOf k dat L n, r.1 ∈ L := by
  intro r hr
  unfold newsOf at hr
  simp only [List.mem_map, List.mem_range] at hr
  obtain ⟨i, hi, rfl⟩ := hr
  exact getD_mem (by omega)
theorem newsOf_lies (D : Nat → Nat) (k : Nat) (dat L : List Nat) (hl : L.length = nB dat.length) (hn : L.Nodup) (hb : ∀ b ∈ L, 1 ≤ b ∧ b < 145) : Lies (replayB D (newsOf k dat L L.length)) k dat.length (dF dat) L := by
  refine ⟨hl, fun i hi => hb _ (getD_mem hi), fun i hi j hj => ?_⟩
  have := replay_at (newsOf k dat L L.length) D (L.getD i 0, packF k (L.getD (i + 1) 0) dat.length (dF dat) (60 * i)) j (by rw [newsOf_keys]; exact hn) (by
    unfold newsOf
    simp only [List.mem_map, List.mem_range]
    exact ⟨i, hi, rfl⟩) hj
  exact this

section
variable {D : Nat → Nat} {tab : Nat → Ent} {hd us : Nat → Nat} {nf rt : Nat} {ob : Nat → Ob} {bk : Nat → List Nat}

theorem lowId_spec (h : Rows D tab us nf ob) : (lowId tab = 0 ∧ ∀ i, In i → (ob i).st ≠ 0) ∨ (In (lowId tab) ∧ (ob (lowId tab)).st = 0 ∧ ∀ j, In j → j < lowId tab → (ob j).st ≠ 0) := by
  unfold lowId
  cases hf : (List.range 49).find? (fun n => n != 0 && (tab n).state == 0) with
  | none =>
    left
    refine ⟨rfl, fun i hi h0 => ?_⟩
    rw [List.find?_eq_none] at hf
    have h1 := hi.1
    have h2 := hi.2
    have := hf i (by simp; omega)
    have hs : (tab i).state = 0 := by rw [h.st i hi]; exact h0
    rw [hs] at this
    simp at this
    omega
  | some n =>
    right
    rw [List.find?_eq_some_iff_getElem] at hf
    obtain ⟨hp, i, hi, he, hb⟩ := hf
    simp at he
    subst he
    simp at hi
    have h0 : i ≠ 0 := by intro e; rw [e] at hp; simp at hp
    have hin : In i := ⟨by omega, by omega⟩
    refine ⟨hin, ?_, ?_⟩
    · show (ob i).st = 0
      rw [← h.st i hin]
      simpa [h0] using hp
    · intro j hj hlt hz
      have hlt' : j < i := hlt
      have := hb j hlt'
      have hs : (tab j).state = 0 := by rw [h.st j hj]; exact hz
      have h1 := hj.1
      simp [hs] at this
      omega

theorem SInv.put (h : SInv D tab hd us nf rt ob bk) {i : Nat} (hi : In i) (h0 : (ob i).st = 0) (k : Nat) (hk1 : 1 ≤ k) (hk4 : k ≤ 4) (dat : List Nat) (hd180 : dat.length ≤ 180) (h8 : ∀ j, j < dat.length → dF dat j < 256)
    (hno : ∀ j, In j → liveO (ob j) = true → ¬ ((ob j).kd = k ∧ (ob j).dat = dat)) (L : List Nat) (hL : Picked us (nB dat.length) L) (hll : L.length = nB dat.length) (hsh : Nat) (hhsh : hsh = hashN (dF dat) k dat.length) :
    SInv (replayB D (newsOf k dat L L.length)) (setNext (updT tab i ⟨1, k, dat.length, L.getD 0 0, hsh, 0⟩) i (hd (hsh % 8))) (updT hd (hsh % 8) i) (markL us L true) (nf - 1) rt (updT ob i ⟨1, k, dat, L⟩) (updT bk (hsh % 8) (i :: bk (hsh % 8))) := by
  have hLb : ∀ b ∈ L, 1 ≤ b ∧ b < 145 := fun b hb => ⟨(hL.free b hb).1, (hL.free b hb).2.1⟩
  have hother : ∀ c, c ∉ L → ∀ j, j < 64 → blkF (replayB D (newsOf k dat L L.length)) c j = blkF D c j := fun c hc j hj =>
    replay_other _ _ _ _ (fun r hr e => hc (e ▸ newsOf_key k dat L _ (Nat.le_refl _) r hr)) hj
  have hH : Held (replayB D (newsOf k dat L L.length)) ⟨1, k, dat.length, L.getD 0 0, hsh, 0⟩ ⟨1, k, dat, L⟩ := ⟨rfl, hk1, hk4, rfl, hd180, rfl, hhsh, newsOf_lies D k dat L hll hL.nodup hLb, h8⟩
  have hR := h.rows.take hi h0 ⟨1, k, dat.length, L.getD 0 0, hsh, 0⟩ ⟨1, k, dat, L⟩ (by simp) (by simp) rfl hH hL.nodup (fun b hb => (hL.free b hb).2.2) (fun c _ hc j hj => hother c hc j hj)
  have hz : ∀ j, j < 64 → replayB D (newsOf k dat L L.length) j = D j := fun j hj => by
    have h1 := hother 0 (fun hm => by have := hLb 0 hm; omega) j hj
    unfold blkF at h1
    simpa using h1
  have hlast : ∀ j, In j → lastO (updT ob i ⟨1, k, dat, L⟩ j) = lastO (ob j) := by
    intro j hj
    by_cases e : j = i
    · subst e; rw [updT_same]; unfold lastO; rw [h0]; rfl
    · rw [updT_other _ _ _ _ e]
  refine ⟨hR.next ((NextOnly.refl _).setNext _ _) ?_, ?_, ?_, ?_, ?_⟩
  · intro j hj hz
    refine setNext_other (fun e => ?_)
    subst e; rw [updT_same] at hz; simp at hz
  · refine h.bucks.hang hi (Nat.mod_lt _ (by omega)) (by unfold liveO; rw [h0]; rfl) (by rw [updT_same]; rfl) (fun j hj => updT_other _ _ _ _ hj) (fun j hj => by rw [setNext_other hj, updT_other _ _ _ _ hj]) setNext_same ?_
    unfold setNext
    rw [updT_same, updT_same]
  · have hs := h.super
    refine ⟨by rw [hz 0 (by omega)]; exact hs.root0, hs.root1, fun h1 => ?_, fun j hj => ?_, fun j h1 h2 => by rw [hz j h2]; exact hs.rest j h1 h2⟩
    · have hrt : In rt := ⟨by omega, hs.root1⟩
      rw [hlast rt hrt]; exact hs.root2 h1
    · have := hj.2
      rw [hz j (by omega), hlast j hj, hs.row j hj]
      by_cases e : j = i
      · subst e; unfold lastO; rw [h0]; rfl
      · rw [updT_other _ _ _ _ e]
  · intro a b ha hb h1 h2 h3 h4
    by_cases ea : a = i
    · subst ea
      by_cases eb : b = a
      · exact eb.symm
      · rw [updT_same, updT_other _ _ _ _ eb] at h3 h4
        rw [updT_other _ _ _ _ eb] at h2
        exact absurd ⟨h3.symm, h4.symm⟩ (hno b hb h2)
    · rw [updT_other _ _ _ _ ea] at h1 h3 h4
      by_cases eb : b = i
      · subst eb; rw [updT_same] at h3 h4
        exact absurd ⟨h3, h4⟩ (hno a ha h1)
      · rw [updT_other _ _ _ _ eb] at h2 h3 h4
        exact h.twl a b ha hb h1 h2 h3 h4
  · refine h.twp.sub (fun j hj h1 => ?_)
    rw [hlast j hj] at h1
    have e : j ≠ i := fun e => by subst e; unfold lastO at h1; rw [h0] at h1; simp at h1
    rw [updT_other _ _ _ _ e]
    exact ⟨h1, rfl, rfl⟩
end
end Go.Proofs.Qxb6500417aGreat
