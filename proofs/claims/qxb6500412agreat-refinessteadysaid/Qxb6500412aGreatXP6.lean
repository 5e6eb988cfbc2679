/-
  OWN WORK. TXN, plain: the lock table. No program in sight.
-/
import Derived.Test.Qxb6500412aGreatXP5
namespace Go.Proofs.Qxb6500412aGreat
open Go.RowKit Go.PlainAid
set_option linter.unusedSimpArgs false
set_option linter.unusedVariables false

instance (X : Xs) (nm : ByteArray) (i : Nat) : Decidable (X.bears nm i) := by unfold Xs.bears; infer_instance
/-- Session s's mode on the table. -/
def Xs.lk (X : Xs) (s : Nat) (nm : ByteArray) : Int := if X.bears nm 0 then X.md 0 s else if X.bears nm 1 then X.md 1 s else if X.bears nm 2 then X.md 2 s else 0
/-- The lock table is sound. -/
structure LkOk (X : Xs) (D : Db) : Prop where
  held : ∀ i, i < 3 → (X.us i = true ↔ ∃ s, s < 4 ∧ X.md i s ≠ 0)
  free : ∀ i, i < 3 → X.us i = false → X.nm i = ⟨#[]⟩
  tab : ∀ i, i < 3 → X.us i = true → ∃ t ∈ D, t.nm = X.nm i
  one : ∀ i j, i < 3 → j < 3 → X.us i = true → X.us j = true → X.nm i = X.nm j → i = j
  rng : ∀ i s, i < 3 → s < 4 → 0 ≤ X.md i s ∧ X.md i s ≤ 2
  act : ∀ i s, i < 3 → s < 4 → X.md i s ≠ 0 → X.act s = true
  excl : ∀ i s o, i < 3 → s < 4 → o < 4 → s ≠ o → X.md i s = 2 → X.md i o = 0
section
variable {X Y : Xs} {D : Db} {nm : ByteArray} {s i : Nat}
theorem three {i : Nat} (h : i < 3) : i = 0 ∨ i = 1 ∨ i = 2 := by omega
theorem Xs.lk_none (h : ∀ i, i < 3 → ¬ X.bears nm i) : X.lk s nm = 0 := by
  unfold Xs.lk
  rw [if_neg (h 0 (by omega)), if_neg (h 1 (by omega)), if_neg (h 2 (by omega))]
theorem Xs.lk_low (hi : i < 3) (hb : X.bears nm i) (hl : ∀ j, j < i → ¬ X.bears nm j) : X.lk s nm = X.md i s := by
  unfold Xs.lk
  rcases three hi with rfl | rfl | rfl
  · rw [if_pos hb]
  · rw [if_neg (hl 0 (by omega)), if_pos hb]
  · rw [if_neg (hl 0 (by omega)), if_neg (hl 1 (by omega)), if_pos hb]
theorem LkOk.low (h : LkOk X D) (hi : i < 3) (hb : X.bears nm i) : ∀ j, j < i → ¬ X.bears nm j := fun j hj hbj => by
  have := h.one j i (by omega) hi hbj.1 hb.1 (by rw [hbj.2, hb.2])
  omega
theorem LkOk.lk_at (h : LkOk X D) (hi : i < 3) (hb : X.bears nm i) : X.lk s nm = X.md i s := Xs.lk_low hi hb (h.low hi hb)
theorem Xs.bears_or (X : Xs) (nm : ByteArray) : (∃ i, i < 3 ∧ X.bears nm i) ∨ ∀ i, i < 3 → ¬ X.bears nm i := by
  by_cases h : ∃ i, i < 3 ∧ X.bears nm i
  · exact .inl h
  · exact .inr (fun i hi hb => h ⟨i, hi, hb⟩)
theorem SlR.lk {r : Int} (h : SlR X nm r) : X.lk s nm = if 0 ≤ r then X.md r.toNat s else 0 := by
  rcases h with ⟨rfl, hn⟩ | ⟨i, hi, rfl, hb, hl⟩
  · rw [Xs.lk_none hn, if_neg (by omega)]
  · rw [Xs.lk_low hi hb hl, if_pos (by omega)]
    rfl
/-- A lock held: the table is there, and the session is in a transaction. -/
theorem LkOk.of (h : LkOk X D) (hs : s < 4) (hne : X.lk s nm ≠ 0) : ∃ i, i < 3 ∧ X.bears nm i ∧ X.lk s nm = X.md i s := by
  rcases X.bears_or nm with ⟨i, hi, hb⟩ | hn
  · exact ⟨i, hi, hb, h.lk_at hi hb⟩
  · exact absurd (Xs.lk_none hn) hne
theorem LkOk.there (h : LkOk X D) (hs : s < 4) (hne : X.lk s nm ≠ 0) : X.act s = true ∧ ∃ t ∈ D, t.nm = nm := by
  obtain ⟨i, hi, hb, e⟩ := h.of hs hne
  rw [e] at hne
  refine ⟨h.act i s hi hs hne, ?_⟩
  obtain ⟨t, ht, e⟩ := h.tab i hi hb.1
  exact ⟨t, ht, by rw [e, hb.2]⟩
theorem LkOk.rg (h : LkOk X D) (hs : s < 4) (nm : ByteArray) : 0 ≤ X.lk s nm ∧ X.lk s nm ≤ 2 := by
  by_cases hne : X.lk s nm = 0
  · rw [hne]; omega
  · obtain ⟨i, hi, hb, e⟩ := h.of hs hne
    rw [e]
    exact h.rng i s hi hs
theorem LkOk.ex (h : LkOk X D) {o : Nat} (hs : s < 4) (ho : o < 4) (hne : s ≠ o) (h2 : X.lk s nm = 2) : X.lk o nm = 0 := by
  obtain ⟨i, hi, hb, e⟩ := h.of hs (by rw [h2]; omega)
  rw [h.lk_at hi hb]
  exact h.excl i s o hi hs ho hne (by rw [← e]; exact h2)
/-- Barred, by modes. -/
theorem LkOk.bar (h : LkOk X D) (hi : i < 3) (hb : X.bears nm i) (z mode : Int) : X.bar i z mode = true ↔ ∃ o : Nat, o < 4 ∧ (o : Int) ≠ z ∧ (X.lk o nm = 2 ∨ (mode = 2 ∧ X.lk o nm ≠ 0)) := by
  rw [Xs.bar_iff]
  constructor
  · rintro ⟨o, ho, h1, h2⟩
    exact ⟨o, ho, h1, by rw [h.lk_at hi hb]; exact h2⟩
  · rintro ⟨o, ho, h1, h2⟩
    exact ⟨o, ho, h1, by rw [h.lk_at hi hb] at h2; exact h2⟩
/-- There is a slot for every table. -/
theorem LkOk.room (h : LkOk X D) (G : DGd D) (hf : ∀ i, i < 3 → X.us i = true) {t : Tb} (ht : t ∈ D) : ∃ i, i < 3 ∧ X.bears t.nm i := by
  obtain ⟨t0, h0, e0⟩ := h.tab 0 (by omega) (hf 0 (by omega))
  obtain ⟨t1, h1, e1⟩ := h.tab 1 (by omega) (hf 1 (by omega))
  obtain ⟨t2, h2, e2⟩ := h.tab 2 (by omega) (hf 2 (by omega))
  have n01 : t0 ≠ t1 := fun e => by have := h.one 0 1 (by omega) (by omega) (hf 0 (by omega)) (hf 1 (by omega)) (by rw [← e0, ← e1, e]); omega
  have n02 : t0 ≠ t2 := fun e => by have := h.one 0 2 (by omega) (by omega) (hf 0 (by omega)) (hf 2 (by omega)) (by rw [← e0, ← e2, e]); omega
  have n12 : t1 ≠ t2 := fun e => by have := h.one 1 2 (by omega) (by omega) (hf 1 (by omega)) (hf 2 (by omega)) (by rw [← e1, ← e2, e]); omega
  by_cases c0 : t = t0
  · exact ⟨0, by omega, hf 0 (by omega), by rw [c0, e0]⟩
  · by_cases c1 : t = t1
    · exact ⟨1, by omega, hf 1 (by omega), by rw [c1, e1]⟩
    · by_cases c2 : t = t2
      · exact ⟨2, by omega, hf 2 (by omega), by rw [c2, e2]⟩
      · exfalso
        have hl := G.len
        obtain ⟨p0, q0⟩ := List.getElem?_of_mem h0
        obtain ⟨p1, q1⟩ := List.getElem?_of_mem h1
        obtain ⟨p2, q2⟩ := List.getElem?_of_mem h2
        obtain ⟨p, q⟩ := List.getElem?_of_mem ht
        have l0 := (List.getElem?_eq_some_iff.mp q0).1
        have l1 := (List.getElem?_eq_some_iff.mp q1).1
        have l2 := (List.getElem?_eq_some_iff.mp q2).1
        have l := (List.getElem?_eq_some_iff.mp q).1
        have d01 : p0 ≠ p1 := fun e => by rw [e, q1] at q0; exact n01 (Option.some.inj q0).symm
        have d02 : p0 ≠ p2 := fun e => by rw [e, q2] at q0; exact n02 (Option.some.inj q0).symm
        have d12 : p1 ≠ p2 := fun e => by rw [e, q2] at q1; exact n12 (Option.some.inj q1).symm
        have d0 : p ≠ p0 := fun e => by rw [e, q0] at q; exact c0 (Option.some.inj q).symm
        have d1 : p ≠ p1 := fun e => by rw [e, q1] at q; exact c1 (Option.some.inj q).symm
        have d2 : p ≠ p2 := fun e => by rw [e, q2] at q; exact c2 (Option.some.inj q).symm
        omega
/-- The lock that is taken. -/
theorem Xs.tk_md (X : Xs) (i s : Nat) (nm : ByteArray) (mode : Int) (a b : Nat) : (X.tk i s nm mode).md a b = if a = i ∧ b = s ∧ X.md i s < mode then mode else X.md a b := by
  unfold Xs.tk
  by_cases h : X.md i s < mode
  · rw [if_pos h]
    show (if a = i ∧ b = s then mode else X.md a b) = _
    by_cases e : a = i ∧ b = s
    · rw [if_pos e, if_pos ⟨e.1, e.2, h⟩]
    · rw [if_neg e, if_neg (fun c => e ⟨c.1, c.2.1⟩)]
  · rw [if_neg h, if_neg (fun c => h c.2.2)]
    rfl
theorem Xs.tk_us (X : Xs) (i s : Nat) (nm : ByteArray) (mode : Int) (a : Nat) : (X.tk i s nm mode).us a = (if a = i then true else X.us a) ∧ (X.tk i s nm mode).nm a = (if a = i then nm else X.nm a) := by
  unfold Xs.tk
  split <;> exact ⟨rfl, rfl⟩
theorem LkOk.tk (h : LkOk X D) {mode : Int} (hm : mode = 1 ∨ mode = 2) (hs : s < 4) (ha : X.act s = true) (ht : ∃ t ∈ D, t.nm = nm) (hi : TkI X (s : Int) nm mode i) : LkOk (X.tk i s nm mode) D ∧ ∀ o n, o < 4 → (X.tk i s nm mode).lk o n = if o = s ∧ n = nm ∧ X.lk s nm < mode then mode else X.lk o n := by
  obtain ⟨hi3, hc⟩ := hi
  have hact : (X.tk i s nm mode).act = X.act := by unfold Xs.tk; split <;> rfl
  have key : (X.bears nm i ∧ X.bar i (s : Int) mode = false) ∨ ((∀ j, j < 3 → ¬ X.bears nm j) ∧ X.us i = false) := by
    rcases hc with ⟨h1, h2⟩ | ⟨h1, h2⟩
    · rcases h1 with ⟨e, _⟩ | ⟨j, hj, e, hb, _⟩
      · omega
      · obtain rfl : i = j := by omega
        exact .inl ⟨hb, h2⟩
    · rcases h1 with ⟨_, hn⟩ | ⟨j, hj, e, _⟩
      · rcases h2 with ⟨e, _⟩ | ⟨j, hj, e, hu⟩
        · omega
        · obtain rfl : i = j := by omega
          exact .inr ⟨hn, hu⟩
      · omega
  -- what the slot held of others
  have hoth : ∀ o, o < 4 → o ≠ s → X.md i o ≠ 2 ∧ (mode = 2 → X.md i o = 0) := by
    intro o ho hne
    rcases key with ⟨hb, h2⟩ | ⟨_, hu⟩
    · refine ⟨fun e => ?_, fun e => ?_⟩
      · have := (h.bar hi3 hb (s : Int) mode).mpr ⟨o, ho, by omega, .inl (by rw [h.lk_at hi3 hb]; exact e)⟩
        rw [h2] at this; cases this
      · by_cases z : X.md i o = 0
        · exact z
        · have := (h.bar hi3 hb (s : Int) mode).mpr ⟨o, ho, by omega, .inr ⟨e, by rw [h.lk_at hi3 hb]; exact z⟩⟩
          rw [h2] at this; cases this
    · have z : X.md i o = 0 := by
        by_cases z : X.md i o = 0
        · exact z
        · have := (h.held i hi3).mpr ⟨o, ho, z⟩
          rw [hu] at this; cases this
      rw [z]
      exact ⟨by omega, fun _ => rfl⟩
  have hnew : ∀ j, j < 3 → j ≠ i → X.us j = true → X.nm j ≠ nm := by
    intro j hj hne hu e
    rcases key with ⟨hb, _⟩ | ⟨hn, _⟩
    · exact hne (h.one j i hj hi3 hu hb.1 (by rw [e, hb.2]))
    · exact hn j hj ⟨hu, e⟩
  have hOk : LkOk (X.tk i s nm mode) D := by
    constructor
    · intro j hj
      rw [(X.tk_us i s nm mode j).1]
      by_cases e : j = i
      · subst e
        rw [if_pos rfl]
        refine ⟨fun _ => ⟨s, hs, ?_⟩, fun _ => rfl⟩
        rw [X.tk_md]
        by_cases c : X.md j s < mode
        · rw [if_pos ⟨rfl, rfl, c⟩]; omega
        · rw [if_neg (fun x => c x.2.2)]; omega
      · rw [if_neg e, h.held j hj]
        constructor
        · rintro ⟨o, ho, hz⟩
          exact ⟨o, ho, by rw [X.tk_md, if_neg (fun x => e x.1)]; exact hz⟩
        · rintro ⟨o, ho, hz⟩
          exact ⟨o, ho, by rw [X.tk_md, if_neg (fun x => e x.1)] at hz; exact hz⟩
    · intro j hj
      rw [(X.tk_us i s nm mode j).1, (X.tk_us i s nm mode j).2]
      by_cases e : j = i
      · rw [if_pos e]; intro c; cases c
      · rw [if_neg e, if_neg e]; exact h.free j hj
    · intro j hj
      rw [(X.tk_us i s nm mode j).1, (X.tk_us i s nm mode j).2]
      by_cases e : j = i
      · rw [if_pos e, if_pos e]; exact fun _ => ht
      · rw [if_neg e, if_neg e]; exact h.tab j hj
    · intro j k hj hk
      rw [(X.tk_us i s nm mode j).1, (X.tk_us i s nm mode j).2, (X.tk_us i s nm mode k).1, (X.tk_us i s nm mode k).2]
      by_cases e1 : j = i <;> by_cases e2 : k = i
      · intros; omega
      · rw [if_pos e1, if_pos e1, if_neg e2, if_neg e2]
        exact fun _ hu e => absurd e.symm (hnew k hk e2 hu)
      · rw [if_neg e1, if_neg e1, if_pos e2, if_pos e2]
        exact fun hu _ e => absurd e (hnew j hj e1 hu)
      · rw [if_neg e1, if_neg e1, if_neg e2, if_neg e2]
        exact h.one j k hj hk
    · intro j o hj ho
      rw [X.tk_md]
      by_cases e : j = i ∧ o = s ∧ X.md i s < mode
      · rw [if_pos e]; omega
      · rw [if_neg e]; exact h.rng j o hj ho
    · intro j o hj ho
      rw [X.tk_md, hact]
      by_cases e : j = i ∧ o = s ∧ X.md i s < mode
      · rw [if_pos e, e.2.1]; exact fun _ => ha
      · rw [if_neg e]; exact h.act j o hj ho
    · intro j o p hj ho hp hne
      rw [X.tk_md, X.tk_md]
      by_cases e : j = i ∧ o = s ∧ X.md i s < mode
      · rw [if_pos e, if_neg (fun c => hne (by rw [e.2.1, c.2.1])), e.1]
        exact fun e2 => (hoth p hp (fun c => hne (by rw [e.2.1, c]))).2 e2
      · rw [if_neg e]
        intro h2
        by_cases e3 : j = i ∧ p = s ∧ X.md i s < mode
        · exact absurd (by rw [← e3.1]; exact h2) (hoth o ho (fun c => hne (by rw [c, e3.2.1]))).1
        · rw [if_neg e3]; exact h.excl j o p hj ho hp hne h2
  refine ⟨hOk, fun o n ho => ?_⟩
  have hbn : (X.tk i s nm mode).bears nm i := ⟨by rw [(X.tk_us i s nm mode i).1, if_pos rfl], by rw [(X.tk_us i s nm mode i).2, if_pos rfl]⟩
  have hsl : ∀ o, o < 4 → X.lk o nm = X.md i o := by
    intro o ho
    rcases key with ⟨hb, _⟩ | ⟨hn, hu⟩
    · exact h.lk_at hi3 hb
    · rw [Xs.lk_none hn]
      by_cases z : X.md i o = 0
      · exact z.symm
      · have := (h.held i hi3).mpr ⟨o, ho, z⟩
        rw [hu] at this; cases this
  by_cases en : n = nm
  · subst en
    rw [hOk.lk_at hi3 hbn, X.tk_md, hsl o ho, hsl s hs]
    by_cases c : o = s ∧ X.md i s < mode
    · rw [if_pos ⟨rfl, c⟩, if_pos ⟨c.1, rfl, c.2⟩]
    · rw [if_neg (fun x => c x.2), if_neg (fun x => c ⟨x.1, x.2.2⟩)]
  · rw [if_neg (fun x => en x.2.1)]
    rcases X.bears_or n with ⟨j, hj, hb⟩ | hn
    · have hji : j ≠ i := by
        intro e
        subst e
        rcases key with ⟨hb2, _⟩ | ⟨_, hu⟩
        · exact en (by rw [← hb.2, hb2.2])
        · rw [hb.1] at hu; cases hu
      have hb' : (X.tk i s nm mode).bears n j := ⟨by rw [(X.tk_us i s nm mode j).1, if_neg hji]; exact hb.1, by rw [(X.tk_us i s nm mode j).2, if_neg hji]; exact hb.2⟩
      rw [hOk.lk_at hj hb', h.lk_at hj hb, X.tk_md, if_neg (fun x => hji x.1)]
    · rw [Xs.lk_none hn, Xs.lk_none (fun j hj hb => ?_)]
      have b1 := hb.1
      have b2 := hb.2
      rw [(X.tk_us i s nm mode j).1] at b1
      rw [(X.tk_us i s nm mode j).2] at b2
      by_cases e : j = i
      · rw [if_pos e] at b2; exact en b2.symm
      · rw [if_neg e] at b1 b2; exact hn j hj ⟨b1, b2⟩
/-- A session lets go of a slot. -/
theorem Xs.rel1_md (X : Xs) (s i a b : Nat) (hb : b < 4) : (X.rel1 s i).md a b = if a = i ∧ b = s then 0 else X.md a b := by
  unfold Xs.rel1
  cases c : (X.setM i s 0).bar i (-1) 2 with
  | true => rfl
  | false =>
    rw [if_neg (by simp)]
    show (if a = i then 0 else (if a = i ∧ b = s then 0 else X.md a b)) = _
    by_cases e : a = i
    · rw [if_pos e]
      subst e
      have : (X.setM a s 0).md a b = 0 := by
        by_cases z : (X.setM a s 0).md a b = 0
        · exact z
        · have := Xs.bar_iff.mpr ⟨b, hb, (⟨by omega, .inr ⟨rfl, z⟩⟩ : (X.setM a s 0).bar1 a (-1) 2 b)⟩
          rw [c] at this; cases this
      exact this.symm
    · rw [if_neg e]
theorem Xs.rel1_us (X : Xs) (s i a : Nat) : ((X.rel1 s i).us a = true ↔ X.us a = true ∧ (a = i → ∃ o, o < 4 ∧ (X.rel1 s i).md a o ≠ 0)) ∧ ((X.rel1 s i).us a = true → (X.rel1 s i).nm a = X.nm a) ∧ ((X.rel1 s i).us a = false → (a = i → (X.rel1 s i).nm a = ⟨#[]⟩ ∨ X.us a = false ∧ (X.rel1 s i).nm a = X.nm a) ∧ (a ≠ i → (X.rel1 s i).nm a = X.nm a)) := by
  unfold Xs.rel1
  cases c : (X.setM i s 0).bar i (-1) 2 with
  | true =>
    rw [if_pos rfl]
    refine ⟨⟨fun h => ⟨h, fun e => ?_⟩, fun h => h.1⟩, fun _ => rfl, fun h => ⟨fun e => .inr ⟨h, rfl⟩, fun _ => rfl⟩⟩
    obtain ⟨o, ho, hb⟩ := Xs.bar_iff.mp c
    refine ⟨o, ho, ?_⟩
    rw [e]
    rcases hb.2 with h2 | h2
    · rw [h2]; omega
    · exact h2.2
  | false =>
    rw [if_neg (by simp)]
    have hz : ∀ o, ((X.setM i s 0).zeroS i).md i o = 0 := fun o => by show (if i = i then _ else _) = _; rw [if_pos rfl]
    show (((if a = i then false else X.us a) = true ↔ _) ∧ ((if a = i then false else X.us a) = true → (if a = i then (⟨#[]⟩ : ByteArray) else X.nm a) = X.nm a) ∧ ((if a = i then false else X.us a) = false → (a = i → (if a = i then (⟨#[]⟩ : ByteArray) else X.nm a) = ⟨#[]⟩ ∨ _ ∧ _) ∧ (a ≠ i → (if a = i then (⟨#[]⟩ : ByteArray) else X.nm a) = X.nm a)))
    by_cases e : a = i
    · simp only [e, if_true]
      refine ⟨⟨fun h => (nomatch h), fun h => ?_⟩, fun h => (nomatch h), fun _ => ⟨fun _ => .inl (by trivial), fun h => absurd rfl h⟩⟩
      obtain ⟨o, _, ho⟩ := h.2 (by trivial)
      exact absurd (hz o) ho
    · simp only [e, if_false]
      exact ⟨⟨fun h => ⟨h, fun x => (nomatch x)⟩, fun h => h.1⟩, fun _ => by trivial, fun h => ⟨fun x => (nomatch x), fun _ => by trivial⟩⟩
theorem Xs.relN_md (X : Xs) (s : Nat) : ∀ (n a b : Nat), b < 4 → (X.relN s n).md a b = if a < n ∧ b = s then 0 else X.md a b
  | 0, a, b, _ => by rw [if_neg (by omega)]; rfl
  | n + 1, a, b, hb => by
    show ((X.relN s n).rel1 s n).md a b = _
    rw [Xs.rel1_md _ _ _ _ _ hb, Xs.relN_md X s n a b hb]
    by_cases e : b = s
    · by_cases e2 : a = n
      · rw [if_pos ⟨e2, e⟩, if_pos ⟨by omega, e⟩]
      · rw [if_neg (fun x => e2 x.1)]
        by_cases e3 : a < n
        · rw [if_pos ⟨e3, e⟩, if_pos ⟨by omega, e⟩]
        · rw [if_neg (fun x => e3 x.1), if_neg (fun x => by omega)]
    · rw [if_neg (fun x => e x.2), if_neg (fun x => e x.2), if_neg (fun x => e x.2)]
theorem Xs.relN_us (X : Xs) (s : Nat) : ∀ (n a : Nat), ((X.relN s n).us a = true ↔ X.us a = true ∧ (a < n → ∃ o, o < 4 ∧ (X.relN s n).md a o ≠ 0)) ∧ ((X.relN s n).us a = true → (X.relN s n).nm a = X.nm a) ∧ ((X.relN s n).us a = false → (X.us a = false → X.nm a = ⟨#[]⟩) → (X.relN s n).nm a = ⟨#[]⟩)
  | 0, a => ⟨⟨fun h => ⟨h, fun c => by omega⟩, fun h => h.1⟩, fun _ => rfl, fun h c => c h⟩
  | n + 1, a => by
    obtain ⟨h1, h2, h3⟩ := Xs.relN_us X s n a
    obtain ⟨k1, k2, k3⟩ := (X.relN s n).rel1_us s n a
    show ((((X.relN s n).rel1 s n).us a = true ↔ _ ∧ (_ → ∃ o, o < 4 ∧ ((X.relN s n).rel1 s n).md a o ≠ 0)) ∧ (((X.relN s n).rel1 s n).us a = true → ((X.relN s n).rel1 s n).nm a = X.nm a) ∧ (((X.relN s n).rel1 s n).us a = false → _ → ((X.relN s n).rel1 s n).nm a = ⟨#[]⟩))
    have hm : a ≠ n → ∀ o, o < 4 → ((X.relN s n).rel1 s n).md a o = (X.relN s n).md a o := fun e o ho => by rw [Xs.rel1_md _ _ _ _ _ ho, if_neg (fun x => e x.1)]
    refine ⟨?_, fun h => by rw [k2 h]; exact h2 ((k1.mp h).1), fun h c => ?_⟩
    · rw [k1, h1]
      constructor
      · rintro ⟨⟨u, v⟩, x⟩
        refine ⟨u, fun hl => ?_⟩
        by_cases e : a = n
        · exact x e
        · obtain ⟨o, ho, hz⟩ := v (by omega)
          exact ⟨o, ho, by rw [hm e o ho]; exact hz⟩
      · rintro ⟨u, v⟩
        refine ⟨⟨u, fun hl => ?_⟩, fun e => v (by omega)⟩
        obtain ⟨o, ho, hz⟩ := v (by omega)
        exact ⟨o, ho, by rw [hm (by omega) o ho] at hz; exact hz⟩
    · obtain ⟨p1, p2⟩ := k3 h
      by_cases e : a = n
      · rcases p1 e with p | ⟨p, p'⟩
        · exact p
        · rw [p']; exact h3 p c
      · rw [p2 e]
        cases hu : (X.relN s n).us a with
        | false => exact h3 hu c
        | true =>
          exfalso
          have := k1.mpr ⟨hu, fun x => absurd x e⟩
          rw [h] at this; cases this
/-- A session's end: its locks are gone. -/
theorem LkOk.ends (h : LkOk X D) (hs : s < 4) {v : Value} {l : List WCh} : LkOk (((X.setA s false).setW s v l).relN s 3) D ∧ ∀ o n, o < 4 → (((X.setA s false).setW s v l).relN s 3).lk o n = if o = s then 0 else X.lk o n := by
  have hact : (((X.setA s false).setW s v l).relN s 3).act = fun a => if a = s then false else X.act a := by
    have : ∀ (Z : Xs) (n : Nat), (Z.relN s n).act = Z.act := by
      intro Z n
      induction n with
      | zero => rfl
      | succ n ih =>
        show ((Z.relN s n).rel1 s n).act = _
        unfold Xs.rel1
        split
        · exact ih
        · exact ih
    rw [this]
    rfl
  have hmd : ∀ a b, b < 4 → (((X.setA s false).setW s v l).relN s 3).md a b = if a < 3 ∧ b = s then 0 else X.md a b := fun a b hb => Xs.relN_md _ s 3 a b hb
  have hus := Xs.relN_us ((X.setA s false).setW s v l) s 3
  have hus : ∀ a, ((((X.setA s false).setW s v l).relN s 3).us a = true ↔ X.us a = true ∧ (a < 3 → ∃ o, o < 4 ∧ (((X.setA s false).setW s v l).relN s 3).md a o ≠ 0)) ∧ ((((X.setA s false).setW s v l).relN s 3).us a = true → (((X.setA s false).setW s v l).relN s 3).nm a = X.nm a) ∧ ((((X.setA s false).setW s v l).relN s 3).us a = false → (X.us a = false → X.nm a = ⟨#[]⟩) → (((X.setA s false).setW s v l).relN s 3).nm a = ⟨#[]⟩) := hus
  generalize (((X.setA s false).setW s v l).relN s 3) = Y at *
  have hOk : LkOk Y D := by
    constructor
    · intro i hi
      rw [(hus i).1]
      constructor
      · rintro ⟨_, h2⟩; exact h2 hi
      · rintro ⟨o, ho, hz⟩
        refine ⟨(h.held i hi).mpr ⟨o, ho, ?_⟩, fun _ => ⟨o, ho, hz⟩⟩
        rw [hmd i o ho] at hz
        by_cases e : i < 3 ∧ o = s
        · rw [if_pos e] at hz; exact absurd rfl hz
        · rw [if_neg e] at hz; exact hz
    · intro i hi hu
      exact (hus i).2.2 hu (h.free i hi)
    · intro i hi hu
      rw [(hus i).2.1 hu]
      exact h.tab i hi ((hus i).1.mp hu).1
    · intro i j hi hj ui uj e
      rw [(hus i).2.1 ui, (hus j).2.1 uj] at e
      exact h.one i j hi hj ((hus i).1.mp ui).1 ((hus j).1.mp uj).1 e
    · intro i o hi ho
      rw [hmd i o ho]
      split
      · omega
      · exact h.rng i o hi ho
    · intro i o hi ho
      rw [hmd i o ho, hact]
      by_cases e : i < 3 ∧ o = s
      · rw [if_pos e]; exact fun c => absurd rfl c
      · rw [if_neg e]
        intro hz
        have : o ≠ s := fun c => e ⟨hi, c⟩
        show (if o = s then false else X.act o) = true
        rw [if_neg this]
        exact h.act i o hi ho hz
    · intro i o p hi ho hp hne
      rw [hmd i o ho, hmd i p hp]
      by_cases e : i < 3 ∧ o = s
      · rw [if_pos e]; intro c; omega
      · rw [if_neg e]
        intro h2
        split
        · rfl
        · exact h.excl i o p hi ho hp hne h2
  refine ⟨hOk, fun o n ho => ?_⟩
  rcases Y.bears_or n with ⟨i, hi, hb⟩ | hn
  · have hbx : X.bears n i := ⟨((hus i).1.mp hb.1).1, by rw [← (hus i).2.1 hb.1]; exact hb.2⟩
    rw [hOk.lk_at hi hb, h.lk_at hi hbx, hmd i o ho]
    by_cases e : o = s
    · rw [if_pos ⟨hi, e⟩, if_pos e]
    · rw [if_neg (fun x => e x.2), if_neg e]
  · rw [Xs.lk_none hn]
    by_cases e : o = s
    · rw [if_pos e]
    · rw [if_neg e]
      by_cases z : X.lk o n = 0
      · exact z.symm
      · exfalso
        obtain ⟨i, hi, hb, e2⟩ := h.of ho z
        have hz : Y.md i o ≠ 0 := by
          rw [hmd i o ho, if_neg (fun x => e x.2), ← e2]
          exact z
        have hu := (hus i).1.mpr ⟨hb.1, fun _ => ⟨o, ho, hz⟩⟩
        exact hn i hi ⟨hu, by rw [(hus i).2.1 hu]; exact hb.2⟩
end
end Go.Proofs.Qxb6500412aGreat
