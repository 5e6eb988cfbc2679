/-
  OWN WORK. THE INDEX's POOL OF NODES, in plain terms: how a tree lies in it.
-/
import Derived.Test.Qxb6500418aITrie4
namespace Go.Proofs.Qxb6500418a
open Go.RowKit Go.PlainAid
set_option linter.unusedSimpArgs false
set_option linter.unusedVariables false

structure Nd where
  name : Str
  child : Nat
  next : Nat
  file : Bool
  data : Str
  mode : Int
  size : Nat
  hash : Nat
def Nd.zero : Nd := ⟨[], 0, 0, false, [], 0, 0, 0⟩
def hashL (d : Str) : Nat := d.foldl (fun h b => (h * 31 + b.toNat) % 65536) 0
def Lay (P : Nat → Nd) : Fo → Nat → Prop
  | .nil, p => p = 0
  | .file c n d m r, p => p = c ∧ (1 ≤ c ∧ c < 49) ∧ P c = ⟨n, 0, (P c).next, true, d, m, d.length, hashL d⟩ ∧ Lay P r (P c).next
  | .dir c n k r, p => p = c ∧ (1 ≤ c ∧ c < 49) ∧ P c = ⟨n, (P c).child, (P c).next, false, [], 0, 0, 0⟩ ∧ Lay P k (P c).child ∧ Lay P r (P c).next

section
variable {P P' : Nat → Nd}
theorem Lay.congr {F : Fo} : ∀ {p : Nat}, Lay P F p → (∀ c ∈ F.ids, P' c = P c) → Lay P' F p := by
  induction F with
  | nil => intro p h _; exact h
  | file c n d m r ih =>
    intro p h he
    obtain ⟨h1, h2, h3, h4⟩ := h
    have e := he c (by simp [Fo.ids])
    refine ⟨h1, h2, by rw [e]; exact h3, ?_⟩
    rw [e]
    exact ih h4 (fun x hx => he x (by simp [Fo.ids, hx]))
  | dir c n k r ihk ih =>
    intro p h he
    obtain ⟨h1, h2, h3, h4, h5⟩ := h
    have e := he c (by simp [Fo.ids])
    refine ⟨h1, h2, by rw [e]; exact h3, ?_, ?_⟩
    · rw [e]; exact ihk h4 (fun x hx => he x (by simp [Fo.ids, hx]))
    · rw [e]; exact ih h5 (fun x hx => he x (by simp [Fo.ids, hx]))
theorem Lay.rng {F : Fo} : ∀ {p : Nat}, Lay P F p → ∀ c ∈ F.ids, 1 ≤ c ∧ c < 49 := by
  induction F with
  | nil => intro p _ c hc; simp [Fo.ids] at hc
  | file c n d m r ih =>
    intro p h x hx
    obtain ⟨h1, h2, h3, h4⟩ := h
    simp [Fo.ids] at hx
    rcases hx with rfl | hx
    · exact h2
    · exact ih h4 x hx
  | dir c n k r ihk ih =>
    intro p h x hx
    obtain ⟨h1, h2, h3, h4, h5⟩ := h
    simp [Fo.ids] at hx
    rcases hx with rfl | hx | hx
    · exact h2
    · exact ihk h4 x hx
    · exact ih h5 x hx
theorem Lay.head {F : Fo} {p : Nat} (h : Lay P F p) : p = 0 ↔ F = .nil := by
  cases F with
  | nil => exact ⟨fun _ => rfl, fun _ => h⟩
  | file c n d m r => obtain ⟨h1, h2, _⟩ := h; exact ⟨fun e => by omega, fun e => by cases e⟩
  | dir c n k r => obtain ⟨h1, h2, _⟩ := h; exact ⟨fun e => by omega, fun e => by cases e⟩

theorem hit_ids {F : Fo} {x : Str} {c : Nat} {k : Fo} (h : F.hit x = .dir c k) : (c :: k.ids).Sublist F.ids := by
  induction F with
  | nil => cases h
  | file c' n' d' m' r ih =>
    simp only [Fo.hit] at h
    by_cases e : n' = x
    · rw [if_pos e] at h; cases h
    · rw [if_neg e] at h
      exact (ih h).cons c'
  | dir c' n' k' r ihk ih =>
    simp only [Fo.hit] at h
    by_cases e : n' = x
    · rw [if_pos e] at h
      cases h
      exact (List.sublist_append_left _ _).cons_cons c
    · rw [if_neg e] at h
      exact ((ih h).trans (List.sublist_append_right k'.ids r.ids)).cons c'
theorem hit_file_id {F : Fo} {x : Str} {c : Nat} {d : Str} {m : Int} (h : F.hit x = .file c d m) : c ∈ F.ids := by
  induction F with
  | nil => cases h
  | file c' n' d' m' r ih =>
    simp only [Fo.hit] at h
    by_cases e : n' = x
    · rw [if_pos e] at h; cases h; simp [Fo.ids]
    · rw [if_neg e] at h; simp [Fo.ids, ih h]
  | dir c' n' k' r ihk ih =>
    simp only [Fo.hit] at h
    by_cases e : n' = x
    · rw [if_pos e] at h; cases h
    · rw [if_neg e] at h; simp [Fo.ids, ih h]
theorem dirAt_ids : ∀ {a : List Str} {d0 d : Nat} {F K : Fo}, dirAt a d0 F = some (d, K) → (d :: K.ids).Sublist (d0 :: F.ids)
  | [], d0, d, F, K, h => by cases h; exact List.Sublist.refl _
  | n :: a, d0, d, F, K, h => by
    obtain ⟨c, k, hh, h'⟩ := dirAt_cons h
    exact ((dirAt_ids h').trans (hit_ids hh)).cons d0
theorem Lay.hit_dir {F : Fo} {x : Str} {c : Nat} {k : Fo} : ∀ {p : Nat}, Lay P F p → F.hit x = .dir c k → Lay P k (P c).child ∧ P c = ⟨x, (P c).child, (P c).next, false, [], 0, 0, 0⟩ := by
  induction F with
  | nil => intro p _ h; cases h
  | file c' n' d' m' r ih =>
    intro p hl h
    simp only [Fo.hit] at h
    by_cases e : n' = x
    · rw [if_pos e] at h; cases h
    · rw [if_neg e] at h
      exact ih hl.2.2.2 h
  | dir c' n' k' r ihk ih =>
    intro p hl h
    simp only [Fo.hit] at h
    by_cases e : n' = x
    · rw [if_pos e] at h
      cases h
      rw [← e]
      exact ⟨hl.2.2.2.1, hl.2.2.1⟩
    · rw [if_neg e] at h
      exact ih hl.2.2.2.2 h
theorem Lay.hit_file {F : Fo} {x : Str} {c : Nat} {d : Str} {m : Int} : ∀ {p : Nat}, Lay P F p → F.hit x = .file c d m → P c = ⟨x, 0, (P c).next, true, d, m, d.length, hashL d⟩ := by
  induction F with
  | nil => intro p _ h; cases h
  | file c' n' d' m' r ih =>
    intro p hl h
    simp only [Fo.hit] at h
    by_cases e : n' = x
    · rw [if_pos e] at h; cases h; rw [← e]; exact hl.2.2.1
    · rw [if_neg e] at h
      exact ih hl.2.2.2 h
  | dir c' n' k' r ihk ih =>
    intro p hl h
    simp only [Fo.hit] at h
    by_cases e : n' = x
    · rw [if_pos e] at h; cases h
    · rw [if_neg e] at h
      exact ih hl.2.2.2.2 h
theorem Lay.dirAt : ∀ {a : List Str} {d0 d : Nat} {F K : Fo}, Lay P F (P d0).child → dirAt a d0 F = some (d, K) → Lay P K (P d).child
  | [], d0, d, F, K, h, e => by cases e; exact h
  | n :: a, d0, d, F, K, h, e => by
    obtain ⟨c, k, hh, h'⟩ := dirAt_cons e
    exact Lay.dirAt (h.hit_dir hh).1 h'

theorem Lay.mapKid {F : Fo} {n : Str} {g : Fo → Fo} {c : Nat} {k : Fo} : ∀ {p : Nat}, Lay P F p → F.hit n = .dir c k → F.ids.Nodup → (∀ x ∈ F.ids, x ≠ c → x ∉ k.ids → P' x = P x) → P' c = { P c with child := (P' c).child } → Lay P' (g k) (P' c).child → Lay P' (F.mapKid n g) p := by
  induction F with
  | nil => intro p _ h; cases h
  | file c' n' d' m' r ih =>
    intro p hl h hn he hc hk
    simp only [Fo.hit] at h
    by_cases e : n' = n
    · rw [if_pos e] at h; cases h
    · rw [if_neg e] at h
      obtain ⟨h1, h2, h3, h4⟩ := hl
      simp only [Fo.ids, List.nodup_cons] at hn
      have hsub := hit_ids h
      have hcr : c ∈ r.ids := hsub.subset (by simp)
      have hkr : ∀ x ∈ k.ids, x ∈ r.ids := fun x hx => hsub.subset (by simp [hx])
      have e1 : P' c' = P c' := he c' (by simp [Fo.ids]) (fun e => hn.1 (e ▸ hcr)) (fun hx => hn.1 (hkr _ hx))
      unfold Fo.mapKid
      refine ⟨h1, h2, by rw [e1]; exact h3, ?_⟩
      rw [e1]
      exact ih h4 h hn.2 (fun x hx => he x (by simp [Fo.ids, hx])) hc hk
  | dir c' n' k' r ihk ih =>
    intro p hl h hn he hc hk
    simp only [Fo.hit] at h
    obtain ⟨h1, h2, h3, h4, h5⟩ := hl
    simp only [Fo.ids, List.nodup_cons] at hn
    unfold Fo.mapKid
    by_cases e : n' = n
    · rw [if_pos e] at h
      cases h
      rw [if_pos e]
      refine ⟨h1, h2, ?_, hk, ?_⟩
      · rw [hc, h3]
      · have e2 : (P' c).next = (P c).next := by rw [hc]
        rw [e2]
        refine h5.congr (fun x hx => he x (by simp [Fo.ids, hx]) (fun e => hn.1 (by rw [← e]; simp [hx])) (fun hxk => ?_))
        have := List.nodup_append.1 hn.2
        exact this.2.2 x hxk x hx rfl
    · rw [if_neg e] at h
      rw [if_neg e]
      have hsub := hit_ids h
      have hcr : c ∈ r.ids := hsub.subset (by simp)
      have hkr : ∀ x ∈ k.ids, x ∈ r.ids := fun x hx => hsub.subset (by simp [hx])
      have hnd := List.nodup_append.1 hn.2
      have e1 : P' c' = P c' := he c' (by simp [Fo.ids]) (fun e => hn.1 (by rw [e]; simp [hcr])) (fun hx => hn.1 (by simp [hkr _ hx]))
      refine ⟨h1, h2, by rw [e1]; exact h3, ?_, ?_⟩
      · rw [e1]
        exact h4.congr (fun x hx => he x (by simp [Fo.ids, hx]) (fun e => hnd.2.2 x hx c hcr e) (fun hxk => hnd.2.2 x hx x (hkr x hxk) rfl))
      · rw [e1]
        exact ih h5 h hnd.2.1 (fun x hx => he x (by simp [Fo.ids, hx])) hc hk
/-- A change below one directory leaves the rest as it lay. -/
theorem Lay.upd : ∀ {a : List Str} {g : Fo → Fo} {d0 d : Nat} {F K : Fo}, Lay P F (P d0).child → Go.Proofs.Qxb6500418a.dirAt a d0 F = some (d, K) → (d0 :: F.ids).Nodup → (∀ x ∈ d0 :: F.ids, x ≠ d → x ∉ K.ids → P' x = P x) → P' d = { P d with child := (P' d).child } → Lay P' (g K) (P' d).child → Lay P' (Go.Proofs.Qxb6500418a.upd a g F) (P' d0).child
  | [], g, d0, d, F, K, _, e, _, _, _, hk => by cases e; exact hk
  | n :: a, g, d0, d, F, K, hl, e, hn, he, hd, hk => by
    obtain ⟨c, k, hh, h'⟩ := dirAt_cons e
    have hs1 := hit_ids hh
    have hs2 := dirAt_ids h'
    have hn' := (List.nodup_cons.1 hn)
    have hdF : d ∈ F.ids := hs1.subset (hs2.subset (by simp))
    have hKF : ∀ x ∈ K.ids, x ∈ F.ids := fun x hx => hs1.subset (hs2.subset (by simp [hx]))
    have e0 : P' d0 = P d0 := he d0 (by simp) (fun e => hn'.1 (e ▸ hdF)) (fun hx => hn'.1 (hKF _ hx))
    have hck : (c :: k.ids).Nodup := hs1.nodup hn'.2
    show Lay P' (F.mapKid n (Go.Proofs.Qxb6500418a.upd a g)) (P' d0).child
    rw [e0]
    refine Lay.mapKid hl hh hn'.2 (fun x hx hxc hxk => ?_) ?_ ?_
    · refine he x (by simp [hx]) (fun e => ?_) (fun hxK => ?_)
      · have : d ∈ c :: k.ids := hs2.subset (by simp)
        rw [← e] at this
        simp at this
        rcases this with h | h
        · exact hxc h
        · exact hxk h
      · have : x ∈ c :: k.ids := hs2.subset (by simp [hxK])
        simp at this
        rcases this with h | h
        · exact hxc h
        · exact hxk h
    · by_cases ecd : c = d
      · rw [ecd]; exact hd
      · have hcK : c ∉ K.ids := fun hx => by
          have hdk : (d :: K.ids).Sublist (c :: k.ids) := hs2
          cases a with
          | nil => cases h'; exact ecd rfl
          | cons n2 a2 =>
            obtain ⟨c2, k2, hh2, h2⟩ := dirAt_cons h'
            have : c ∈ k.ids := (hit_ids hh2).subset ((dirAt_ids h2).subset (by simp [hx]))
            exact (List.nodup_cons.1 hck).1 this
        rw [he c (by simp [hs1.subset (by simp : c ∈ c :: k.ids)]) ecd hcK]
    · refine Lay.upd (hl.hit_dir hh).1 h' hck (fun x hx => he x ?_) hd hk
      exact List.mem_cons_of_mem _ (hs1.subset hx)

def Fo.spot (key : Str) : Fo → Nat → Nat × Nat
  | .nil, b => (b, 0)
  | .file c n d m r, b => if bl key n = true then (b, c) else r.spot key c
  | .dir c n k r, b => if bl key (n ++ [47]) = true then (b, c) else r.spot key c
theorem ent_lay {c : Nat} {n : Str} {file : Bool} {r : Fo} {s : Nat} (hc : 1 ≤ c ∧ c < 49) (hP : P' c = ⟨n, 0, s, file, [], 0, 0, 0⟩) (hr : Lay P' r s) : Lay P' (ent c n file r) c := by
  unfold ent
  cases file
  · simp only [Bool.false_eq_true, if_false]
    refine ⟨rfl, hc, by rw [hP], ?_, ?_⟩
    · rw [hP]; rfl
    · rw [hP]; exact hr
  · simp only [if_true]
    refine ⟨rfl, hc, by rw [hP]; rfl, ?_⟩
    rw [hP]; exact hr
theorem Lay.ins {F : Fo} {c : Nat} {n : Str} {file : Bool} : ∀ {p b : Nat}, Lay P F p → F.ids.Nodup → c ∉ F.ids → (1 ≤ c ∧ c < 49) → b ∉ F.ids → P' c = ⟨n, 0, (F.spot (keyF n file) b).2, file, [], 0, 0, 0⟩ →
    ((F.spot (keyF n file) b).1 = b → (∀ x ∈ F.ids, P' x = P x) → Lay P' (F.ins c n file) c) ∧
    ((F.spot (keyF n file) b).1 ≠ b → (F.spot (keyF n file) b).1 ∈ F.ids ∧ ((∀ x ∈ F.ids, x ≠ (F.spot (keyF n file) b).1 → P' x = P x) → P' (F.spot (keyF n file) b).1 = { P (F.spot (keyF n file) b).1 with next := c } → Lay P' (F.ins c n file) p)) := by
  induction F with
  | nil =>
    intro p b hl _ _ hc _ hP
    exact ⟨fun _ _ => ent_lay hc hP rfl, fun h => absurd rfl h⟩
  | file c' n' d' m' r ih =>
    intro p b hl hn hcF hc hb hP
    obtain ⟨h1, h2, h3, h4⟩ := hl
    simp only [Fo.ids, List.nodup_cons] at hn
    simp only [Fo.ids, List.mem_cons, not_or] at hcF hb
    by_cases hbl : bl (keyF n file) n' = true
    · have es : (Fo.file c' n' d' m' r).spot (keyF n file) b = (b, c') := by simp only [Fo.spot]; rw [if_pos hbl]
      have ei : (Fo.file c' n' d' m' r).ins c n file = ent c n file (.file c' n' d' m' r) := by simp only [Fo.ins]; rw [if_pos hbl]
      rw [es] at hP ⊢
      rw [ei]
      refine ⟨fun _ he => ent_lay hc hP ?_, fun h => absurd rfl h⟩
      exact (Lay.congr (P := P) (F := .file c' n' d' m' r) ⟨rfl, h2, h3, h4⟩ he)
    · have es : (Fo.file c' n' d' m' r).spot (keyF n file) b = r.spot (keyF n file) c' := by simp only [Fo.spot]; rw [if_neg hbl]
      have ei : (Fo.file c' n' d' m' r).ins c n file = .file c' n' d' m' (r.ins c n file) := by simp only [Fo.ins]; rw [if_neg hbl]
      rw [es] at hP ⊢
      rw [ei]
      obtain ⟨i1, i2⟩ := ih (b := c') h4 hn.2 hcF.2 hc hn.1 hP
      generalize r.spot (keyF n file) c' = sp at *
      by_cases e : sp.1 = c'
      · refine ⟨fun eb => absurd (by rw [← eb, e]) hb.1, fun _ => ⟨by rw [e]; simp [Fo.ids], fun he hq => ?_⟩⟩
        rw [e] at he hq
        refine ⟨h1, h2, by rw [hq, h3], ?_⟩
        rw [hq]
        exact i1 e (fun x hx => he x (by simp [Fo.ids, hx]) (fun e2 => hn.1 (e2 ▸ hx)))
      · obtain ⟨j1, j2⟩ := i2 e
        refine ⟨fun eb => absurd (eb ▸ j1) hb.2, fun _ => ⟨by simp [Fo.ids, j1], fun he hq => ?_⟩⟩
        have e1 : P' c' = P c' := he c' (by simp [Fo.ids]) (fun e2 => e e2.symm)
        refine ⟨h1, h2, by rw [e1]; exact h3, ?_⟩
        rw [e1]
        exact j2 (fun x hx hne => he x (by simp [Fo.ids, hx]) hne) hq
  | dir c' n' k' r ihk ih =>
    intro p b hl hn hcF hc hb hP
    obtain ⟨h1, h2, h3, h4, h5⟩ := hl
    simp only [Fo.ids, List.nodup_cons] at hn
    have hnd := List.nodup_append.1 hn.2
    simp only [Fo.ids, List.mem_cons, List.mem_append, not_or] at hcF hb
    by_cases hbl : bl (keyF n file) (n' ++ [47]) = true
    · have es : (Fo.dir c' n' k' r).spot (keyF n file) b = (b, c') := by simp only [Fo.spot]; rw [if_pos hbl]
      have ei : (Fo.dir c' n' k' r).ins c n file = ent c n file (.dir c' n' k' r) := by simp only [Fo.ins]; rw [if_pos hbl]
      rw [es] at hP ⊢
      rw [ei]
      refine ⟨fun _ he => ent_lay hc hP ?_, fun h => absurd rfl h⟩
      exact (Lay.congr (P := P) (F := .dir c' n' k' r) ⟨rfl, h2, h3, h4, h5⟩ he)
    · have es : (Fo.dir c' n' k' r).spot (keyF n file) b = r.spot (keyF n file) c' := by simp only [Fo.spot]; rw [if_neg hbl]
      have ei : (Fo.dir c' n' k' r).ins c n file = .dir c' n' k' (r.ins c n file) := by simp only [Fo.ins]; rw [if_neg hbl]
      rw [es] at hP ⊢
      rw [ei]
      have hc'r : c' ∉ r.ids := fun h => hn.1 (by simp [h])
      have hc'k : c' ∉ k'.ids := fun h => hn.1 (by simp [h])
      obtain ⟨i1, i2⟩ := ih (b := c') h5 hnd.2.1 hcF.2.2 hc hc'r hP
      generalize r.spot (keyF n file) c' = sp at *
      by_cases e : sp.1 = c'
      · refine ⟨fun eb => absurd (by rw [← eb, e]) hb.1, fun _ => ⟨by rw [e]; simp [Fo.ids], fun he hq => ?_⟩⟩
        rw [e] at he hq
        refine ⟨h1, h2, by rw [hq, h3], ?_, ?_⟩
        · rw [hq]
          exact h4.congr (fun x hx => he x (by simp [Fo.ids, hx]) (fun e2 => hc'k (e2 ▸ hx)))
        · rw [hq]
          exact i1 e (fun x hx => he x (by simp [Fo.ids, hx]) (fun e2 => hc'r (e2 ▸ hx)))
      · obtain ⟨j1, j2⟩ := i2 e
        refine ⟨fun eb => absurd (eb ▸ j1) hb.2.2, fun _ => ⟨by simp [Fo.ids, j1], fun he hq => ?_⟩⟩
        have e1 : P' c' = P c' := he c' (by simp [Fo.ids]) (fun e2 => e e2.symm)
        refine ⟨h1, h2, by rw [e1]; exact h3, ?_, ?_⟩
        · rw [e1]
          exact h4.congr (fun x hx => he x (by simp [Fo.ids, hx]) (fun e2 => hnd.2.2 x hx _ j1 e2))
        · rw [e1]
          exact j2 (fun x hx hne => he x (by simp [Fo.ids, hx]) hne) hq
end
end Go.Proofs.Qxb6500418a
