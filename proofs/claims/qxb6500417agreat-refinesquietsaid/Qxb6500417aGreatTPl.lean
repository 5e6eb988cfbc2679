/-
  OWN WORK. THE TREE: listings and rows, plain.
-/
import Derived.Test.Qxb6500417aGreatTOrd
namespace Go.Proofs.Qxb6500417aGreat
open Go.RowKit Go.PlainAid
set_option linter.unusedSimpArgs false
set_option linter.unusedVariables false

/-- An entry of a listing. -/
structure En where
  path : Str
  id : Int
  mode : Int
deriving DecidableEq
/-- A row of a tree object. -/
structure Rw where
  dir : Bool
  mode : Nat
  id : Nat
  name : Str
/-- What a row is on the device. -/
def enc (r : Rw) : List Nat := (if r.dir then 1 else r.mode * 2) :: r.id :: r.name.length :: r.name.map (fun c => c.toNat)
def encs (l : List Rw) : List Nat := l.flatMap enc
structure WfR (r : Rw) : Prop where
  i1 : 1 ≤ r.id
  i48 : r.id ≤ 48
  n1 : 1 ≤ r.name.length
  n12 : r.name.length ≤ 12
  m3 : r.mode ≤ 3
  dm : r.dir = true → r.mode = 0
theorem enc_len (r : Rw) : (enc r).length = r.name.length + 3 := by simp [enc]
theorem encs_cons (r : Rw) (l : List Rw) : encs (r :: l) = enc r ++ encs l := by simp [encs]
theorem encs_snoc (l : List Rw) (r : Rw) : encs (l ++ [r]) = encs l ++ enc r := by simp [encs]
theorem encs_app (l m : List Rw) : encs (l ++ m) = encs l ++ encs m := by simp [encs]
theorem toNat_inj {a b : Str} (h : a.map (fun c => c.toNat) = b.map (fun c => c.toNat)) : a = b := by
  induction a generalizing b with
  | nil => cases b with
    | nil => rfl
    | cons => simp at h
  | cons x r ih =>
    cases b with
    | nil => simp at h
    | cons y s =>
      simp only [List.map_cons, List.cons.injEq] at h
      rw [ih h.2, UInt8.toNat_inj.1 h.1]
theorem enc_inj {r s : Rw} {A B : List Nat} (hr : WfR r) (hs : WfR s) (h : enc r ++ A = enc s ++ B) : r = s ∧ A = B := by
  unfold enc at h
  simp only [List.cons_append, List.cons.injEq] at h
  obtain ⟨h1, h2, h3, h4⟩ := h
  obtain ⟨h5, h6⟩ := List.append_inj h4 (by simpa using h3)
  refine ⟨?_, h6⟩
  obtain ⟨rd, rm, ri, rn⟩ := r
  obtain ⟨sd, sm, si, sn⟩ := s
  simp only at h1 h2 h3 h5
  have hn := toNat_inj h5
  have d1 := hr.dm
  have d2 := hs.dm
  simp only at d1 d2
  subst h2 hn
  cases rd <;> cases sd <;> simp at h1 d1 d2 ⊢
  · omega
  · omega
  · omega
  · omega
theorem encs_inj : ∀ {a b : List Rw}, (∀ r ∈ a, WfR r) → (∀ r ∈ b, WfR r) → encs a = encs b → a = b
  | [], [], _, _, _ => rfl
  | r :: a, [], _, _, h => by rw [encs_cons] at h; simp [enc, encs] at h
  | [], s :: b, _, _, h => by rw [encs_cons] at h; simp [enc, encs] at h
  | r :: a, s :: b, ha, hb, h => by
    rw [encs_cons, encs_cons] at h
    obtain ⟨h1, h2⟩ := enc_inj (ha r (by simp)) (hb s (by simp)) h
    rw [h1, encs_inj (fun x hx => ha x (by simp [hx])) (fun x hx => hb x (by simp [hx])) h2]
theorem enc_lt {r : Rw} (h : WfR r) : ∀ x ∈ enc r, x < 256 := by
  intro x hx
  unfold enc at hx
  have h1 := h.i48
  have h2 := h.n12
  have h3 := h.m3
  simp only [List.mem_cons, List.mem_map] at hx
  rcases hx with hx | hx | hx | ⟨c, _, hx⟩
  · split at hx <;> omega
  · omega
  · omega
  · have := c.toNat_lt; omega
theorem encs_lt {l : List Rw} (h : ∀ r ∈ l, WfR r) : ∀ x ∈ encs l, x < 256 := by
  intro x hx
  unfold encs at hx
  obtain ⟨r, hr, hx⟩ := List.mem_flatMap.1 hx
  exact enc_lt (h r hr) x hx

/-- A path cut at its first '/'. -/
def cutS : Str → Option (Str × Str)
  | [] => none
  | c :: r => if c = 47 then some ([], r) else (cutS r).map (fun p => (c :: p.1, p.2))
theorem cutS_none {p : Str} : cutS p = none ↔ (47 : UInt8) ∉ p := by
  induction p with
  | nil => simp [cutS]
  | cons c r ih =>
    unfold cutS
    by_cases h : c = 47
    · simp [h]
    · rw [if_neg h]
      simp only [Option.map_eq_none_iff, List.mem_cons, not_or]
      rw [ih]
      exact ⟨fun h2 => ⟨fun e => h e.symm, h2⟩, fun h2 => h2.2⟩
theorem cutS_some {p a b : Str} : cutS p = some (a, b) ↔ p = a ++ 47 :: b ∧ (47 : UInt8) ∉ a := by
  induction p generalizing a b with
  | nil => simp [cutS]
  | cons c r ih =>
    unfold cutS
    by_cases h : c = 47
    · rw [if_pos h]
      subst h
      constructor
      · intro e
        simp only [Option.some.injEq, Prod.mk.injEq] at e
        obtain ⟨rfl, rfl⟩ := e
        simp
      · rintro ⟨e, hn⟩
        cases a with
        | nil => simp at e; simp [e]
        | cons x a => simp at e hn; exact absurd e.1 hn.1
    · rw [if_neg h]
      constructor
      · intro e
        simp only [Option.map_eq_some_iff, Prod.mk.injEq] at e
        obtain ⟨⟨a', b'⟩, h1, h2, h3⟩ := e
        obtain ⟨h4, h5⟩ := ih.1 h1
        simp only at h2 h3
        subst h2 h3
        refine ⟨by rw [h4]; simp, ?_⟩
        simp only [List.mem_cons, not_or]
        exact ⟨fun e => h e.symm, h5⟩
      · rintro ⟨e, hn⟩
        cases a with
        | nil => simp at e; exact absurd e.1 h
        | cons x a =>
          simp only [List.cons_append, List.cons.injEq] at e
          simp only [List.mem_cons, not_or] at hn
          rw [ih.2 ⟨e.2, hn.2⟩, e.1]
          rfl
/-- What a listing holds at its top: a file, or a directory with its own listing. -/
inductive Tp where
  | f (e : En)
  | d (name : Str) (sub : List En)
def hasP (a : Str) (e : En) : Bool := preB (a ++ [47]) e.path
def strip (k : Nat) (e : En) : En := { e with path := e.path.drop k }
def under (a : Str) (e : En) : En := { e with path := a ++ 47 :: e.path }
theorem drop_under (a b : Str) : (a ++ 47 :: b).drop (a.length + 1) = b := by
  have : a ++ 47 :: b = (a ++ [47]) ++ b := by simp
  rw [this, List.drop_left' (by simp)]
theorem strip_under (a : Str) (e : En) : strip (a.length + 1) (under a e) = e := by
  obtain ⟨p, i, m⟩ := e
  simp only [strip, under]
  rw [drop_under]
theorem under_strip {a : Str} {e : En} (h : hasP a e = true) : under a (strip (a.length + 1) e) = e := by
  unfold hasP at h
  rw [preB_iff] at h
  obtain ⟨t, ht⟩ := h
  obtain ⟨p, i, m⟩ := e
  simp only at ht
  subst ht
  simp only [strip, under, En.mk.injEq, and_self, and_true]
  rw [List.append_assoc, List.singleton_append, drop_under]
theorem hasP_under (a : Str) (e : En) : hasP a (under a e) = true := by
  unfold hasP
  rw [preB_iff]
  exact ⟨e.path, by simp [under]⟩
theorem mem_takeW {α : Type} {p : α → Bool} {l : List α} {x : α} (h : x ∈ l.takeWhile p) : p x = true := by
  induction l with
  | nil => simp at h
  | cons a l ih =>
    rw [List.takeWhile_cons] at h
    split at h
    · rcases List.mem_cons.1 h with e | e
      · subst e; assumption
      · exact ih e
    · simp at h
def tops : Nat → List En → List Tp
  | 0, _ => []
  | _ + 1, [] => []
  | n + 1, e :: r => match cutS e.path with
    | none => .f e :: tops n r
    | some (a, _) => .d a (((e :: r).takeWhile (hasP a)).map (strip (a.length + 1))) :: tops n ((e :: r).dropWhile (hasP a))
def untop : Tp → List En
  | .f e => [e]
  | .d a sub => sub.map (under a)
theorem hasP_cut {e : En} {a b : Str} (h : cutS e.path = some (a, b)) : hasP a e = true := by
  obtain ⟨h1, _⟩ := cutS_some.1 h
  unfold hasP
  rw [preB_iff, h1]
  exact ⟨b, by simp⟩
theorem drop_shorter {e : En} {r : List En} {a b : Str} (h : cutS e.path = some (a, b)) : ((e :: r).dropWhile (hasP a)).length ≤ r.length := by
  rw [List.dropWhile_cons, if_pos (hasP_cut h)]
  exact (List.dropWhile_sublist _).length_le
theorem tops_flat : ∀ (n : Nat) (l : List En), l.length ≤ n → (tops n l).flatMap untop = l
  | 0, l, h => by
    have : l = [] := List.length_eq_zero_iff.1 (by omega)
    subst this
    rfl
  | n + 1, [], _ => rfl
  | n + 1, e :: r, h => by
    unfold tops
    split
    · rw [List.flatMap_cons, tops_flat n r (by simpa using h)]
      rfl
    · rename_i a b hc
      rw [List.flatMap_cons, tops_flat n _ (Nat.le_trans (drop_shorter hc) (by simpa using h))]
      show ((List.takeWhile (hasP a) (e :: r)).map (strip (a.length + 1))).map (under a) ++ _ = _
      rw [List.map_map]
      have : ((e :: r).takeWhile (hasP a)).map (under a ∘ strip (a.length + 1)) = (e :: r).takeWhile (hasP a) := by
        conv => rhs; rw [← List.map_id ((e :: r).takeWhile (hasP a))]
        refine List.map_congr_left (fun x hx => ?_)
        exact under_strip (mem_takeW hx)
      rw [this, List.takeWhile_append_dropWhile]
theorem tops_fuel : ∀ (n m : Nat) (l : List En), l.length ≤ n → l.length ≤ m → tops n l = tops m l
  | 0, m, l, h, _ => by
    have : l = [] := List.length_eq_zero_iff.1 (by omega)
    subst this
    cases m <;> rfl
  | n + 1, 0, l, _, h => by
    have : l = [] := List.length_eq_zero_iff.1 (by omega)
    subst this
    rfl
  | n + 1, m + 1, [], _, _ => rfl
  | n + 1, m + 1, e :: r, h1, h2 => by
    unfold tops
    split
    · rw [tops_fuel n m r (by simpa using h1) (by simpa using h2)]
    · rename_i a b hc
      rw [tops_fuel n m _ (Nat.le_trans (drop_shorter hc) (by simpa using h1)) (Nat.le_trans (drop_shorter hc) (by simpa using h2))]
def tp (l : List En) : List Tp := tops l.length l
theorem tp_nil : tp [] = [] := rfl
theorem tp_file {e : En} (r : List En) (h : cutS e.path = none) : tp (e :: r) = .f e :: tp r := by
  unfold tp
  show tops (r.length + 1) (e :: r) = _
  rw [tops, h]
theorem tp_dir {e : En} (r : List En) {a b : Str} (h : cutS e.path = some (a, b)) : tp (e :: r) = .d a (((e :: r).takeWhile (hasP a)).map (strip (a.length + 1))) :: tp ((e :: r).dropWhile (hasP a)) := by
  unfold tp
  show tops (r.length + 1) (e :: r) = _
  rw [tops, h]
  simp only
  rw [tops_fuel r.length _ _ (drop_shorter h) (Nat.le_refl _)]
theorem tp_flat (l : List En) : (tp l).flatMap untop = l := tops_flat _ _ (Nat.le_refl _)
/-- Tops that come from no listing but themselves. -/
def CanT : Tp → Prop
  | .f e => (47 : UInt8) ∉ e.path
  | .d a sub => (47 : UInt8) ∉ a ∧ sub ≠ []
def nextOk : Tp → List Tp → Prop
  | .d a _, .d b _ :: _ => a ≠ b
  | _, _ => True
def Can : List Tp → Prop
  | [] => True
  | t :: ts => CanT t ∧ nextOk t ts ∧ Can ts
theorem noP_file {a : Str} {e : En} (h : (47 : UInt8) ∉ e.path) : hasP a e = false := by
  cases hp : hasP a e with
  | false => rfl
  | true =>
    unfold hasP at hp
    rw [preB_iff] at hp
    obtain ⟨t, ht⟩ := hp
    exact absurd (by rw [← ht]; simp) h
theorem noP_dir {a b : Str} {e : En} (ha : (47 : UInt8) ∉ a) (hb : (47 : UInt8) ∉ b) (hne : a ≠ b) : hasP a (under b e) = false := by
  cases hp : hasP a (under b e) with
  | false => rfl
  | true =>
    exfalso
    unfold hasP at hp
    rw [preB_iff] at hp
    obtain ⟨t, ht⟩ := hp
    have h1 : cutS (under b e).path = some (a, t) := cutS_some.2 ⟨by rw [← ht]; simp, ha⟩
    have h2 : cutS (under b e).path = some (b, e.path) := cutS_some.2 ⟨rfl, hb⟩
    rw [h1] at h2
    simp at h2
    exact hne h2.1
theorem takeW_all {α : Type} {p : α → Bool} {l m : List α} (h : ∀ x ∈ l, p x = true) (hm : ∀ x ∈ m.head?, p x = false) : (l ++ m).takeWhile p = l ∧ (l ++ m).dropWhile p = m := by
  induction l with
  | nil =>
    cases m with
    | nil => simp
    | cons x r =>
      have := hm x (by simp)
      simp [this]
  | cons a l ih =>
    have := ih (fun x hx => h x (by simp [hx]))
    have ha := h a (by simp)
    simp [ha, this]
theorem tp_can : ∀ (ts : List Tp), Can ts → tp (ts.flatMap untop) = ts
  | [], _ => rfl
  | .f e :: ts, h => by
    rw [List.flatMap_cons]
    show tp (e :: ts.flatMap untop) = _
    rw [tp_file _ (cutS_none.2 h.1), tp_can ts h.2.2]
  | .d a sub :: ts, h => by
    obtain ⟨⟨h1, h2⟩, h3, h4⟩ := h
    rw [List.flatMap_cons]
    obtain ⟨e, r, rfl⟩ : ∃ e r, sub = e :: r := List.exists_cons_of_ne_nil h2
    have hd : ∀ x ∈ (ts.flatMap untop).head?, hasP a x = false := by
      cases ts with
      | nil => simp
      | cons t ts =>
        cases t with
        | f e' =>
          intro x hx
          simp [untop] at hx
          subst hx
          exact noP_file h4.1
        | d b sub' =>
          obtain ⟨e', r', rfl⟩ : ∃ e r, sub' = e :: r := List.exists_cons_of_ne_nil h4.1.2
          intro x hx
          simp [untop] at hx
          subst hx
          exact noP_dir h1 h4.1.1 h3
    obtain ⟨q1, q2⟩ := takeW_all (p := hasP a) (l := (e :: r).map (under a)) (m := ts.flatMap untop) (fun x hx => by
      obtain ⟨y, _, rfl⟩ := List.mem_map.1 hx
      exact hasP_under a y) hd
    have hc : cutS (under a e).path = some (a, e.path) := cutS_some.2 ⟨rfl, h1⟩
    show tp ((under a e) :: (r.map (under a) ++ ts.flatMap untop)) = _
    rw [tp_dir _ hc]
    have e1 : under a e :: (r.map (under a) ++ ts.flatMap untop) = (e :: r).map (under a) ++ ts.flatMap untop := rfl
    rw [e1, q1, q2, tp_can ts h4, List.map_map]
    have : (e :: r).map (strip (a.length + 1) ∘ under a) = e :: r := by
      conv => rhs; rw [← List.map_id (e :: r)]
      exact List.map_congr_left (fun x _ => strip_under a x)
    rw [this]
theorem can_tops : ∀ (n : Nat) (l : List En), Can (tops n l) ∧ (∀ a, (∀ x ∈ l.head?, hasP a x = false) → ∀ sub ts, tops n l = .d a sub :: ts → False)
  | 0, l => ⟨trivial, fun a _ sub ts h => by simp [tops] at h⟩
  | n + 1, [] => ⟨trivial, fun a _ sub ts h => by simp [tops] at h⟩
  | n + 1, e :: r => by
    unfold tops
    split
    · rename_i hc
      refine ⟨⟨cutS_none.1 hc, ?_, (can_tops n r).1⟩, fun a _ sub ts h => by simp at h⟩
      unfold nextOk
      split <;> simp_all
    · rename_i a b hc
      have h0 := hasP_cut hc
      have hr := can_tops n ((e :: r).dropWhile (hasP a))
      refine ⟨⟨⟨(cutS_some.1 hc).2, by simp [h0]⟩, ?_, hr.1⟩, fun c hh sub ts h => ?_⟩
      · cases ht : tops n ((e :: r).dropWhile (hasP a)) with
        | nil => trivial
        | cons t ts =>
          cases t with
          | f _ => trivial
          | d c sub =>
            show a ≠ c
            intro e'
            subst e'
            refine hr.2 a (fun x hx => ?_) sub ts ht
            have := List.head?_dropWhile_not (hasP a) (e :: r)
            cases hq : ((e :: r).dropWhile (hasP a)).head? with
            | none => rw [hq] at hx; simp at hx
            | some y =>
              rw [hq] at hx this
              simp at hx this
              subst hx
              exact this
      · simp only [List.cons.injEq, Tp.d.injEq] at h
        have := hh e (by simp)
        rw [← h.1.1] at this
        rw [h0] at this
        cases this
theorem tp_canon (l : List En) : Can (tp l) := (can_tops _ _).1
end Go.Proofs.Qxb6500417aGreat
