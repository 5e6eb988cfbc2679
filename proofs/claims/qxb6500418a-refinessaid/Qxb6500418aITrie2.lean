/-
  OWN WORK. THE INDEX's TREE OF PARTS: paths as lists of parts; looking a path up.
-/
import Derived.Test.Qxb6500418aITrie
namespace Go.Proofs.Qxb6500418a
open Go.RowKit Go.PlainAid
set_option linter.unusedSimpArgs false
set_option linter.unusedVariables false

def joinP : List Str → Str
  | [] => []
  | [n] => n
  | n :: m :: r => n ++ 47 :: joinP (m :: r)
def NamesOk (ps : List Str) : Prop := ∀ n ∈ ps, NameOk n
theorem joinP_cons {n : Str} {r : List Str} (h : r ≠ []) : joinP (n :: r) = n ++ 47 :: joinP r := by
  cases r with
  | nil => exact absurd rfl h
  | cons m r => rfl
theorem joinP_app : ∀ {a t : List Str}, a ≠ [] → t ≠ [] → joinP (a ++ t) = joinP a ++ 47 :: joinP t
  | [], t, h, _ => absurd rfl h
  | [n], t, _, ht => by rw [List.singleton_append, joinP_cons ht]; rfl
  | n :: m :: r, t, _, ht => by
    have e : joinP (n :: m :: r) = n ++ 47 :: joinP (m :: r) := rfl
    rw [List.cons_append, joinP_cons (by simp), joinP_app (a := m :: r) (by simp) ht, e]
    simp
theorem split47 : ∀ {n m x y : Str}, (47 : UInt8) ∉ n → (47 : UInt8) ∉ m → n ++ 47 :: x = m ++ 47 :: y → n = m ∧ x = y
  | [], [], x, y, _, _, h => ⟨rfl, by simpa using h⟩
  | [], b :: m, x, y, _, hm, h => by simp at h; exact absurd (by simp [h.1]) hm
  | a :: n, [], x, y, hn, _, h => by simp at h; exact absurd (by simp [h.1]) hn
  | a :: n, b :: m, x, y, hn, hm, h => by
    simp at h hn hm
    obtain ⟨e1, e2⟩ := split47 hn.2 hm.2 h.2
    exact ⟨by rw [h.1, e1], e2⟩
theorem joinP_pre : ∀ {a b : List Str}, a ≠ [] → b ≠ [] → NamesOk a → NamesOk b → joinP a ++ [47] <+: joinP b → ∃ t, t ≠ [] ∧ b = a ++ t
  | [], _, h, _, _, _, _ => absurd rfl h
  | _, [], _, h, _, _, _ => absurd rfl h
  | n :: a, [m], _, _, ha, hb, hp => by
    obtain ⟨t, ht⟩ := hp
    have hm : (47 : UInt8) ∉ m := (hb m (by simp)).2
    exfalso
    apply hm
    have : joinP [m] = m := rfl
    rw [this] at ht
    rw [← ht]; simp
  | [n], m :: m2 :: r, _, _, ha, hb, hp => by
    obtain ⟨t, ht⟩ := hp
    have e1 : joinP [n] = n := rfl
    have e2 : joinP (m :: m2 :: r) = m ++ 47 :: joinP (m2 :: r) := rfl
    rw [e1, e2, List.append_assoc] at ht
    obtain ⟨e, _⟩ := split47 (ha n (by simp)).2 (hb m (by simp)).2 ht
    exact ⟨m2 :: r, by simp, by rw [e]; rfl⟩
  | n :: n2 :: r', m :: m2 :: r, _, _, ha, hb, hp => by
    obtain ⟨t, ht⟩ := hp
    have e1 : joinP (n :: n2 :: r') = n ++ 47 :: joinP (n2 :: r') := rfl
    have e2 : joinP (m :: m2 :: r) = m ++ 47 :: joinP (m2 :: r) := rfl
    rw [e1, e2] at ht
    simp only [List.append_assoc, List.cons_append] at ht
    obtain ⟨e, e'⟩ := split47 (ha n (by simp)).2 (hb m (by simp)).2 ht
    obtain ⟨t', ht', h2⟩ := joinP_pre (a := n2 :: r') (b := m2 :: r) (by simp) (by simp) (fun x hx => ha x (by simp at hx ⊢; exact .inr hx)) (fun x hx => hb x (by simp at hx ⊢; exact .inr hx)) ⟨t, by rw [List.append_assoc]; exact e'⟩
    exact ⟨t', ht', by rw [e, h2]; rfl⟩
theorem joinP_inj : ∀ {a b : List Str}, a ≠ [] → b ≠ [] → NamesOk a → NamesOk b → joinP a = joinP b → a = b
  | [], _, h, _, _, _, _ => absurd rfl h
  | _, [], _, h, _, _, _ => absurd rfl h
  | [n], [m], _, _, _, _, h => by
    have : n = m := h
    rw [this]
  | [n], m :: m2 :: r, _, _, ha, hb, h => by
    have e1 : joinP [n] = n := rfl
    have e2 : joinP (m :: m2 :: r) = m ++ 47 :: joinP (m2 :: r) := rfl
    rw [e1, e2] at h
    exact absurd (by rw [h]; simp) (ha n (by simp)).2
  | n :: n2 :: r, [m], _, _, ha, hb, h => by
    have e1 : joinP [m] = m := rfl
    have e2 : joinP (n :: n2 :: r) = n ++ 47 :: joinP (n2 :: r) := rfl
    rw [e1, e2] at h
    exact absurd (by rw [← h]; simp) (hb m (by simp)).2
  | n :: n2 :: r', m :: m2 :: r, _, _, ha, hb, h => by
    have e1 : joinP (n :: n2 :: r') = n ++ 47 :: joinP (n2 :: r') := rfl
    have e2 : joinP (m :: m2 :: r) = m ++ 47 :: joinP (m2 :: r) := rfl
    rw [e1, e2] at h
    obtain ⟨e, e'⟩ := split47 (ha n (by simp)).2 (hb m (by simp)).2 h
    have := joinP_inj (a := n2 :: r') (b := m2 :: r) (by simp) (by simp) (fun x hx => ha x (by simp at hx ⊢; exact .inr hx)) (fun x hx => hb x (by simp at hx ⊢; exact .inr hx)) e'
    rw [e, this]

theorem scan_parts : ∀ (rest cur : Str), (47 : UInt8) ∉ cur → scanB cur rest = true → ∃ ps, ps ≠ [] ∧ NamesOk ps ∧ cur ++ rest = joinP ps
  | [], cur, hc, h => by
    have hp : partB cur = true := h
    refine ⟨[cur], by simp, fun n hn => ?_, by simp [joinP]⟩
    simp at hn
    subst hn
    refine ⟨fun e => ?_, hc⟩
    rw [e] at hp
    simp [partB] at hp
  | c :: r, cur, hc, h => by
    have h' : (if c = 47 then partB cur && scanB [] r else (decide (32 < c.toNat) && decide (c.toNat < 127)) && scanB (cur ++ [c]) r) = true := h
    by_cases e : c = 47
    · rw [if_pos e] at h'
      simp only [Bool.and_eq_true] at h'
      obtain ⟨ps, h1, h2, h3⟩ := scan_parts r [] (by simp) h'.2
      refine ⟨cur :: ps, by simp, fun n hn => ?_, ?_⟩
      · simp at hn
        rcases hn with rfl | hn
        · refine ⟨fun e => ?_, hc⟩
          have hp := h'.1
          rw [e] at hp
          simp [partB] at hp
        · exact h2 n hn
      · rw [joinP_cons h1, ← h3, e]
        simp
    · rw [if_neg e] at h'
      simp only [Bool.and_eq_true] at h'
      obtain ⟨ps, h1, h2, h3⟩ := scan_parts r (cur ++ [c]) (by simp; exact ⟨hc, fun h => e h.symm⟩) h'.2
      exact ⟨ps, h1, h2, by rw [← h3]; simp⟩
theorem good_parts {l : Str} (h : goodB l = true) : ∃ ps, ps ≠ [] ∧ NamesOk ps ∧ l = joinP ps := by
  unfold goodB at h
  simp only [Bool.and_eq_true] at h
  obtain ⟨ps, h1, h2, h3⟩ := scan_parts l [] (by simp) h.2
  exact ⟨ps, h1, h2, by simpa using h3⟩

inductive Hit where
  | none
  | file (c : Nat) (d : Str) (m : Int)
  | dir (c : Nat) (k : Fo)
def Fo.hit : Fo → Str → Hit
  | .nil, _ => .none
  | .file c n d m r, x => if n = x then .file c d m else r.hit x
  | .dir c n k r, x => if n = x then .dir c k else r.hit x
inductive Look where
  | new
  | file (c : Nat) (d : Str) (m : Int)
  | clash (c : Nat)
def look : List Str → Fo → Look
  | [], _ => .clash 0
  | n :: ps, F => match F.hit n with
    | .none => .new
    | .file c d m => if ps = [] then .file c d m else .clash 0
    | .dir c k => if ps = [] then .clash c else look ps k

theorem hit_name {F : Fo} {x : Str} (h : F.hit x ≠ .none) : x ∈ F.names := by
  induction F with
  | nil => exact absurd rfl h
  | file c n d m r ih =>
    unfold Fo.hit at h
    by_cases e : n = x
    · simp [Fo.names, e]
    · rw [if_neg e] at h
      simp [Fo.names, ih h]
  | dir c n k r ihk ih =>
    unfold Fo.hit at h
    by_cases e : n = x
    · simp [Fo.names, e]
    · rw [if_neg e] at h
      simp [Fo.names, ih h]
theorem hit_none {F : Fo} {x : Str} (h : F.hit x = .none) : x ∉ F.names := by
  induction F with
  | nil => simp [Fo.names]
  | file c n d m r ih =>
    unfold Fo.hit at h
    by_cases e : n = x
    · rw [if_pos e] at h; cases h
    · rw [if_neg e] at h
      simp [Fo.names]
      exact ⟨fun e' => e e'.symm, ih h⟩
  | dir c n k r ihk ih =>
    unfold Fo.hit at h
    by_cases e : n = x
    · rw [if_pos e] at h; cases h
    · rw [if_neg e] at h
      simp [Fo.names]
      exact ⟨fun e' => e e'.symm, ih h⟩

/-- A file's row, from its sibling on. -/
theorem hit_file {F : Fo} {x : Str} {c : Nat} {d : Str} {m : Int} (h : F.hit x = .file c d m) (p : Str) : mkFl (p ++ x) d m ∈ F.gather p := by
  induction F with
  | nil => cases h
  | file c' n d' m' r ih =>
    unfold Fo.hit at h
    by_cases e : n = x
    · rw [if_pos e] at h
      cases h
      rw [e]; simp [Fo.gather]
    · rw [if_neg e] at h
      simp [Fo.gather, ih h]
  | dir c' n k r ihk ih =>
    unfold Fo.hit at h
    by_cases e : n = x
    · rw [if_pos e] at h; cases h
    · rw [if_neg e] at h
      simp [Fo.gather, ih h]
theorem hit_dir {F : Fo} {x : Str} {c : Nat} {k : Fo} (h : F.hit x = .dir c k) (p : Str) : ∀ f ∈ k.gather (p ++ x ++ [47]), f ∈ F.gather p := by
  induction F with
  | nil => cases h
  | file c' n d' m' r ih =>
    unfold Fo.hit at h
    by_cases e : n = x
    · rw [if_pos e] at h; cases h
    · rw [if_neg e] at h
      intro f hf
      simp only [Fo.gather, List.mem_cons]
      exact .inr (ih h f hf)
  | dir c' n k' r ihk ih =>
    unfold Fo.hit at h
    by_cases e : n = x
    · rw [if_pos e] at h
      cases h
      intro f hf
      rw [← e] at hf
      simp only [Fo.gather, List.mem_append]
      exact .inl hf
    · rw [if_neg e] at h
      intro f hf
      simp only [Fo.gather, List.mem_append]
      exact .inr (ih h f hf)

/-- What is looked up is listed. -/
theorem look_file : ∀ {ps : List Str} {F : Fo} {c : Nat} {d : Str} {m : Int} (p : Str), look ps F = .file c d m → mkFl (p ++ joinP ps) d m ∈ F.gather p
  | [], F, c, d, m, p, h => by cases h
  | n :: ps, F, c, d, m, p, h => by
    unfold look at h
    cases hh : F.hit n with
    | none => rw [hh] at h; cases h
    | file c' d' m' =>
      rw [hh] at h
      by_cases e : ps = []
      · subst e
        simp at h
        obtain ⟨rfl, rfl, rfl⟩ := h
        exact hit_file hh p
      · simp [e] at h
    | dir c' k =>
      rw [hh] at h
      by_cases e : ps = []
      · simp [e] at h
      · simp [e] at h
        have := look_file (p ++ n ++ [47]) h
        rw [joinP_cons e]
        have e2 : p ++ n ++ [47] ++ joinP ps = p ++ (n ++ 47 :: joinP ps) := by simp
        rw [e2] at this
        exact hit_dir hh p _ this
/-- What is listed is found by looking. -/
theorem file_look {F : Fo} (h : F.Wf) : ∀ (p : Str) (f : Fl), f ∈ F.gather p → ∃ ps c d m, ps ≠ [] ∧ NamesOk ps ∧ look ps F = .file c d m ∧ f = mkFl (p ++ joinP ps) d m := by
  induction F with
  | nil => intro p f hf; simp [Fo.gather] at hf
  | file c n d m r ih =>
    obtain ⟨h1, h2, h3, h4⟩ := h
    intro p f hf
    simp [Fo.gather] at hf
    rcases hf with rfl | hf
    · refine ⟨[n], c, d, m, by simp, fun x hx => by simp at hx; rw [hx]; exact h1, ?_, rfl⟩
      simp [look, Fo.hit]
    · obtain ⟨ps, c', d', m', a1, a2, a3, a4⟩ := ih h4 p f hf
      refine ⟨ps, c', d', m', a1, a2, ?_, a4⟩
      cases ps with
      | nil => exact absurd rfl a1
      | cons x ps =>
        have hx : r.hit x ≠ .none := fun e => by unfold look at a3; rw [e] at a3; cases a3
        have hne : n ≠ x := fun e => h3 (e ▸ hit_name hx)
        unfold look
        unfold look at a3
        have : (Fo.file c n d m r).hit x = r.hit x := by simp [Fo.hit, hne]
        rw [this]; exact a3
  | dir c n k r ihk ih =>
    obtain ⟨h1, h2, h3, h4, h5⟩ := h
    intro p f hf
    simp only [Fo.gather, List.mem_append] at hf
    rcases hf with hf | hf
    · obtain ⟨ps, c', d', m', a1, a2, a3, a4⟩ := ihk h4 _ f hf
      refine ⟨n :: ps, c', d', m', by simp, fun x hx => ?_, ?_, ?_⟩
      · simp at hx
        rcases hx with rfl | hx
        · exact h1
        · exact a2 x hx
      · unfold look
        simp [Fo.hit, a1, a3]
      · rw [a4, joinP_cons a1]; simp
    · obtain ⟨ps, c', d', m', a1, a2, a3, a4⟩ := ih h5 p f hf
      refine ⟨ps, c', d', m', a1, a2, ?_, a4⟩
      cases ps with
      | nil => exact absurd rfl a1
      | cons x ps =>
        have hx : r.hit x ≠ .none := fun e => by unfold look at a3; rw [e] at a3; cases a3
        have hne : n ≠ x := fun e => h3 (e ▸ hit_name hx)
        unfold look
        unfold look at a3
        have : (Fo.dir c n k r).hit x = r.hit x := by simp [Fo.hit, hne]
        rw [this]; exact a3
end Go.Proofs.Qxb6500418a
