/-
  OWN WORK. THE INDEX's TREE OF PARTS, in plain terms: order and listing.
-/
import Derived.Test.Qxb6500418aIModel2
namespace Go.Proofs.Qxb6500418a
open Go.RowKit Go.PlainAid
set_option linter.unusedSimpArgs false
set_option linter.unusedVariables false

/- The order of strings. -/
abbrev bl (a b : Str) : Bool := Op.bytesLess a b
theorem bl_nil (a : Str) : bl a [] = false := by cases a <;> rfl
theorem bl_cons (a b : UInt8) (x y : Str) : bl (a :: x) (b :: y) = (decide (a < b) || (a == b && bl x y)) := rfl
theorem bl_irr : ∀ a : Str, bl a a = false
  | [] => rfl
  | a :: x => by rw [bl_cons, bl_irr x]; simp
theorem bl_trans : ∀ a b c : Str, bl a b = true → bl b c = true → bl a c = true
  | a, [], c, h, _ => by rw [bl_nil] at h; cases h
  | a, b, [], _, h => by rw [bl_nil] at h; cases h
  | [], b :: y, c :: z, _, _ => rfl
  | a :: x, b :: y, c :: z, h1, h2 => by
    rw [bl_cons] at h1 h2 ⊢
    simp only [Bool.or_eq_true, Bool.and_eq_true, decide_eq_true_eq, beq_iff_eq] at h1 h2 ⊢
    rcases h1 with h1 | ⟨rfl, h1⟩
    · rcases h2 with h2 | ⟨rfl, h2⟩
      · exact .inl (UInt8.lt_trans h1 h2)
      · exact .inl h1
    · rcases h2 with h2 | ⟨rfl, h2⟩
      · exact .inl h2
      · exact .inr ⟨rfl, bl_trans x y z h1 h2⟩
theorem bl_asymm {a b : Str} (h : bl a b = true) : bl b a = false := by
  cases h2 : bl b a with
  | false => rfl
  | true => have := bl_trans a b a h h2; rw [bl_irr] at this; cases this
theorem bl_total : ∀ a b : Str, bl a b = true ∨ a = b ∨ bl b a = true
  | [], [] => .inr (.inl rfl)
  | [], _ :: _ => .inl rfl
  | _ :: _, [] => .inr (.inr rfl)
  | a :: x, b :: y => by
    rw [bl_cons, bl_cons]
    by_cases h : a = b
    · subst h
      rcases bl_total x y with h | h | h
      · left; simp [h]
      · right; left; rw [h]
      · right; right; simp [h]
    · have : a < b ∨ b < a := by
        rcases UInt8.lt_or_lt_of_ne h with h | h
        · exact .inl h
        · exact .inr h
      rcases this with h | h
      · left; simp [h]
      · right; right; simp [h]
theorem bl_app : ∀ (p x y : Str), bl (p ++ x) (p ++ y) = bl x y
  | [], x, y => rfl
  | a :: p, x, y => by
    rw [List.cons_append, List.cons_append, bl_cons, bl_app p x y]
    simp
theorem bl_right : ∀ (a b u : Str), bl a b = true → bl a (b ++ u) = true
  | a, [], u, h => by rw [bl_nil] at h; cases h
  | [], b :: y, u, _ => rfl
  | a :: x, b :: y, u, h => by
    rw [List.cons_append, bl_cons]
    rw [bl_cons] at h
    simp only [Bool.or_eq_true, Bool.and_eq_true, decide_eq_true_eq, beq_iff_eq] at h ⊢
    rcases h with h | ⟨rfl, h⟩
    · exact .inl h
    · exact .inr ⟨rfl, bl_right x y u h⟩
theorem bl_left : ∀ (a b u : Str), bl a b = true → ¬ a <+: b → bl (a ++ u) b = true
  | a, [], u, h, _ => by rw [bl_nil] at h; cases h
  | [], b :: y, u, _, hp => absurd (List.nil_prefix) hp
  | a :: x, b :: y, u, h, hp => by
    rw [List.cons_append, bl_cons]
    rw [bl_cons] at h
    simp only [Bool.or_eq_true, Bool.and_eq_true, decide_eq_true_eq, beq_iff_eq] at h ⊢
    rcases h with h | ⟨rfl, h⟩
    · exact .inl h
    · exact .inr ⟨rfl, bl_left x y u h (fun hp' => hp ((List.prefix_cons_inj a).2 hp'))⟩
theorem ltS_eq (a b : ByteArray) : ltS a b = bl (ls a) (ls b) := by unfold ltS; rw [ls_toList, ls_toList]

/- A tree of parts. -/
inductive Fo where
  | nil
  | file (c : Nat) (n d : Str) (m : Int) (r : Fo)
  | dir (c : Nat) (n : Str) (k r : Fo)
def mkFl (p d : Str) (m : Int) : Fl := ⟨⟨p.toArray⟩, ⟨d.toArray⟩, m⟩
def pth (f : Fl) : Str := ls f.path
theorem pth_mk (p d : Str) (m : Int) : pth (mkFl p d m) = p := by simp [pth, mkFl, ls]
def Fo.gather : Fo → Str → List Fl
  | .nil, _ => []
  | .file c n d m r, p => mkFl (p ++ n) d m :: r.gather p
  | .dir c n k r, p => k.gather (p ++ n ++ [47]) ++ r.gather p
def Fo.keys : Fo → List Str
  | .nil => []
  | .file c n d m r => n :: r.keys
  | .dir c n k r => (n ++ [47]) :: r.keys
def Fo.names : Fo → List Str
  | .nil => []
  | .file c n d m r => n :: r.names
  | .dir c n k r => n :: r.names
def Fo.ids : Fo → List Nat
  | .nil => []
  | .file c n d m r => c :: r.ids
  | .dir c n k r => c :: (k.ids ++ r.ids)
def NameOk (n : Str) : Prop := n ≠ [] ∧ (47 : UInt8) ∉ n
/-- Siblings rise by key and bear names of their own. -/
def Fo.Wf : Fo → Prop
  | .nil => True
  | .file c n d m r => NameOk n ∧ (∀ k ∈ r.keys, bl n k = true) ∧ n ∉ r.names ∧ r.Wf
  | .dir c n k r => NameOk n ∧ (∀ q ∈ r.keys, bl (n ++ [47]) q = true) ∧ n ∉ r.names ∧ k.Wf ∧ r.Wf
def Fo.Full : Fo → Prop
  | .nil => True
  | .file c n d m r => r.Full
  | .dir c n k r => k ≠ .nil ∧ k.Full ∧ r.Full

theorem key_name {F : Fo} (h : F.Wf) : ∀ k ∈ F.keys, ∃ n, n ∈ F.names ∧ NameOk n ∧ (k = n ∨ k = n ++ [47]) := by
  induction F with
  | nil => intro k hk; simp [Fo.keys] at hk
  | file c n d m r ih =>
    obtain ⟨h1, _, _, h4⟩ := h
    intro k hk
    simp [Fo.keys] at hk
    rcases hk with rfl | hk
    · exact ⟨k, by simp [Fo.names], h1, .inl rfl⟩
    · obtain ⟨n', a, b, e⟩ := ih h4 k hk
      exact ⟨n', by simp [Fo.names, a], b, e⟩
  | dir c n k r ihk ih =>
    obtain ⟨h1, _, _, _, h4⟩ := h
    intro q hq
    simp [Fo.keys] at hq
    rcases hq with rfl | hq
    · exact ⟨n, by simp [Fo.names], h1, .inr rfl⟩
    · obtain ⟨n', a, b, e⟩ := ih h4 q hq
      exact ⟨n', by simp [Fo.names, a], b, e⟩

/-- Every path of a listing opens with a sibling's key. -/
theorem gather_key {F : Fo} : ∀ (p : Str) (f : Fl), f ∈ F.gather p → ∃ k ∈ F.keys, ∃ u, pth f = p ++ k ++ u := by
  induction F with
  | nil => intro p f hf; simp [Fo.gather] at hf
  | file c n d m r ih =>
    intro p f hf
    simp [Fo.gather] at hf
    rcases hf with rfl | hf
    · exact ⟨n, by simp [Fo.keys], [], by rw [pth_mk]; simp⟩
    · obtain ⟨k, hk, u, e⟩ := ih p f hf
      exact ⟨k, by simp [Fo.keys, hk], u, e⟩
  | dir c n k r ihk ih =>
    intro p f hf
    simp [Fo.gather] at hf
    rcases hf with hf | hf
    · obtain ⟨q, hq, u, e⟩ := ihk _ f (by simpa using hf)
      exact ⟨n ++ [47], by simp [Fo.keys], q ++ u, by rw [e]; simp⟩
    · obtain ⟨q, hq, u, e⟩ := ih p f hf
      exact ⟨q, by simp [Fo.keys, hq], u, e⟩

/-- A directory's key opens no other sibling's key. -/
theorem dirkey_no_prefix {n n' : Str} {q : Str} (hn' : NameOk n') (hq : q = n' ∨ q = n' ++ [47]) (hne : n ≠ n') : ¬ (n ++ [47]) <+: q := by
  intro hp
  obtain ⟨t, ht⟩ := hp
  rcases hq with rfl | rfl
  · apply hn'.2
    rw [← ht]; simp
  · rw [List.append_assoc] at ht
    have h1 : n <+: n' ++ [47] := ⟨[47] ++ t, by rw [← ht]⟩
    -- t is empty, or 47 lies in n'
    rcases List.eq_nil_or_concat t with rfl | ⟨t, x, rfl⟩
    · rw [List.append_nil] at ht
      exact hne (List.append_cancel_right ht)
    · have e : (n ++ ([47] ++ t)) ++ [x] = n' ++ [47] := by rw [← ht]; simp
      have := (List.append_inj' e rfl).1
      apply hn'.2
      rw [← this]; simp

theorem gather_sorted {F : Fo} (h : F.Wf) : ∀ p : Str, (F.gather p).Pairwise (fun a b => bl (pth a) (pth b) = true) := by
  induction F with
  | nil => intro p; exact List.Pairwise.nil
  | file c n d m r ih =>
    obtain ⟨h1, h2, h3, h4⟩ := h
    intro p
    refine List.Pairwise.cons (fun f hf => ?_) (ih h4 p)
    obtain ⟨k, hk, u, e⟩ := gather_key p f hf
    rw [pth_mk, e, List.append_assoc, bl_app]
    exact bl_right _ _ _ (h2 k hk)
  | dir c n k r ihk ih =>
    obtain ⟨h1, h2, h3, h4, h5⟩ := h
    intro p
    refine List.pairwise_append.2 ⟨ihk h4 _, ih h5 p, fun a ha b hb => ?_⟩
    obtain ⟨q, hq, u, e⟩ := gather_key _ a ha
    obtain ⟨q', hq', u', e'⟩ := gather_key p b hb
    have ea : pth a = p ++ ((n ++ [47]) ++ (q ++ u)) := by rw [e]; simp
    have eb : pth b = p ++ (q' ++ u') := by rw [e']; simp
    rw [ea, eb, bl_app]
    obtain ⟨n', hn', ok, hk'⟩ := key_name h5 q' hq'
    have hne : n ≠ n' := fun e => h3 (e ▸ hn')
    have hlt := h2 q' hq'
    exact bl_right _ _ _ (bl_left _ _ _ hlt (dirkey_no_prefix ok hk' hne))
end Go.Proofs.Qxb6500418a
