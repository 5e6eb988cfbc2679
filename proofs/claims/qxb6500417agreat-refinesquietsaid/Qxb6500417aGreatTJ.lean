/-
  OWN WORK. THE TREE: the state that both sides show, plain.
-/
import Derived.Test.Qxb6500417aGreatTPl
import Derived.Test.Qxb6500417aGreatOInv
namespace Go.Proofs.Qxb6500417aGreat
open Go.RowKit Go.PlainAid
set_option linter.unusedSimpArgs false
set_option linter.unusedVariables false

/-- A slot: what stands at an id. -/
structure Sl where
  st : Nat
  kd : Nat
  dat : List Nat
  lst : List En
  rws : List Rw
def Sl.free : Sl := ⟨0, 0, [], [], []⟩
def liveS (s : Sl) : Bool := s.st == 1 || s.st == 2
def lastS (s : Sl) : Bool := s.st == 2 || s.st == 3
theorem liveS_iff (s : Sl) : liveS s = true ↔ s.st = 1 ∨ s.st = 2 := by simp [liveS]
theorem lastS_iff (s : Sl) : lastS s = true ↔ s.st = 2 ∨ s.st = 3 := by simp [lastS]
theorem liveS_ne {s : Sl} (h : liveS s = true) : s.st ≠ 0 := by rw [liveS_iff] at h; omega
theorem lastS_ne {s : Sl} (h : lastS s = true) : s.st ≠ 0 := by rw [lastS_iff] at h; omega
/-- A path of parts, none of them empty. b: the part at hand is not empty. -/
def okP : Bool → Str → Bool
  | b, [] => b
  | b, c :: r => if c = 47 then b && okP false r else okP true r
def slashes (p : Str) : Nat := p.count 47
theorem okP_len : ∀ (p : Str) (b : Bool), okP b p = true → 2 * slashes p + (if b then 0 else 1) ≤ p.length
  | [], b, h => by
    have : b = true := h
    subst this
    simp [slashes]
  | c :: r, b, h => by
    unfold okP at h
    by_cases hc : c = 47
    · rw [if_pos hc] at h
      simp at h
      have := okP_len r false h.2
      subst hc
      rw [h.1]
      simp [slashes] at this ⊢
      omega
    · rw [if_neg hc] at h
      have := okP_len r true h
      have e : slashes (c :: r) = slashes r := by simp [slashes, List.count_cons, hc]
      rw [e]
      simp at this ⊢
      split <;> omega
theorem okP_cut : ∀ (a : Str) (b : Bool) (r : Str), (47 : UInt8) ∉ a → okP b (a ++ 47 :: r) = true → (b = true ∨ a ≠ []) ∧ okP false r = true
  | [], b, r, _, h => by
    simp [okP] at h
    exact ⟨.inl h.1, h.2⟩
  | c :: a, b, r, hn, h => by
    simp only [List.mem_cons, not_or] at hn
    rw [List.cons_append] at h
    unfold okP at h
    rw [if_neg (fun e => hn.1 e.symm)] at h
    exact ⟨.inr (by simp), (okP_cut a true r hn.2 h).2⟩
theorem okP_file {a : Str} (hn : (47 : UInt8) ∉ a) (h : okP false a = true) : a ≠ [] := by
  intro e
  subst e
  simp [okP] at h
/-- A listing that a tree may have. -/
structure Fine (l : List En) : Prop where
  ok : ∀ e ∈ l, okP false e.path = true
  len : ∀ e ∈ l, e.path.length ≤ 12
  srt : l.Pairwise (fun a b => bl a.path b.path = true)
  cnt : l.length ≤ 8
  ids : ∀ e ∈ l, 1 ≤ e.id ∧ e.id ≤ 48
  md : ∀ e ∈ l, 0 ≤ e.mode ∧ e.mode ≤ 3
def Deep (n : Nat) (l : List En) : Prop := ∀ e ∈ l, slashes e.path < n
theorem Fine.deep {l : List En} (h : Fine l) : Deep 6 l := fun e he => by
  have h1 := okP_len e.path false (h.ok e he)
  have h2 := h.len e he
  simp at h1
  omega
theorem Fine.nil : Fine [] := ⟨by simp, by simp, List.Pairwise.nil, by simp, by simp, by simp⟩
theorem slashes_under (a : Str) (e : En) : slashes (under a e).path = slashes a + slashes e.path + 1 := by
  simp [slashes, under, List.count_append, List.count_cons]
  omega
theorem tp_mem {l : List En} {t : Tp} (h : t ∈ tp l) : ∀ e ∈ untop t, e ∈ l := fun e he => by
  rw [← tp_flat l]
  exact List.mem_flatMap.2 ⟨t, h, he⟩
theorem can_mem : ∀ {ts : List Tp}, Can ts → ∀ t ∈ ts, CanT t
  | t :: ts, h, x, hx => by
    rcases List.mem_cons.1 hx with e | e
    · subst e; exact h.1
    · exact can_mem h.2.2 x e
theorem flat_sub {ts : List Tp} {t : Tp} (h : t ∈ ts) : (untop t).Sublist (ts.flatMap untop) := by
  induction ts with
  | nil => simp at h
  | cons x ts ih =>
    rw [List.flatMap_cons]
    rcases List.mem_cons.1 h with e | e
    · subst e; exact List.sublist_append_left _ _
    · exact (ih e).trans (List.sublist_append_right _ _)
theorem Fine.sub {l : List En} (h : Fine l) {a : Str} {sub : List En} (hm : Tp.d a sub ∈ tp l) : Fine sub ∧ a ≠ [] ∧ a.length ≤ 12 ∧ (47 : UInt8) ∉ a ∧ sub ≠ [] := by
  obtain ⟨ha, hne⟩ := can_mem (tp_canon l) _ hm
  have hs := flat_sub hm
  rw [tp_flat] at hs
  have hm' : ∀ e ∈ sub, under a e ∈ l := fun e he => tp_mem hm _ (List.mem_map.2 ⟨e, he, rfl⟩)
  have hlen : ∀ e ∈ sub, a.length + 1 + e.path.length ≤ 12 := fun e he => by
    have := h.len _ (hm' e he)
    simp [under] at this
    omega
  obtain ⟨e0, r0, rfl⟩ := List.exists_cons_of_ne_nil hne
  have h0 := okP_cut a false e0.path ha (h.ok _ (hm' e0 (by simp)))
  refine ⟨⟨fun e he => (okP_cut a false e.path ha (h.ok _ (hm' e he))).2, fun e he => by have := hlen e he; omega, ?_, ?_, fun e he => h.ids (under a e) (hm' e he), fun e he => h.md (under a e) (hm' e he)⟩, ?_, ?_, ha, hne⟩
  · have := h.srt.sublist hs
    have h2 := List.pairwise_map.1 this
    refine h2.imp (fun {x y} hxy => ?_)
    have e1 : (under a x).path = (a ++ [47]) ++ x.path := by simp [under]
    have e2 : (under a y).path = (a ++ [47]) ++ y.path := by simp [under]
    rw [e1, e2, bl_app] at hxy
    exact hxy
  · have := hs.length_le
    have := h.cnt
    simp [untop] at *
    omega
  · rcases h0.1 with e | e
    · cases e
    · exact e
  · have := hlen e0 (by simp); omega
theorem Deep.sub {n : Nat} {l : List En} (h : Deep (n + 1) l) {a : Str} {sub : List En} (hm : Tp.d a sub ∈ tp l) : Deep n sub := fun e he => by
  have := h _ (tp_mem hm _ (List.mem_map.2 ⟨e, he, rfl⟩))
  rw [slashes_under] at this
  omega
theorem Fine.file {l : List En} (h : Fine l) {e : En} (hm : Tp.f e ∈ tp l) : e ∈ l ∧ e.path ≠ [] ∧ e.path.length ≤ 12 ∧ (47 : UInt8) ∉ e.path := by
  have h1 : e ∈ l := tp_mem hm e (by simp [untop])
  have h2 := can_mem (tp_canon l) _ hm
  exact ⟨h1, okP_file h2 (h.ok e h1), h.len e h1, h2⟩
end Go.Proofs.Qxb6500417aGreat
