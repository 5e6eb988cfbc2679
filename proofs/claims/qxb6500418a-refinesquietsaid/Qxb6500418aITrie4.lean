/-
  OWN WORK. THE INDEX's TREE OF PARTS: a sibling more, a sibling less, a file's content; below a directory.
-/
import Derived.Test.Qxb6500418aITrie3
namespace Go.Proofs.Qxb6500418a
open Go.RowKit Go.PlainAid
set_option linter.unusedSimpArgs false
set_option linter.unusedVariables false

def ent (c : Nat) (n : Str) (file : Bool) (r : Fo) : Fo := if file = true then .file c n [] 0 r else .dir c n .nil r
def keyF (n : Str) (file : Bool) : Str := if file = true then n else n ++ [47]
def Fo.ins (c : Nat) (n : Str) (file : Bool) : Fo → Fo
  | .nil => ent c n file .nil
  | .file c' n' d m r => if bl (keyF n file) n' = true then ent c n file (.file c' n' d m r) else .file c' n' d m (r.ins c n file)
  | .dir c' n' k r => if bl (keyF n file) (n' ++ [47]) = true then ent c n file (.dir c' n' k r) else .dir c' n' k (r.ins c n file)
def Fo.del (n : Str) : Fo → Fo
  | .nil => .nil
  | .file c' n' d m r => if n' = n then r else .file c' n' d m (r.del n)
  | .dir c' n' k r => if n' = n then r else .dir c' n' k (r.del n)
def Fo.setFile (n : Str) (d : Str) (m : Int) : Fo → Fo
  | .nil => .nil
  | .file c' n' d' m' r => if n' = n then .file c' n' d m r else .file c' n' d' m' (r.setFile n d m)
  | .dir c' n' k r => .dir c' n' k (r.setFile n d m)
def Fo.mapKid (n : Str) (h : Fo → Fo) : Fo → Fo
  | .nil => .nil
  | .file c' n' d m r => .file c' n' d m (r.mapKid n h)
  | .dir c' n' k r => if n' = n then .dir c' n' (h k) r else .dir c' n' k (r.mapKid n h)
def upd : List Str → (Fo → Fo) → Fo → Fo
  | [], g, F => g F
  | n :: a, g, F => F.mapKid n (upd a g)
def dirAt : List Str → Nat → Fo → Option (Nat × Fo)
  | [], d, F => some (d, F)
  | n :: a, d, F => match F.hit n with
    | .dir c k => dirAt a c k
    | _ => none
def leaf : List Str → Fo → Option (Str × Int)
  | [], _ => none
  | n :: ps, F => match F.hit n with
    | .none => none
    | .file c d m => if ps = [] then some (d, m) else none
    | .dir c k => if ps = [] then none else leaf ps k

theorem ent_hit (c : Nat) (n : Str) (file : Bool) (r : Fo) (x : Str) : (ent c n file r).hit x = if n = x then (if file = true then .file c [] 0 else .dir c .nil) else r.hit x := by
  unfold ent
  cases file
  · simp [Fo.hit]
  · simp [Fo.hit]
theorem ent_keys (c : Nat) (n : Str) (file : Bool) (r : Fo) : (ent c n file r).keys = keyF n file :: r.keys := by
  unfold ent keyF
  cases file <;> simp [Fo.keys]
theorem ent_names (c : Nat) (n : Str) (file : Bool) (r : Fo) : (ent c n file r).names = n :: r.names := by
  unfold ent
  cases file <;> simp [Fo.names]
theorem ent_ids (c : Nat) (n : Str) (file : Bool) (r : Fo) : (ent c n file r).ids = c :: r.ids := by
  unfold ent
  cases file <;> simp [Fo.ids]
theorem ent_wf {c : Nat} {n : Str} {file : Bool} {r : Fo} (hn : NameOk n) (hk : ∀ k ∈ r.keys, bl (keyF n file) k = true) (hx : n ∉ r.names) (hr : r.Wf) : (ent c n file r).Wf := by
  unfold ent
  unfold keyF at hk
  cases file
  · simp only [Bool.false_eq_true, if_false] at hk ⊢
    exact ⟨hn, hk, hx, trivial, hr⟩
  · simp only [if_true] at hk ⊢
    exact ⟨hn, hk, hx, hr⟩

theorem ins_hit {c : Nat} {n : Str} {file : Bool} {F : Fo} (hx : n ∉ F.names) (x : Str) : (F.ins c n file).hit x = if n = x then (if file = true then .file c [] 0 else .dir c .nil) else F.hit x := by
  induction F with
  | nil => exact ent_hit _ _ _ _ _
  | file c' n' d m r ih =>
    simp [Fo.names] at hx
    unfold Fo.ins
    by_cases h : bl (keyF n file) n' = true
    · rw [if_pos h, ent_hit]
    · rw [if_neg h]
      by_cases e : n = x
      · have hne : n' ≠ x := fun e' => hx.1 (by rw [e, e'])
        simp only [Fo.hit]
        rw [if_neg hne, ih hx.2, if_pos e, if_pos e]
      · rw [if_neg e]
        simp only [Fo.hit]
        rw [ih hx.2, if_neg e]
  | dir c' n' k r ihk ih =>
    simp [Fo.names] at hx
    unfold Fo.ins
    by_cases h : bl (keyF n file) (n' ++ [47]) = true
    · rw [if_pos h, ent_hit]
    · rw [if_neg h]
      by_cases e : n = x
      · have hne : n' ≠ x := fun e' => hx.1 (by rw [e, e'])
        simp only [Fo.hit]
        rw [if_neg hne, ih hx.2, if_pos e, if_pos e]
      · rw [if_neg e]
        simp only [Fo.hit]
        rw [ih hx.2, if_neg e]
theorem ins_keys {c : Nat} {n : Str} {file : Bool} {F : Fo} : ∀ k, k ∈ (F.ins c n file).keys ↔ k = keyF n file ∨ k ∈ F.keys := by
  induction F with
  | nil => intro k; rw [Fo.ins, ent_keys]; simp [Fo.keys]
  | file c' n' d m r ih =>
    intro k
    unfold Fo.ins
    by_cases h : bl (keyF n file) n' = true
    · rw [if_pos h, ent_keys]; simp
    · rw [if_neg h]
      simp only [Fo.keys, List.mem_cons, ih k]
      constructor
      · rintro (h | h | h)
        · exact .inr (.inl h)
        · exact .inl h
        · exact .inr (.inr h)
      · rintro (h | h | h)
        · exact .inr (.inl h)
        · exact .inl h
        · exact .inr (.inr h)
  | dir c' n' kk r ihk ih =>
    intro k
    unfold Fo.ins
    by_cases h : bl (keyF n file) (n' ++ [47]) = true
    · rw [if_pos h, ent_keys]; simp
    · rw [if_neg h]
      simp only [Fo.keys, List.mem_cons, ih k]
      constructor
      · rintro (h | h | h)
        · exact .inr (.inl h)
        · exact .inl h
        · exact .inr (.inr h)
      · rintro (h | h | h)
        · exact .inr (.inl h)
        · exact .inl h
        · exact .inr (.inr h)
theorem ins_names {c : Nat} {n : Str} {file : Bool} {F : Fo} : ∀ k, k ∈ (F.ins c n file).names ↔ k = n ∨ k ∈ F.names := by
  induction F with
  | nil => intro k; rw [Fo.ins, ent_names]; simp [Fo.names]
  | file c' n' d m r ih =>
    intro k
    unfold Fo.ins
    by_cases h : bl (keyF n file) n' = true
    · rw [if_pos h, ent_names]; simp
    · rw [if_neg h]
      simp only [Fo.names, List.mem_cons, ih k]
      constructor
      · rintro (h | h | h)
        · exact .inr (.inl h)
        · exact .inl h
        · exact .inr (.inr h)
      · rintro (h | h | h)
        · exact .inr (.inl h)
        · exact .inl h
        · exact .inr (.inr h)
  | dir c' n' kk r ihk ih =>
    intro k
    unfold Fo.ins
    by_cases h : bl (keyF n file) (n' ++ [47]) = true
    · rw [if_pos h, ent_names]; simp
    · rw [if_neg h]
      simp only [Fo.names, List.mem_cons, ih k]
      constructor
      · rintro (h | h | h)
        · exact .inr (.inl h)
        · exact .inl h
        · exact .inr (.inr h)
      · rintro (h | h | h)
        · exact .inr (.inl h)
        · exact .inl h
        · exact .inr (.inr h)
theorem ins_ids {c : Nat} {n : Str} {file : Bool} {F : Fo} : (F.ins c n file).ids.Perm (c :: F.ids) := by
  induction F with
  | nil => rw [Fo.ins, ent_ids]
  | file c' n' d m r ih =>
    unfold Fo.ins
    by_cases h : bl (keyF n file) n' = true
    · rw [if_pos h, ent_ids]
    · rw [if_neg h]
      simp only [Fo.ids]
      exact (List.Perm.cons c' ih).trans (List.Perm.swap c c' _)
  | dir c' n' k r ihk ih =>
    unfold Fo.ins
    by_cases h : bl (keyF n file) (n' ++ [47]) = true
    · rw [if_pos h, ent_ids]
    · rw [if_neg h]
      simp only [Fo.ids]
      refine (List.Perm.cons c' ((List.Perm.append_left k.ids ih).trans List.perm_middle)).trans (List.Perm.swap c c' _)
/-- Keys of siblings with other names differ. -/
theorem key_ne {n n' : Str} {file : Bool} {q : Str} (hn : NameOk n) (hn' : NameOk n') (hq : q = n' ∨ q = n' ++ [47]) (hne : n ≠ n') : keyF n file ≠ q := by
  intro e
  unfold keyF at e
  cases file
  · simp at e
    rcases hq with rfl | rfl
    · apply hn'.2; rw [← e]; simp
    · exact hne (List.append_cancel_right e)
  · simp at e
    rcases hq with rfl | rfl
    · exact hne e
    · apply hn.2; rw [e]; simp
theorem ins_wf {c : Nat} {n : Str} {file : Bool} {F : Fo} (h : F.Wf) (hn : NameOk n) (hx : n ∉ F.names) : (F.ins c n file).Wf := by
  induction F with
  | nil => exact ent_wf hn (fun k hk => by simp [Fo.keys] at hk) (by simp [Fo.names]) trivial
  | file c' n' d m r ih =>
    have h0 := h
    obtain ⟨h1, h2, h3, h4⟩ := h
    have hx0 := hx
    simp [Fo.names] at hx
    unfold Fo.ins
    by_cases hb : bl (keyF n file) n' = true
    · rw [if_pos hb]
      refine ent_wf hn (fun k hk => ?_) hx0 h0
      simp [Fo.keys] at hk
      rcases hk with rfl | hk
      · exact hb
      · exact bl_trans _ _ _ hb (h2 k hk)
    · rw [if_neg hb]
      have hlt : bl n' (keyF n file) = true := by
        rcases bl_total n' (keyF n file) with e | e | e
        · exact e
        · exact absurd e.symm (key_ne (q := n') hn h1 (.inl rfl) hx.1)
        · exact absurd e hb
      refine ⟨h1, fun k hk => ?_, fun hk => ?_, ih h4 hx.2⟩
      · rcases (ins_keys k).1 hk with rfl | hk
        · exact hlt
        · exact h2 k hk
      · rcases (ins_names n').1 hk with e | hk
        · exact hx.1 e.symm
        · exact h3 hk
  | dir c' n' k r ihk ih =>
    have h0 := h
    obtain ⟨h1, h2, h3, h4, h5⟩ := h
    have hx0 := hx
    simp [Fo.names] at hx
    unfold Fo.ins
    by_cases hb : bl (keyF n file) (n' ++ [47]) = true
    · rw [if_pos hb]
      refine ent_wf hn (fun k hk => ?_) hx0 h0
      simp [Fo.keys] at hk
      rcases hk with rfl | hk
      · exact hb
      · exact bl_trans _ _ _ hb (h2 k hk)
    · rw [if_neg hb]
      have hlt : bl (n' ++ [47]) (keyF n file) = true := by
        rcases bl_total (n' ++ [47]) (keyF n file) with e | e | e
        · exact e
        · exact absurd e.symm (key_ne (q := n' ++ [47]) hn h1 (.inr rfl) hx.1)
        · exact absurd e hb
      refine ⟨h1, fun k hk => ?_, fun hk => ?_, h4, ih h5 hx.2⟩
      · rcases (ins_keys k).1 hk with rfl | hk
        · exact hlt
        · exact h2 k hk
      · rcases (ins_names n').1 hk with e | hk
        · exact hx.1 e.symm
        · exact h3 hk

theorem del_sub {n : Str} {F : Fo} : (∀ k ∈ (F.del n).keys, k ∈ F.keys) ∧ (∀ k ∈ (F.del n).names, k ∈ F.names) := by
  induction F with
  | nil => exact ⟨fun _ h => h, fun _ h => h⟩
  | file c' n' d m r ih =>
    unfold Fo.del
    by_cases e : n' = n
    · rw [if_pos e]
      exact ⟨fun k hk => by simp [Fo.keys, hk], fun k hk => by simp [Fo.names, hk]⟩
    · rw [if_neg e]
      refine ⟨fun k hk => ?_, fun k hk => ?_⟩
      · simp [Fo.keys] at hk ⊢
        rcases hk with h | h
        · exact .inl h
        · exact .inr (ih.1 k h)
      · simp [Fo.names] at hk ⊢
        rcases hk with h | h
        · exact .inl h
        · exact .inr (ih.2 k h)
  | dir c' n' kk r ihk ih =>
    unfold Fo.del
    by_cases e : n' = n
    · rw [if_pos e]
      exact ⟨fun k hk => by simp [Fo.keys, hk], fun k hk => by simp [Fo.names, hk]⟩
    · rw [if_neg e]
      refine ⟨fun k hk => ?_, fun k hk => ?_⟩
      · simp [Fo.keys] at hk ⊢
        rcases hk with h | h
        · exact .inl h
        · exact .inr (ih.1 k h)
      · simp [Fo.names] at hk ⊢
        rcases hk with h | h
        · exact .inl h
        · exact .inr (ih.2 k h)
theorem del_wf {n : Str} {F : Fo} (h : F.Wf) : (F.del n).Wf := by
  induction F with
  | nil => trivial
  | file c' n' d m r ih =>
    obtain ⟨h1, h2, h3, h4⟩ := h
    unfold Fo.del
    by_cases e : n' = n
    · rw [if_pos e]; exact h4
    · rw [if_neg e]
      exact ⟨h1, fun k hk => h2 k (del_sub.1 k hk), fun hk => h3 (del_sub.2 _ hk), ih h4⟩
  | dir c' n' kk r ihk ih =>
    obtain ⟨h1, h2, h3, h4, h5⟩ := h
    unfold Fo.del
    by_cases e : n' = n
    · rw [if_pos e]; exact h5
    · rw [if_neg e]
      exact ⟨h1, fun k hk => h2 k (del_sub.1 k hk), fun hk => h3 (del_sub.2 _ hk), h4, ih h5⟩
theorem hit_no_name {F : Fo} {x : Str} (h : x ∉ F.names) : F.hit x = .none := by
  cases hh : F.hit x with
  | none => rfl
  | file c d m => exact absurd (hit_name (by rw [hh]; simp)) h
  | dir c k => exact absurd (hit_name (by rw [hh]; simp)) h
theorem del_hit {n : Str} {F : Fo} (h : F.Wf) (x : Str) : (F.del n).hit x = if n = x then .none else F.hit x := by
  induction F with
  | nil => simp [Fo.del, Fo.hit]
  | file c' n' d m r ih =>
    obtain ⟨h1, h2, h3, h4⟩ := h
    unfold Fo.del
    by_cases e : n' = n
    · rw [if_pos e]
      by_cases ex : n = x
      · rw [if_pos ex]
        exact hit_no_name (by rw [← ex, ← e]; exact h3)
      · rw [if_neg ex]
        simp only [Fo.hit]
        rw [if_neg (by rw [e]; exact ex)]
    · rw [if_neg e]
      simp only [Fo.hit]
      by_cases ex : n' = x
      · rw [if_pos ex, if_pos ex, if_neg (fun e2 => e (by rw [ex, e2]))]
      · rw [if_neg ex, if_neg ex, ih h4]
  | dir c' n' kk r ihk ih =>
    obtain ⟨h1, h2, h3, h4, h5⟩ := h
    unfold Fo.del
    by_cases e : n' = n
    · rw [if_pos e]
      by_cases ex : n = x
      · rw [if_pos ex]
        exact hit_no_name (by rw [← ex, ← e]; exact h3)
      · rw [if_neg ex]
        simp only [Fo.hit]
        rw [if_neg (by rw [e]; exact ex)]
    · rw [if_neg e]
      simp only [Fo.hit]
      by_cases ex : n' = x
      · rw [if_pos ex, if_pos ex, if_neg (fun e2 => e (by rw [ex, e2]))]
      · rw [if_neg ex, if_neg ex, ih h5]

theorem setFile_shape {n d : Str} {m : Int} {F : Fo} : (F.setFile n d m).keys = F.keys ∧ (F.setFile n d m).names = F.names ∧ (F.setFile n d m).ids = F.ids := by
  induction F with
  | nil => exact ⟨rfl, rfl, rfl⟩
  | file c' n' d' m' r ih =>
    unfold Fo.setFile
    by_cases e : n' = n
    · rw [if_pos e]; exact ⟨rfl, rfl, rfl⟩
    · rw [if_neg e]; simp [Fo.keys, Fo.names, Fo.ids, ih.1, ih.2.1, ih.2.2]
  | dir c' n' k r ihk ih =>
    unfold Fo.setFile
    simp [Fo.keys, Fo.names, Fo.ids, ih.1, ih.2.1, ih.2.2]
theorem setFile_wf {n d : Str} {m : Int} {F : Fo} (h : F.Wf) : (F.setFile n d m).Wf := by
  induction F with
  | nil => trivial
  | file c' n' d' m' r ih =>
    obtain ⟨h1, h2, h3, h4⟩ := h
    unfold Fo.setFile
    by_cases e : n' = n
    · rw [if_pos e]; exact ⟨h1, h2, h3, h4⟩
    · rw [if_neg e]
      exact ⟨h1, by rw [setFile_shape.1]; exact h2, by rw [setFile_shape.2.1]; exact h3, ih h4⟩
  | dir c' n' k r ihk ih =>
    obtain ⟨h1, h2, h3, h4, h5⟩ := h
    unfold Fo.setFile
    exact ⟨h1, by rw [setFile_shape.1]; exact h2, by rw [setFile_shape.2.1]; exact h3, h4, ih h5⟩
theorem setFile_hit {n d : Str} {m : Int} {F : Fo} {c : Nat} {d0 : Str} {m0 : Int} (h : F.hit n = .file c d0 m0) (x : Str) : (F.setFile n d m).hit x = if n = x then .file c d m else F.hit x := by
  induction F with
  | nil => cases h
  | file c' n' d' m' r ih =>
    unfold Fo.setFile
    simp only [Fo.hit] at h
    by_cases e : n' = n
    · rw [if_pos e] at h
      cases h
      rw [if_pos e]
      simp only [Fo.hit]
      rw [e]
      by_cases ex : n = x
      · rw [if_pos ex, if_pos ex]
      · rw [if_neg ex, if_neg ex, if_neg ex]
    · rw [if_neg e] at h
      rw [if_neg e]
      simp only [Fo.hit]
      by_cases ex : n' = x
      · rw [if_pos ex, if_pos ex, if_neg (fun e2 => e (by rw [ex, e2]))]
      · rw [if_neg ex, if_neg ex, ih h]
  | dir c' n' k r ihk ih =>
    unfold Fo.setFile
    simp only [Fo.hit] at h ⊢
    by_cases e : n' = n
    · rw [if_pos e] at h; cases h
    · rw [if_neg e] at h
      by_cases ex : n' = x
      · rw [if_pos ex, if_pos ex, if_neg (fun e2 => e (by rw [ex, e2]))]
      · rw [if_neg ex, if_neg ex, ih h]

theorem mapKid_shape {n : Str} {h : Fo → Fo} {F : Fo} : (F.mapKid n h).keys = F.keys ∧ (F.mapKid n h).names = F.names := by
  induction F with
  | nil => exact ⟨rfl, rfl⟩
  | file c' n' d' m' r ih => unfold Fo.mapKid; simp [Fo.keys, Fo.names, ih.1, ih.2]
  | dir c' n' k r ihk ih =>
    unfold Fo.mapKid
    by_cases e : n' = n
    · rw [if_pos e]; exact ⟨rfl, rfl⟩
    · rw [if_neg e]; simp [Fo.keys, Fo.names, ih.1, ih.2]
theorem mapKid_hit {n : Str} {g : Fo → Fo} {F : Fo} {c : Nat} {k : Fo} (h : F.hit n = .dir c k) (x : Str) : (F.mapKid n g).hit x = if n = x then .dir c (g k) else F.hit x := by
  induction F with
  | nil => cases h
  | file c' n' d' m' r ih =>
    unfold Fo.mapKid
    simp only [Fo.hit] at h ⊢
    by_cases e : n' = n
    · rw [if_pos e] at h; cases h
    · rw [if_neg e] at h
      by_cases ex : n' = x
      · rw [if_pos ex, if_pos ex, if_neg (fun e2 => e (by rw [ex, e2]))]
      · rw [if_neg ex, if_neg ex, ih h]
  | dir c' n' k' r ihk ih =>
    unfold Fo.mapKid
    simp only [Fo.hit] at h
    by_cases e : n' = n
    · rw [if_pos e] at h
      cases h
      rw [if_pos e]
      simp only [Fo.hit]
      rw [e]
      by_cases ex : n = x
      · rw [if_pos ex, if_pos ex]
      · rw [if_neg ex, if_neg ex, if_neg ex]
    · rw [if_neg e] at h
      rw [if_neg e]
      simp only [Fo.hit]
      by_cases ex : n' = x
      · rw [if_pos ex, if_pos ex, if_neg (fun e2 => e (by rw [ex, e2]))]
      · rw [if_neg ex, if_neg ex, ih h]
theorem hit_dir_wf {F : Fo} (hw : F.Wf) {x : Str} {c : Nat} {k : Fo} (hh : F.hit x = .dir c k) : k.Wf := by
  induction F with
  | nil => cases hh
  | file c2 n2 d2 m2 r ih =>
    simp only [Fo.hit] at hh
    by_cases e : n2 = x
    · rw [if_pos e] at hh; cases hh
    · rw [if_neg e] at hh
      exact ih hw.2.2.2 hh
  | dir c2 n2 k2 r ihk ih =>
    simp only [Fo.hit] at hh
    by_cases e : n2 = x
    · rw [if_pos e] at hh
      cases hh
      exact hw.2.2.2.1
    · rw [if_neg e] at hh
      exact ih hw.2.2.2.2 hh
theorem mapKid_wf {n : Str} {g : Fo → Fo} {F : Fo} {c : Nat} {k : Fo} (hw : F.Wf) (hh : F.hit n = .dir c k) (hg : (g k).Wf) : (F.mapKid n g).Wf := by
  induction F with
  | nil => cases hh
  | file c2 n2 d2 m2 r ih =>
    simp only [Fo.hit] at hh
    obtain ⟨h1, h2, h3, h4⟩ := hw
    by_cases e : n2 = n
    · rw [if_pos e] at hh; cases hh
    · rw [if_neg e] at hh
      unfold Fo.mapKid
      exact ⟨h1, by rw [mapKid_shape.1]; exact h2, by rw [mapKid_shape.2]; exact h3, ih h4 hh⟩
  | dir c2 n2 k2 r ihk ih =>
    simp only [Fo.hit] at hh
    obtain ⟨h1, h2, h3, h4, h5⟩ := hw
    unfold Fo.mapKid
    by_cases e : n2 = n
    · rw [if_pos e] at hh
      cases hh
      rw [if_pos e]
      exact ⟨h1, h2, h3, hg, h5⟩
    · rw [if_neg e] at hh
      rw [if_neg e]
      exact ⟨h1, by rw [mapKid_shape.1]; exact h2, by rw [mapKid_shape.2]; exact h3, h4, ih h5 hh⟩

theorem dirAt_cons {n : Str} {a : List Str} {d0 d : Nat} {F K : Fo} (h : dirAt (n :: a) d0 F = some (d, K)) : ∃ c k, F.hit n = .dir c k ∧ dirAt a c k = some (d, K) := by
  unfold dirAt at h
  cases hh : F.hit n with
  | none => rw [hh] at h; cases h
  | file c d m => rw [hh] at h; cases h
  | dir c k => rw [hh] at h; exact ⟨c, k, rfl, h⟩
theorem upd_wf : ∀ {a : List Str} {g : Fo → Fo} {d0 d : Nat} {F K : Fo}, F.Wf → dirAt a d0 F = some (d, K) → (g K).Wf → (upd a g F).Wf
  | [], g, d0, d, F, K, _, h, hg => by cases h; exact hg
  | n :: a, g, d0, d, F, K, hw, h, hg => by
    obtain ⟨c, k, hh, h'⟩ := dirAt_cons h
    exact mapKid_wf hw hh (upd_wf (hit_dir_wf hw hh) h' hg)
theorem dirAt_wf : ∀ {a : List Str} {d0 d : Nat} {F K : Fo}, F.Wf → dirAt a d0 F = some (d, K) → K.Wf
  | [], d0, d, F, K, hw, h => by cases h; exact hw
  | n :: a, d0, d, F, K, hw, h => by
    obtain ⟨c, k, hh, h'⟩ := dirAt_cons h
    exact dirAt_wf (hit_dir_wf hw hh) h'
theorem upd_dirAt : ∀ {a : List Str} {g : Fo → Fo} {d0 d : Nat} {F K : Fo}, dirAt a d0 F = some (d, K) → dirAt a d0 (upd a g F) = some (d, g K)
  | [], g, d0, d, F, K, h => by cases h; rfl
  | n :: a, g, d0, d, F, K, h => by
    obtain ⟨c, k, hh, h'⟩ := dirAt_cons h
    show dirAt (n :: a) d0 (F.mapKid n (upd a g)) = _
    unfold dirAt
    rw [mapKid_hit hh, if_pos rfl]
    exact upd_dirAt h'
theorem upd_hit : ∀ {a : List Str} {g : Fo → Fo} {d0 d : Nat} {F K : Fo} (x : Str), a ≠ [] → dirAt a d0 F = some (d, K) → (∀ c k, F.hit x = .dir c k → ∃ k', (upd a g F).hit x = .dir c k') ∧ (∀ c d m, F.hit x = .file c d m → (upd a g F).hit x = .file c d m) ∧ (F.hit x = .none → (upd a g F).hit x = .none)
  | [], g, d0, d, F, K, x, h, _ => absurd rfl h
  | n :: a, g, d0, d, F, K, x, _, h => by
    obtain ⟨c, k, hh, h'⟩ := dirAt_cons h
    have e : (upd (n :: a) g F).hit x = if n = x then .dir c (upd a g k) else F.hit x := mapKid_hit hh x
    rw [e]
    by_cases ex : n = x
    · rw [if_pos ex]
      rw [ex] at hh
      rw [hh]
      refine ⟨fun c' k' e2 => ⟨_, by cases e2; rfl⟩, fun _ _ _ e2 => (by cases e2), fun e2 => (by cases e2)⟩
    · rw [if_neg ex]
      exact ⟨fun c' k' e2 => ⟨k', e2⟩, fun _ _ _ e2 => e2, fun e2 => e2⟩
/-- Where a change below a directory is seen. -/
theorem upd_leaf : ∀ {a : List Str} {g : Fo → Fo} {d0 d : Nat} {F K : Fo} (qs : List Str), dirAt a d0 F = some (d, K) → (∀ rs, rs ≠ [] → qs = a ++ rs → leaf qs (upd a g F) = leaf rs (g K)) ∧ ((∀ rs, rs ≠ [] → qs ≠ a ++ rs) → leaf qs (upd a g F) = leaf qs F)
  | [], g, d0, d, F, K, qs, h => by
    cases h
    refine ⟨fun rs _ e => by rw [e]; rfl, fun hno => ?_⟩
    cases qs with
    | nil => rfl
    | cons q qs => exact absurd rfl (hno (q :: qs) (by simp))
  | n :: a, g, d0, d, F, K, qs, h => by
    obtain ⟨c, k, hh, h'⟩ := dirAt_cons h
    have hit := fun x => mapKid_hit (g := upd a g) hh x
    cases qs with
    | nil => exact ⟨fun rs _ e => by simp at e, fun _ => rfl⟩
    | cons q qs =>
      have e1 : leaf (q :: qs) (upd (n :: a) g F) = match (F.mapKid n (upd a g)).hit q with
        | .none => none
        | .file c d m => if qs = [] then some (d, m) else none
        | .dir c k => if qs = [] then none else leaf qs k := rfl
      have e2 : leaf (q :: qs) F = match F.hit q with
        | .none => none
        | .file c d m => if qs = [] then some (d, m) else none
        | .dir c k => if qs = [] then none else leaf qs k := rfl
      rw [e1, e2, hit q]
      by_cases ex : n = q
      · rw [if_pos ex]
        subst ex
        rw [hh]
        obtain ⟨i1, i2⟩ := upd_leaf (g := g) qs h'
        refine ⟨fun rs hr e => ?_, fun hno => ?_⟩
        · simp at e
          have hq : qs ≠ [] := fun e0 => by rw [e0] at e; cases a <;> simp at e; exact hr e
          simp [hq]
          exact i1 rs hr e
        · by_cases hq : qs = []
          · simp [hq]
          · simp [hq]
            exact i2 (fun rs hr e => hno rs hr (by rw [e]; rfl))
      · rw [if_neg ex]
        refine ⟨fun rs hr e => ?_, fun _ => rfl⟩
        simp at e
        exact absurd e.1.symm ex
end Go.Proofs.Qxb6500418a
