/-
  OWN WORK. THE INDEX's TREE OF PARTS: rows by their parts; full directories; short names.
-/
import Derived.Test.Qxb6500418aILay2
namespace Go.Proofs.Qxb6500418a
open Go.RowKit Go.PlainAid
set_option linter.unusedSimpArgs false
set_option linter.unusedVariables false

theorem upd_const : ∀ {a : List Str} {g : Fo → Fo} {d0 d : Nat} {F K : Fo}, dirAt a d0 F = some (d, K) → upd a g F = upd a (fun _ => g K) F
  | [], g, d0, d, F, K, h => by cases h; rfl
  | n :: a, g, d0, d, F, K, h => by
    obtain ⟨c, k, hh, h'⟩ := dirAt_cons h
    have e := upd_const (g := g) h'
    show F.mapKid n (upd a g) = F.mapKid n (upd a (fun _ => g K))
    clear h
    induction F with
    | nil => rfl
    | file c2 n2 d2 m2 r ih =>
      simp only [Fo.hit] at hh
      by_cases e2 : n2 = n
      · rw [if_pos e2] at hh; cases hh
      · rw [if_neg e2] at hh
        simp only [Fo.mapKid]
        rw [ih hh]
    | dir c2 n2 k2 r ihk ih =>
      simp only [Fo.hit] at hh
      simp only [Fo.mapKid]
      by_cases e2 : n2 = n
      · rw [if_pos e2] at hh
        cases hh
        rw [if_pos e2, if_pos e2, e]
      · rw [if_neg e2] at hh
        rw [if_neg e2, if_neg e2, ih hh]
theorem upd_app : ∀ {a b : List Str} {g : Fo → Fo} {F : Fo}, upd (a ++ b) g F = upd a (upd b g) F
  | [], b, g, F => rfl
  | n :: a, b, g, F => by
    show F.mapKid n (upd (a ++ b) g) = F.mapKid n (upd a (upd b g))
    congr 1
    funext k
    exact upd_app
theorem dirAt_app : ∀ {a b : List Str} {d0 d : Nat} {F K : Fo}, dirAt a d0 F = some (d, K) → dirAt (a ++ b) d0 F = dirAt b d K
  | [], b, d0, d, F, K, h => by cases h; rfl
  | n :: a, b, d0, d, F, K, h => by
    obtain ⟨c, k, hh, h'⟩ := dirAt_cons h
    rw [List.cons_append]
    show (match F.hit n with | .dir c k => dirAt (a ++ b) c k | _ => none) = _
    rw [hh]
    exact dirAt_app h'
theorem upd_upd : ∀ {a : List Str} {g h : Fo → Fo} {d0 d : Nat} {F K : Fo}, dirAt a d0 F = some (d, K) → upd a g (upd a h F) = upd a (fun k => g (h k)) F
  | [], g, h, d0, d, F, K, _ => rfl
  | n :: a, g, h, d0, d, F, K, e => by
    obtain ⟨c, k, hh, h'⟩ := dirAt_cons e
    have ih := upd_upd (g := g) (h := h) h'
    show (F.mapKid n (upd a h)).mapKid n (upd a g) = F.mapKid n (upd a (fun k => g (h k)))
    clear e
    induction F with
    | nil => rfl
    | file c2 n2 d2 m2 r ihr =>
      simp only [Fo.hit] at hh
      by_cases e2 : n2 = n
      · rw [if_pos e2] at hh; cases hh
      · rw [if_neg e2] at hh
        simp only [Fo.mapKid]
        rw [ihr hh]
    | dir c2 n2 k2 r ihk ihr =>
      simp only [Fo.hit] at hh
      simp only [Fo.mapKid]
      by_cases e2 : n2 = n
      · rw [if_pos e2] at hh
        cases hh
        rw [if_pos e2, if_pos e2]
        simp only [Fo.mapKid]
        rw [if_pos e2, ih]
      · rw [if_neg e2] at hh
        rw [if_neg e2, if_neg e2]
        simp only [Fo.mapKid]
        rw [if_neg e2, ihr hh]

theorem leaf_cons (n : Str) (ps : List Str) (F : Fo) : leaf (n :: ps) F = match F.hit n with
    | .none => none
    | .file c d m => if ps = [] then some (d, m) else none
    | .dir c k => if ps = [] then none else leaf ps k := rfl
theorem leaf_look : ∀ {ps : List Str} {F : Fo} {d : Str} {m : Int}, leaf ps F = some (d, m) ↔ ∃ c, look ps F = .file c d m
  | [], F, d, m => ⟨fun h => (by cases h), fun ⟨c, h⟩ => (by cases h)⟩
  | n :: ps, F, d, m => by
    rw [leaf_cons]
    unfold look
    cases hh : F.hit n with
    | none => exact ⟨fun h => (by cases h), fun ⟨c, h⟩ => (by cases h)⟩
    | file c d' m' =>
      by_cases e : ps = []
      · simp [e]
      · simp [e]
    | dir c k =>
      by_cases e : ps = []
      · simp [e]
      · simp [e]
        exact leaf_look
theorem gather_leaf {F : Fo} (h : F.Wf) (f : Fl) : f ∈ F.gather [] ↔ ∃ ps d m, ps ≠ [] ∧ NamesOk ps ∧ leaf ps F = some (d, m) ∧ f = mkFl (joinP ps) d m := by
  constructor
  · intro hf
    obtain ⟨ps, c, d, m, a1, a2, a3, a4⟩ := file_look h [] f hf
    exact ⟨ps, d, m, a1, a2, leaf_look.2 ⟨c, a3⟩, by simpa using a4⟩
  · rintro ⟨ps, d, m, a1, a2, a3, rfl⟩
    obtain ⟨c, hc⟩ := leaf_look.1 a3
    simpa using look_file [] hc
theorem ins_leaf {c : Nat} {n : Str} {file : Bool} {K : Fo} (hx : n ∉ K.names) (ts : List Str) : leaf ts (K.ins c n file) = if file = true ∧ ts = [n] then some ([], 0) else leaf ts K := by
  cases ts with
  | nil => simp [leaf]
  | cons t ts =>
    rw [leaf_cons, leaf_cons, ins_hit hx]
    by_cases e : n = t
    · subst e
      rw [if_pos rfl, hit_no_name hx]
      cases file with
      | true =>
        by_cases e2 : ts = []
        · simp [e2]
        · simp [e2]
      | false =>
        by_cases e2 : ts = []
        · simp [e2]
        · simp [e2]
          cases ts with
          | nil => exact absurd rfl e2
          | cons t2 ts => simp [leaf_cons, Fo.hit]
    · rw [if_neg e]
      have : ¬ (file = true ∧ t :: ts = [n]) := by
        rintro ⟨_, h⟩
        simp at h
        exact e h.1.symm
      rw [if_neg this]
theorem setFile_leaf {n d : Str} {m : Int} {K : Fo} {c : Nat} {d0 : Str} {m0 : Int} (h : K.hit n = .file c d0 m0) (ts : List Str) : leaf ts (K.setFile n d m) = if ts = [n] then some (d, m) else leaf ts K := by
  cases ts with
  | nil => simp [leaf]
  | cons t ts =>
    rw [leaf_cons, leaf_cons, setFile_hit h]
    by_cases e : n = t
    · subst e
      rw [if_pos rfl, h]
      by_cases e2 : ts = []
      · simp [e2]
      · simp [e2]
    · rw [if_neg e]
      have : ¬ (t :: ts = [n]) := by
        intro h
        simp at h
        exact e h.1.symm
      rw [if_neg this]
theorem del_leaf {n : Str} {K : Fo} (hw : K.Wf) (ts : List Str) (hd : ∀ c k, K.hit n = .dir c k → k = .nil) : leaf ts (K.del n) = if ts = [n] then none else leaf ts K := by
  cases ts with
  | nil => simp [leaf]
  | cons t ts =>
    rw [leaf_cons, leaf_cons, del_hit hw]
    by_cases e : n = t
    · subst e
      rw [if_pos rfl]
      by_cases e2 : ts = []
      · simp [e2]
      · simp [e2]
        cases hh : K.hit n with
        | none => rfl
        | file c d m => rfl
        | dir c k =>
          rw [hd c k hh]
          cases ts with
          | nil => exact absurd rfl e2
          | cons t2 ts => simp [leaf_cons, Fo.hit]
    · rw [if_neg e]
      have : ¬ (t :: ts = [n]) := by
        intro h
        simp at h
        exact e h.1.symm
      rw [if_neg this]

/-- Whatever is laid below a, the rest is full. -/
def FullAt (a : List Str) (G : Fo) : Prop := ∀ J : Fo, J.Full → (J ≠ .nil ∨ a = []) → (upd a (fun _ => J) G).Full
theorem hit_dir_full {F : Fo} (hf : F.Full) {x : Str} {c : Nat} {k : Fo} (hh : F.hit x = .dir c k) : k.Full ∧ k ≠ .nil := by
  induction F with
  | nil => cases hh
  | file c2 n2 d2 m2 r ih =>
    simp only [Fo.hit] at hh
    by_cases e : n2 = x
    · rw [if_pos e] at hh; cases hh
    · rw [if_neg e] at hh
      exact ih hf hh
  | dir c2 n2 k2 r ihk ih =>
    simp only [Fo.hit] at hh
    by_cases e : n2 = x
    · rw [if_pos e] at hh
      cases hh
      exact ⟨hf.2.1, hf.1⟩
    · rw [if_neg e] at hh
      exact ih hf.2.2 hh
theorem mapKid_full {F : Fo} (hf : F.Full) {x : Str} {J : Fo} (hJ : J.Full) (hne : J ≠ .nil) : (F.mapKid x (fun _ => J)).Full := by
  induction F with
  | nil => trivial
  | file c2 n2 d2 m2 r ih => exact ih hf
  | dir c2 n2 k2 r ihk ih =>
    simp only [Fo.mapKid]
    by_cases e : n2 = x
    · rw [if_pos e]; exact ⟨hne, hJ, hf.2.2⟩
    · rw [if_neg e]; exact ⟨hf.1, hf.2.1, ih hf.2.2⟩
theorem mapKid_ne {F : Fo} {x : Str} {h : Fo → Fo} (hne : F ≠ .nil) : F.mapKid x h ≠ .nil := by
  cases F with
  | nil => exact absurd rfl hne
  | file c n d m r => simp [Fo.mapKid]
  | dir c n k r =>
    simp only [Fo.mapKid]
    by_cases e : n = x
    · rw [if_pos e]; simp
    · rw [if_neg e]; simp
theorem ent_ne (c : Nat) (n : Str) (file : Bool) (r : Fo) : ent c n file r ≠ .nil := by
  unfold ent
  cases file <;> simp
theorem ins_ne (c : Nat) (n : Str) (file : Bool) (K : Fo) : K.ins c n file ≠ .nil := by
  cases K with
  | nil => exact ent_ne _ _ _ _
  | file c2 n2 d2 m2 r =>
    simp only [Fo.ins]
    by_cases e : bl (keyF n file) n2 = true
    · rw [if_pos e]; exact ent_ne _ _ _ _
    · rw [if_neg e]; simp
  | dir c2 n2 k2 r =>
    simp only [Fo.ins]
    by_cases e : bl (keyF n file) (n2 ++ [47]) = true
    · rw [if_pos e]; exact ent_ne _ _ _ _
    · rw [if_neg e]; simp
theorem ins_file_full {c : Nat} {n : Str} {K : Fo} (h : K.Full) : (K.ins c n true).Full := by
  induction K with
  | nil => trivial
  | file c2 n2 d2 m2 r ih =>
    simp only [Fo.ins]
    by_cases e : bl (keyF n true) n2 = true
    · rw [if_pos e]; exact h
    · rw [if_neg e]; exact ih h
  | dir c2 n2 k2 r ihk ih =>
    simp only [Fo.ins]
    by_cases e : bl (keyF n true) (n2 ++ [47]) = true
    · rw [if_pos e]; exact h
    · rw [if_neg e]; exact ⟨h.1, h.2.1, ih h.2.2⟩
theorem ins_dir_full {c : Nat} {n : Str} {K J : Fo} (h : K.Full) (hx : n ∉ K.names) (hJ : J.Full) (hne : J ≠ .nil) : ((K.ins c n false).mapKid n (fun _ => J)).Full := by
  induction K with
  | nil =>
    simp only [Fo.ins, ent]
    simp only [Bool.false_eq_true, if_false, Fo.mapKid, if_true]
    exact ⟨hne, hJ, trivial⟩
  | file c2 n2 d2 m2 r ih =>
    simp [Fo.names] at hx
    simp only [Fo.ins]
    by_cases e : bl (keyF n false) n2 = true
    · rw [if_pos e]
      simp only [ent, Bool.false_eq_true, if_false, Fo.mapKid, if_true]
      exact ⟨hne, hJ, h⟩
    · rw [if_neg e]; exact ih h hx.2
  | dir c2 n2 k2 r ihk ih =>
    simp [Fo.names] at hx
    simp only [Fo.ins]
    by_cases e : bl (keyF n false) (n2 ++ [47]) = true
    · rw [if_pos e]
      simp only [ent, Bool.false_eq_true, if_false, Fo.mapKid, if_true]
      exact ⟨hne, hJ, h⟩
    · rw [if_neg e]
      simp only [Fo.mapKid]
      rw [if_neg (fun e2 => hx.1 e2.symm)]
      exact ⟨h.1, h.2.1, ih h.2.2 hx.2⟩
theorem setFile_full {n d : Str} {m : Int} {K : Fo} (h : K.Full) : (K.setFile n d m).Full := by
  induction K with
  | nil => trivial
  | file c2 n2 d2 m2 r ih =>
    simp only [Fo.setFile]
    by_cases e : n2 = n
    · rw [if_pos e]; exact h
    · rw [if_neg e]; exact ih h
  | dir c2 n2 k2 r ihk ih => exact ⟨h.1, h.2.1, ih h.2.2⟩
theorem setFile_ne {n d : Str} {m : Int} {K : Fo} (h : K ≠ .nil) : K.setFile n d m ≠ .nil := by
  cases K with
  | nil => exact absurd rfl h
  | file c2 n2 d2 m2 r =>
    simp only [Fo.setFile]
    by_cases e : n2 = n
    · rw [if_pos e]; simp
    · rw [if_neg e]; simp
  | dir c2 n2 k2 r => simp [Fo.setFile]

/-- Every name is short. -/
def Fo.Short : Fo → Prop
  | .nil => True
  | .file c n d m r => n.length ≤ 12 ∧ r.Short
  | .dir c n k r => n.length ≤ 12 ∧ k.Short ∧ r.Short
theorem Short.names {F : Fo} (h : F.Short) : ∀ q ∈ F.names, q.length ≤ 12 := by
  induction F with
  | nil => intro q hq; simp [Fo.names] at hq
  | file c n d m r ih =>
    intro q hq
    simp [Fo.names] at hq
    rcases hq with rfl | hq
    · exact h.1
    · exact ih h.2 q hq
  | dir c n k r ihk ih =>
    intro q hq
    simp [Fo.names] at hq
    rcases hq with rfl | hq
    · exact h.1
    · exact ih h.2.2 q hq
theorem Short.hit {F : Fo} (h : F.Short) {x : Str} {c : Nat} {k : Fo} (hh : F.hit x = .dir c k) : k.Short := by
  induction F with
  | nil => cases hh
  | file c2 n2 d2 m2 r ih =>
    simp only [Fo.hit] at hh
    by_cases e : n2 = x
    · rw [if_pos e] at hh; cases hh
    · rw [if_neg e] at hh
      exact ih h.2 hh
  | dir c2 n2 k2 r ihk ih =>
    simp only [Fo.hit] at hh
    by_cases e : n2 = x
    · rw [if_pos e] at hh
      cases hh
      exact h.2.1
    · rw [if_neg e] at hh
      exact ih h.2.2 hh
theorem Short.mapKid {F : Fo} (h : F.Short) {x : Str} {g : Fo → Fo} {c : Nat} {k : Fo} (hh : F.hit x = .dir c k) (hg : (g k).Short) : (F.mapKid x g).Short := by
  induction F with
  | nil => trivial
  | file c2 n2 d2 m2 r ih =>
    simp only [Fo.hit] at hh
    by_cases e : n2 = x
    · rw [if_pos e] at hh; cases hh
    · rw [if_neg e] at hh
      exact ⟨h.1, ih h.2 hh⟩
  | dir c2 n2 k2 r ihk ih =>
    simp only [Fo.hit] at hh
    simp only [Fo.mapKid]
    by_cases e : n2 = x
    · rw [if_pos e] at hh
      cases hh
      rw [if_pos e]
      exact ⟨h.1, hg, h.2.2⟩
    · rw [if_neg e] at hh
      rw [if_neg e]
      exact ⟨h.1, h.2.1, ih h.2.2 hh⟩
theorem Short.dirAt : ∀ {a : List Str} {d0 d : Nat} {F K : Fo}, F.Short → Go.Proofs.Qxb6500418a.dirAt a d0 F = some (d, K) → K.Short
  | [], d0, d, F, K, hw, h => by cases h; exact hw
  | n :: a, d0, d, F, K, hw, h => by
    obtain ⟨c, k, hh, h'⟩ := dirAt_cons h
    exact Short.dirAt (Short.hit hw hh) h'
theorem Short.upd : ∀ {a : List Str} {g : Fo → Fo} {d0 d : Nat} {F K : Fo}, F.Short → Go.Proofs.Qxb6500418a.dirAt a d0 F = some (d, K) → (g K).Short → (Go.Proofs.Qxb6500418a.upd a g F).Short
  | [], g, d0, d, F, K, _, h, hg => by cases h; exact hg
  | n :: a, g, d0, d, F, K, hw, h, hg => by
    obtain ⟨c, k, hh, h'⟩ := dirAt_cons h
    exact Short.mapKid hw hh (Short.upd (Short.hit hw hh) h' hg)
theorem Short.ins {c : Nat} {n : Str} {file : Bool} {K : Fo} (h : K.Short) (hn : n.length ≤ 12) : (K.ins c n file).Short := by
  have he : ∀ r : Fo, r.Short → (ent c n file r).Short := by
    intro r hr
    unfold ent
    cases file
    · exact ⟨hn, trivial, hr⟩
    · exact ⟨hn, hr⟩
  induction K with
  | nil => exact he _ trivial
  | file c2 n2 d2 m2 r ih =>
    simp only [Fo.ins]
    by_cases e : bl (keyF n file) n2 = true
    · rw [if_pos e]; exact he _ h
    · rw [if_neg e]; exact ⟨h.1, ih h.2⟩
  | dir c2 n2 k2 r ihk ih =>
    simp only [Fo.ins]
    by_cases e : bl (keyF n file) (n2 ++ [47]) = true
    · rw [if_pos e]; exact he _ h
    · rw [if_neg e]; exact ⟨h.1, h.2.1, ih h.2.2⟩
theorem Short.setFile {n d : Str} {m : Int} {K : Fo} (h : K.Short) : (K.setFile n d m).Short := by
  induction K with
  | nil => trivial
  | file c2 n2 d2 m2 r ih =>
    simp only [Fo.setFile]
    by_cases e : n2 = n
    · rw [if_pos e]; exact h
    · rw [if_neg e]; exact ⟨h.1, ih h.2⟩
  | dir c2 n2 k2 r ihk ih => exact ⟨h.1, h.2.1, ih h.2.2⟩
theorem Short.del {n : Str} {K : Fo} (h : K.Short) : (K.del n).Short := by
  induction K with
  | nil => trivial
  | file c2 n2 d2 m2 r ih =>
    simp only [Fo.del]
    by_cases e : n2 = n
    · rw [if_pos e]; exact h.2
    · rw [if_neg e]; exact ⟨h.1, ih h.2⟩
  | dir c2 n2 k2 r ihk ih =>
    simp only [Fo.del]
    by_cases e : n2 = n
    · rw [if_pos e]; exact h.2.2
    · rw [if_neg e]; exact ⟨h.1, h.2.1, ih h.2.2⟩

/-- A row set: the listing behind it. -/
theorem set_law {F G : Fo} (hF : F.Wf) (hG : G.Wf) {ps : List Str} (hne : ps ≠ []) (hn : NamesOk ps) (d : Str) (m : Int) (hps : leaf ps G = some (d, m)) (hoth : ∀ rs, rs ≠ ps → leaf rs G = leaf rs F) : G.gather [] = withL (F.gather []) (mkFl (joinP ps) d m) := by
  refine sorted_ext (gather_sorted hG []) (withL_sorted (gather_sorted hF [])) (fun f => ?_)
  rw [withL_mem (gather_sorted hF []), gather_leaf hG, gather_leaf hF]
  constructor
  · rintro ⟨rs, d', m', a1, a2, a3, rfl⟩
    by_cases e : rs = ps
    · subst e
      rw [hps] at a3
      simp at a3
      left
      rw [a3.1, a3.2]
    · right
      rw [hoth rs e] at a3
      refine ⟨⟨rs, d', m', a1, a2, a3, rfl⟩, ?_⟩
      rw [pth_mk, pth_mk]
      exact fun h => e (joinP_inj a1 hne a2 hn h)
  · rintro (rfl | ⟨⟨rs, d', m', a1, a2, a3, rfl⟩, h⟩)
    · exact ⟨ps, d, m, hne, hn, hps, rfl⟩
    · rw [pth_mk, pth_mk] at h
      refine ⟨rs, d', m', a1, a2, ?_, rfl⟩
      rw [hoth rs (fun e => h (by rw [e]))]
      exact a3
/-- A row gone: the listing behind it. -/
theorem del_law {F G : Fo} (hF : F.Wf) (hG : G.Wf) {ps : List Str} (hne : ps ≠ []) (hn : NamesOk ps) (hps : leaf ps G = none) (hoth : ∀ rs, rs ≠ ps → leaf rs G = leaf rs F) (p : ByteArray) (hp : ls p = joinP ps) : G.gather [] = withoutL (F.gather []) p := by
  refine sorted_ext (gather_sorted hG []) ((gather_sorted hF []).filter _) (fun f => ?_)
  have hpp : ∀ f : Fl, f.path = p ↔ pth f = joinP ps := fun f => ⟨fun e => by unfold pth; rw [e, hp], fun e => ls_inj (by rw [hp]; exact e)⟩
  unfold withoutL
  rw [List.mem_filter, gather_leaf hG, gather_leaf hF]
  constructor
  · rintro ⟨rs, d', m', a1, a2, a3, rfl⟩
    have e : rs ≠ ps := fun e => by rw [e, hps] at a3; cases a3
    rw [hoth rs e] at a3
    refine ⟨⟨rs, d', m', a1, a2, a3, rfl⟩, ?_⟩
    have : ¬ (mkFl (joinP rs) d' m').path = p := fun h => by
      have := (hpp _).1 h
      rw [pth_mk] at this
      exact e (joinP_inj a1 hne a2 hn this)
    simpa using this
  · rintro ⟨⟨rs, d', m', a1, a2, a3, rfl⟩, h⟩
    refine ⟨rs, d', m', a1, a2, ?_, rfl⟩
    rw [hoth rs (fun e => ?_)]
    · exact a3
    · have : (mkFl (joinP rs) d' m').path = p := (hpp _).2 (by rw [pth_mk, e])
      rw [this] at h
      simp at h
end Go.Proofs.Qxb6500418a
