/-
  OWN WORK. THE GRAPH: what Commit asks and costs, plain.
-/
import Derived.Test.Qxb6500417aGreatGP4
namespace Go.Proofs.Qxb6500417aGreat
open Go.RowKit Go.PlainAid
set_option linter.unusedSimpArgs false
set_option linter.unusedVariables false

def En.bare (e : En) : En := ⟨e.path, 0, 0⟩
theorem hasP_bare (a : Str) : (hasP a) ∘ En.bare = hasP a := rfl
theorem strip_bare (n : Nat) : (strip n) ∘ En.bare = En.bare ∘ (strip n) := rfl
theorem ndL_bare {f : List En → Nat} (hf : ∀ l : List En, f (l.map En.bare) = f l) : ∀ (n : Nat) (l : List En), l.length ≤ n → ndL f (tp (l.map En.bare)) = ndL f (tp l)
  | _, [], _ => rfl
  | 0, e :: r, h => absurd h (by simp)
  | n + 1, e :: r, h => by
    rw [List.map_cons]
    cases hc : cutS e.path with
    | none =>
      rw [tp_file r hc, tp_file (e := e.bare) (r.map En.bare) hc]
      unfold ndL
      exact ndL_bare hf n r (by simpa using h)
    | some ab =>
      obtain ⟨a, b⟩ := ab
      rw [tp_dir r hc, tp_dir (e := e.bare) (r.map En.bare) hc]
      unfold ndL
      have e1 : (e.bare :: r.map En.bare) = (e :: r).map En.bare := rfl
      rw [e1, List.takeWhile_map, List.dropWhile_map, hasP_bare, List.map_map, strip_bare, ← List.map_map, hf]
      congr 1
      apply ndL_bare hf n
      have := drop_shorter (r := r) hc
      simp at h
      omega
theorem nd_bare : ∀ (n : Nat) (l : List En), nd n (l.map En.bare) = nd n l
  | 0, l => rfl
  | n + 1, l => by
    unfold nd
    rw [ndL_bare (nd_bare n) l.length l (Nat.le_refl _)]
def barL (l : List Fl) : List En := l.map (fun f => ⟨ls f.path, 0, 0⟩)
/-- What a snapshot may take. -/
def costF (l : List Fl) : Nat := l.length + nd 6 (barL l)
theorem nd_paths {m : List En} {l : List Fl} (h : m.map (fun e => e.path) = l.map (fun f => ls f.path)) : nd 6 m = nd 6 (barL l) := by
  rw [← nd_bare 6 m]
  congr 1
  have : m.map En.bare = (m.map (fun e => e.path)).map (fun p => (⟨p, 0, 0⟩ : En)) := by rw [List.map_map]; rfl
  rw [this, h, List.map_map]
  rfl
theorem storeJ_cost {J : Nat → Sl} (hI : Inv J) {l : List Fl} (hc : checkF l = 0) : StoP J (storeJ J l).1 l (storeJ J l).2.1 (storeJ J l).2.2 (costF l) := by
  obtain ⟨m, h1, h2⟩ := storeJ_ok hI hc
  rw [nd_paths h1] at h2
  exact h2
/-- The commit of that Seq is there. -/
def hasN (A : GA) (s : Int) : Bool := A.nodes.any (fun x => decide ((x.seq : Int) = s))
/-- What Commit answers ahead of its work. -/
def comE (A : GA) (l : List Fl) (ps : List Int) (msg : ByteArray) : Nat :=
  if checkF l ≠ 0 then checkF l else if 2 < ps.length then 18 else if ps.length = 2 ∧ ps.getD 0 0 = ps.getD 1 0 then 18 else if ps.all (hasN A) = false then 17 else if 16 < msg.size then 19 else if 40 ≤ A.nodes.length then 8 else 0
section
variable {J : Nat → Sl} {rt : Nat} {T : Gt}
theorem GI.has (h : GI J rt T) (s : Int) : (fG T s = 0 ∧ hasN (absG J T) s = false) ∨ (IsC T.c (fG T s) ∧ ((T.c (fG T s)).seq : Int) = s ∧ hasN (absG J T) s = true) := by
  by_cases hx : ∃ k, k < T.n ∧ ((T.c (T.o k)).seq : Int) = s
  · obtain ⟨k, hk, he⟩ := hx
    rw [fG_at h.ord hk he]
    refine .inr ⟨h.ord.oin k hk, he, ?_⟩
    unfold hasN
    rw [List.any_eq_true]
    refine ⟨nodeJ J T.c (T.o k), List.mem_map.2 ⟨T.o k, mem_os.2 ⟨k, hk, rfl⟩, rfl⟩, ?_⟩
    exact decide_eq_true he
  · have hn : ∀ k, k < T.n → ((T.c (T.o k)).seq : Int) ≠ s := fun k hk e => hx ⟨k, hk, e⟩
    refine .inl ⟨fG_no hn, ?_⟩
    cases hh : hasN (absG J T) s with
    | false => rfl
    | true =>
      unfold hasN at hh
      rw [List.any_eq_true] at hh
      obtain ⟨x, hx, he⟩ := hh
      obtain ⟨i, hi, rfl⟩ := List.mem_map.1 hx
      obtain ⟨k, hk, rfl⟩ := mem_os.1 hi
      exact absurd (of_decide_eq_true he) (hn k hk)
theorem abs_len (J : Nat → Sl) (T : Gt) : (absG J T).nodes.length = T.n := by simp [absG, os_len]
end
end Go.Proofs.Qxb6500417aGreat
