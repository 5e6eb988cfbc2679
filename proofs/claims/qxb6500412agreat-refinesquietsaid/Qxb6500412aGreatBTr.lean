/-
  OWN WORK. THE B-TREE: trees of pages by height; their laws. No program in sight.
-/
import Derived.Test.Qxb6500412aGreatBNd
namespace Go.Proofs.Qxb6500412aGreat
open Go.RowKit Go.PlainAid
set_option linter.unusedSimpArgs false
set_option linter.unusedVariables false

/-- What lies at height h: a value (0); a page with its items (a leaf: 1). An item: the least key that may lie there, and what lies there. -/
def Tr : Nat → Type
  | 0 => ByteArray
  | h + 1 => Nat × List (ByteArray × Tr h)
def mkT {h : Nat} (p : Nat) (l : List (ByteArray × Tr h)) : Tr (h + 1) := (p, l)
def pgT {h : Nat} (t : Tr (h + 1)) : Nat := Prod.fst (show Nat × List (ByteArray × Tr h) from t)
def itT {h : Nat} (t : Tr (h + 1)) : List (ByteArray × Tr h) := Prod.snd (show Nat × List (ByteArray × Tr h) from t)
@[simp] theorem pgT_mk {h : Nat} (p : Nat) (l : List (ByteArray × Tr h)) : pgT (mkT p l) = p := rfl
@[simp] theorem itT_mk {h : Nat} (p : Nat) (l : List (ByteArray × Tr h)) : itT (mkT p l) = l := rfl
theorem mk_eta {h : Nat} (t : Tr (h + 1)) : mkT (pgT t) (itT t) = t := rfl
def ents : (h : Nat) → ByteArray → Tr h → List KV
  | 0, s, v => [(s, v)]
  | h + 1, _, t => (itT t).flatMap (fun e => ents h e.1 e.2)
def entsL (h : Nat) (l : List (ByteArray × Tr h)) : List KV := l.flatMap (fun e => ents h e.1 e.2)
theorem ents_succ (h : Nat) (s : ByteArray) (t : Tr (h + 1)) : ents (h + 1) s t = entsL h (itT t) := rfl
@[simp] theorem entsL_nil (h : Nat) : entsL h [] = [] := rfl
@[simp] theorem entsL_cons (h : Nat) (e : ByteArray × Tr h) (l : List (ByteArray × Tr h)) : entsL h (e :: l) = ents h e.1 e.2 ++ entsL h l := by simp [entsL]
@[simp] theorem entsL_app (h : Nat) (a b : List (ByteArray × Tr h)) : entsL h (a ++ b) = entsL h a ++ entsL h b := by simp [entsL]
theorem ents_any (h : Nat) (s s' : ByteArray) (t : Tr (h + 1)) : ents (h + 1) s t = ents (h + 1) s' t := rfl
theorem entsL_zero (l : List (ByteArray × Tr 0)) : entsL 0 l = (show List KV from l) := by
  induction l with
  | nil => rfl
  | cons e r ih => rw [entsL_cons, ih]; rfl
def pgs : (h : Nat) → Tr h → List Nat
  | 0, _ => []
  | h + 1, t => pgT t :: (itT t).flatMap (fun e => pgs h e.2)
def pgsL (h : Nat) (l : List (ByteArray × Tr h)) : List Nat := l.flatMap (fun e => pgs h e.2)
theorem pgs_succ (h : Nat) (t : Tr (h + 1)) : pgs (h + 1) t = pgT t :: pgsL h (itT t) := rfl
@[simp] theorem pgsL_nil (h : Nat) : pgsL h [] = [] := rfl
@[simp] theorem pgsL_cons (h : Nat) (e : ByteArray × Tr h) (l : List (ByteArray × Tr h)) : pgsL h (e :: l) = pgs h e.2 ++ pgsL h l := by simp [pgsL]
@[simp] theorem pgsL_app (h : Nat) (a b : List (ByteArray × Tr h)) : pgsL h (a ++ b) = pgsL h a ++ pgsL h b := by simp [pgsL]
theorem pgs_in {h : Nat} {l : List (ByteArray × Tr h)} {e : ByteArray × Tr h} (he : e ∈ l) {n : Nat} (hn : n ∈ pgs h e.2) : n ∈ pgsL h l := List.mem_flatMap.mpr ⟨e, he, hn⟩
theorem pgsL_zero (l : List (ByteArray × Tr 0)) : pgsL 0 l = [] := by
  induction l with
  | nil => rfl
  | cons e r ih => rw [pgsL_cons, ih]; rfl
theorem pgT_in {h : Nat} (t : Tr (h + 1)) : pgT t ∈ pgs (h + 1) t := by rw [pgs_succ]; simp
/-- The node that a page shows. -/
def ndOf : (h : Nat) → List (ByteArray × Tr h) → Nd
  | 0, l => .lf l
  | _ + 1, l => .inn (l.map (fun e => pgT e.2)) (l.tail.map (fun e => e.1))
/-- The pages N hold the tree. -/
def Sto (N : Nat → Option ByteArray) : (h : Nat) → Tr h → Prop
  | 0, _ => True
  | h + 1, t => N (pgT t) = some (page (ndOf h (itT t))) ∧ ∀ e ∈ itT t, Sto N h e.2
theorem Sto_succ (N : Nat → Option ByteArray) (h : Nat) (t : Tr (h + 1)) : Sto N (h + 1) t ↔ N (pgT t) = some (page (ndOf h (itT t))) ∧ ∀ e ∈ itT t, Sto N h e.2 := Iff.rfl
theorem Sto.keep {N N' : Nat → Option ByteArray} : ∀ {h : Nat} {t : Tr h}, Sto N h t → (∀ n ∈ pgs h t, N' n = N n) → Sto N' h t
  | 0, _, _, _ => trivial
  | h + 1, t, hs, hk => by
    obtain ⟨h1, h2⟩ := hs
    refine ⟨?_, fun e he => ?_⟩
    · rw [hk _ (pgT_in t)]; exact h1
    · refine Sto.keep (h2 e he) (fun n hn => hk n ?_)
      rw [pgs_succ]
      exact List.mem_cons_of_mem _ (pgs_in he hn)
theorem Sto.some {N : Nat → Option ByteArray} : ∀ {h : Nat} {t : Tr h}, Sto N h t → ∀ n ∈ pgs h t, ∃ b, N n = some b
  | 0, _, _, n, hn => by simp [pgs] at hn
  | h + 1, t, hs, n, hn => by
    obtain ⟨h1, h2⟩ := hs
    rw [pgs_succ] at hn
    rcases List.mem_cons.mp hn with e | hn
    · exact ⟨_, e ▸ h1⟩
    · obtain ⟨e, he, hn⟩ := List.mem_flatMap.mp hn
      exact Sto.some (h2 e he) n hn
/-- The counts. -/
def mx : Nat → Nat
  | 0 => 3
  | _ + 1 => 4
theorem mx_lo (h : Nat) : 3 ≤ mx h := by cases h <;> simp [mx]
theorem mx_hi (h : Nat) : mx h ≤ 4 := by cases h <;> simp [mx]
def Sz : (h : Nat) → Nat → Tr h → Prop
  | 0, _, v => ByteArray.size v ≤ 16
  | h + 1, lo, t => lo ≤ (itT t).length ∧ (itT t).length ≤ mx h ∧ ∀ e ∈ itT t, e.1.size ≤ 16 ∧ Sz h 2 e.2
theorem Sz_succ (h lo : Nat) (t : Tr (h + 1)) : Sz (h + 1) lo t ↔ lo ≤ (itT t).length ∧ (itT t).length ≤ mx h ∧ ∀ e ∈ itT t, e.1.size ≤ 16 ∧ Sz h 2 e.2 := Iff.rfl
theorem Sz.weak {h lo lo' : Nat} {t : Tr h} (hs : Sz h lo t) (hl : lo' ≤ lo) : Sz h lo' t := by
  cases h with
  | zero => exact hs
  | succ h => exact ⟨Nat.le_trans hl hs.1, hs.2⟩
theorem Sz.ne {lo : Nat} (hl : 1 ≤ lo) : ∀ {h : Nat} {t : Tr h} (s : ByteArray), Sz h lo t → ents h s t ≠ []
  | 0, _, s, _ => by simp [ents]
  | h + 1, t, s, hs => by
    obtain ⟨h1, h2, h3⟩ := hs
    rw [ents_succ]
    cases hl2 : itT t with
    | nil => rw [hl2] at h1; simp at h1; omega
    | cons e r =>
      rw [entsL_cons]
      have := Sz.ne (by omega) e.1 (h3 e (by rw [hl2]; simp)).2
      intro h0
      exact this (List.append_eq_nil_iff.mp h0).1
/-- Thrift: pages are fewer than entries. -/
theorem Sz.thrift : ∀ {h : Nat} {t : Tr h} (s : ByteArray), Sz h 2 t → (pgs h t).length + 1 ≤ (ents h s t).length
  | 0, _, s, _ => by simp [ents, pgs]
  | h + 1, t, s, hs => by
    obtain ⟨h1, h2, h3⟩ := hs
    have key : ∀ l : List (ByteArray × Tr h), (∀ e ∈ l, Sz h 2 e.2) → (pgsL h l).length + l.length ≤ (entsL h l).length := by
      intro l
      induction l with
      | nil => simp
      | cons e r ih =>
        intro hl
        have i1 := Sz.thrift e.1 (hl e (by simp))
        have i2 := ih (fun x hx => hl x (by simp [hx]))
        simp
        omega
    have := key (itT t) (fun e he => (h3 e he).2)
    rw [ents_succ, pgs_succ]
    simp
    omega
theorem Sz.thriftL {h : Nat} {l : List (ByteArray × Tr h)} (hl : ∀ e ∈ l, Sz h 2 e.2) : (pgsL h l).length + l.length ≤ (entsL h l).length := by
  induction l with
  | nil => simp
  | cons e r ih =>
    have i1 := Sz.thrift e.1 (hl e (by simp))
    have i2 := ih (fun x hx => hl x (by simp [hx]))
    simp
    omega
/-- The bounds. -/
def ltO (a : ByteArray) : Option ByteArray → Prop
  | none => True
  | some b => lt a b = true
theorem le_ltO {a b : ByteArray} {hi : Option ByteArray} (h1 : lt b a = false) (h2 : ltO b hi) : ltO a hi := by
  cases hi with
  | none => trivial
  | some c =>
    rcases not_lt h1 with e | e
    · rw [← e]; exact h2
    · exact lt_trans e h2
def bnd {α : Type} (l : List (ByteArray × α)) (hi : Option ByteArray) : Option ByteArray :=
  match l with
  | [] => hi
  | e :: _ => some e.1
@[simp] theorem bnd_nil {α : Type} (hi : Option ByteArray) : bnd ([] : List (ByteArray × α)) hi = hi := rfl
@[simp] theorem bnd_cons {α : Type} (e : ByteArray × α) (l : List (ByteArray × α)) (hi : Option ByteArray) : bnd (e :: l) hi = some e.1 := rfl
theorem bnd_app {α : Type} (a b : List (ByteArray × α)) (hi : Option ByteArray) : bnd (a ++ b) hi = bnd a (bnd b hi) := by cases a <;> rfl
def Ch {α : Type} (P : ByteArray → Option ByteArray → α → Prop) : List (ByteArray × α) → Option ByteArray → Prop
  | [], _ => True
  | e :: r, hi => P e.1 (bnd r hi) e.2 ∧ Ch P r hi
theorem Ch_app {α : Type} {P : ByteArray → Option ByteArray → α → Prop} (a b : List (ByteArray × α)) (hi : Option ByteArray) : Ch P (a ++ b) hi ↔ Ch P a (bnd b hi) ∧ Ch P b hi := by
  induction a with
  | nil => simp [Ch]
  | cons e r ih =>
    show P e.1 (bnd (r ++ b) hi) e.2 ∧ Ch P (r ++ b) hi ↔ (P e.1 (bnd r (bnd b hi)) e.2 ∧ Ch P r (bnd b hi)) ∧ Ch P b hi
    rw [ih, bnd_app, and_assoc]
def Fst {α : Type} (h : Nat) (lo : ByteArray) (l : List (ByteArray × α)) : Prop := ∀ e ∈ l.head?, e.1 = lo ∨ (h = 0 ∧ lt lo e.1 = true)
theorem Fst.le {α : Type} {h : Nat} {lo : ByteArray} {l : List (ByteArray × α)} (hf : Fst h lo l) {e : ByteArray × α} (he : e ∈ l.head?) : lt e.1 lo = false := by
  rcases hf e he with h1 | h1
  · rw [h1]; exact lt_irr _
  · exact lt_asymm h1.2
def Bd : (h : Nat) → ByteArray → Option ByteArray → Tr h → Prop
  | 0, lo, hi, _ => ltO lo hi
  | h + 1, lo, hi, t => Fst h lo (itT t) ∧ Ch (Bd h) (itT t) hi
theorem Bd_succ (h : Nat) (lo : ByteArray) (hi : Option ByteArray) (t : Tr (h + 1)) : Bd (h + 1) lo hi t ↔ Fst h lo (itT t) ∧ Ch (Bd h) (itT t) hi := Iff.rfl
/-- All entries lie within the bounds. -/
theorem Ch_ents {h : Nat} (IH : ∀ (t : Tr h) (lo : ByteArray) (hi : Option ByteArray), Sz h 2 t → Bd h lo hi t → ∀ e ∈ ents h lo t, lt e.1 lo = false ∧ ltO e.1 hi) :
    ∀ (l : List (ByteArray × Tr h)) (hi : Option ByteArray), (∀ e ∈ l, Sz h 2 e.2) → Ch (Bd h) l hi → ∀ e ∈ entsL h l, (∀ f ∈ l.head?, lt e.1 f.1 = false) ∧ ltO e.1 hi := by
  intro l
  induction l with
  | nil => intro hi _ _ e he; simp at he
  | cons a r ih =>
    intro hi hs hc e he
    obtain ⟨hc1, hc2⟩ := hc
    have i1 := IH a.2 a.1 (bnd r hi) (hs a (by simp)) hc1
    have i2 := ih hi (fun x hx => hs x (by simp [hx])) hc2
    have n1 := Sz.ne (by omega) a.1 (hs a (by simp))
    rw [entsL_cons] at he
    cases r with
    | nil =>
      simp at he
      refine ⟨fun f hf => ?_, (i1 e he).2⟩
      simp at hf
      subst hf
      exact (i1 e he).1
    | cons b r' =>
      have n2 := Sz.ne (by omega) b.1 (hs b (by simp))
      obtain ⟨x, hx⟩ := List.exists_mem_of_ne_nil _ n1
      obtain ⟨y, hy⟩ := List.exists_mem_of_ne_nil _ n2
      have hy' : y ∈ entsL h (b :: r') := by rw [entsL_cons]; exact List.mem_append.mpr (.inl hy)
      have j1 := i1 x hx
      have j2 := i2 y hy'
      rcases List.mem_append.mp he with he | he
      · have j3 := i1 e he
        refine ⟨fun f hf => ?_, ?_⟩
        · simp at hf; subst hf; exact j3.1
        · have k1 : lt e.1 b.1 = true := j3.2
          have k2 := j2.1 b (by simp)
          exact le_ltO (lt_asymm (lt_ge k1 k2)) j2.2
      · have j3 := i2 e he
        refine ⟨fun f hf => ?_, j3.2⟩
        simp at hf
        subst hf
        have k1 : lt x.1 b.1 = true := j1.2
        have k2 := j3.1 b (by simp)
        exact ge_trans (lt_asymm (lt_ge k1 k2)) j1.1
theorem Bd_ents : ∀ {h : Nat} (t : Tr h) (lo : ByteArray) (hi : Option ByteArray) {m : Nat}, Sz h m t → Bd h lo hi t → ∀ e ∈ ents h lo t, lt e.1 lo = false ∧ ltO e.1 hi
  | 0, t, lo, hi, m, hs, hb, e, he => by
    simp [ents] at he
    subst he
    exact ⟨lt_irr _, hb⟩
  | h + 1, t, lo, hi, m, hs, hb, e, he => by
    have := Ch_ents (fun t lo hi hs hb => Bd_ents t lo hi hs hb) (itT t) hi (fun e he => (hs.2.2 e he).2) hb.2 e he
    refine ⟨?_, this.2⟩
    cases hl : itT t with
    | nil => rw [ents_succ, hl] at he; simp at he
    | cons a r =>
      have h1 := this.1 a (by rw [hl]; simp)
      have h2 := hb.1.le (show a ∈ (itT t).head? by rw [hl]; simp)
      exact ge_trans h1 h2
theorem Ch_in {h : Nat} {l : List (ByteArray × Tr h)} {hi : Option ByteArray} (hs : ∀ e ∈ l, Sz h 2 e.2) (hc : Ch (Bd h) l hi) : ∀ e ∈ entsL h l, (∀ f ∈ l.head?, lt e.1 f.1 = false) ∧ ltO e.1 hi :=
  Ch_ents (fun t lo hi hs hb => Bd_ents t lo hi hs hb) l hi hs hc
/-- The entries rise. -/
def Srt (l : List KV) : Prop := l.Pairwise (fun a b => lt a.1 b.1 = true)
theorem Bd_srt : ∀ {h : Nat} (t : Tr h) (lo : ByteArray) (hi : Option ByteArray) {m : Nat}, Sz h m t → Bd h lo hi t → Srt (ents h lo t)
  | 0, t, lo, hi, m, hs, hb => by simp [ents, Srt]
  | h + 1, t, lo, hi, m, hs, hb => by
    have key : ∀ (l : List (ByteArray × Tr h)), (∀ e ∈ l, Sz h 2 e.2) → Ch (Bd h) l hi → Srt (entsL h l) := by
      intro l
      induction l with
      | nil => intro _ _; simp [Srt]
      | cons a r ih =>
        intro hs hc
        obtain ⟨hc1, hc2⟩ := hc
        rw [entsL_cons]
        refine List.pairwise_append.mpr ⟨Bd_srt a.2 a.1 _ (hs a (by simp)) hc1, ih (fun x hx => hs x (by simp [hx])) hc2, fun x hx y hy => ?_⟩
        have j1 := Bd_ents a.2 a.1 _ (hs a (by simp)) hc1 x hx
        have j2 := Ch_in (fun x hx => hs x (by simp [hx])) hc2 y hy
        cases r with
        | nil => simp at hy
        | cons b r' => exact lt_ge j1.2 (j2.1 b (by simp))
    exact key _ (fun e he => (hs.2.2 e he).2) hb.2
theorem Ch_srt {h : Nat} {l : List (ByteArray × Tr h)} {hi : Option ByteArray} (hs : ∀ e ∈ l, Sz h 2 e.2) (hc : Ch (Bd h) l hi) : Srt (entsL h l) := by
  induction l with
  | nil => simp [Srt]
  | cons a r ih =>
    obtain ⟨hc1, hc2⟩ := hc
    rw [entsL_cons]
    refine List.pairwise_append.mpr ⟨Bd_srt a.2 a.1 _ (hs a (by simp)) hc1, ih (fun x hx => hs x (by simp [hx])) hc2, fun x hx y hy => ?_⟩
    have j1 := Bd_ents a.2 a.1 _ (hs a (by simp)) hc1 x hx
    have j2 := Ch_in (fun x hx => hs x (by simp [hx])) hc2 y hy
    cases r with
    | nil => simp at hy
    | cons b r' => exact lt_ge j1.2 (j2.1 b (by simp))
/-- Where a key lies: all that is left of it is less, all that is right of it is more. -/
theorem Ch_spot {h : Nat} {xs ys : List (ByteArray × Tr h)} {e : ByteArray × Tr h} {hi : Option ByteArray} {k : ByteArray} (hs : ∀ x ∈ xs ++ e :: ys, Sz h 2 x.2) (hc : Ch (Bd h) (xs ++ e :: ys) hi) (h1 : lt k e.1 = false) (h2 : ltO k (bnd ys hi)) :
    (∀ x ∈ entsL h xs, lt x.1 k = true) ∧ (∀ x ∈ entsL h ys, lt k x.1 = true) := by
  obtain ⟨c1, c2⟩ := (Ch_app _ _ _).mp hc
  refine ⟨fun x hx => ?_, fun x hx => ?_⟩
  · have := (Ch_in (fun x hx => hs x (by simp [hx])) c1 x hx).2
    exact lt_ge this h1
  · have := (Ch_in (fun x hx => hs x (by simp [hx])) c2.2 x hx).1
    cases ys with
    | nil => simp at hx
    | cons b r => exact lt_ge h2 (this b (by simp))
/-- Put, taken away, looked up, sought: on a rising list. -/
def putL (k v : ByteArray) : List KV → List KV
  | [] => [(k, v)]
  | e :: r => if lt e.1 k = true then e :: putL k v r else if e.1 = k then (k, v) :: r else (k, v) :: e :: r
theorem putL_left {k v : ByteArray} {a m : List KV} (ha : ∀ e ∈ a, lt e.1 k = true) : putL k v (a ++ m) = a ++ putL k v m := by
  induction a with
  | nil => rfl
  | cons e r ih =>
    show putL k v (e :: (r ++ m)) = e :: (r ++ putL k v m)
    rw [putL, if_pos (ha e (by simp)), ih (fun x hx => ha x (by simp [hx]))]
theorem putL_more {k v : ByteArray} {z : List KV} (hz : ∀ e ∈ z, lt k e.1 = true) : putL k v z = (k, v) :: z := by
  cases z with
  | nil => rfl
  | cons e r =>
    have := hz e (by simp)
    rw [putL, if_neg (by rw [lt_asymm this]; simp), if_neg (fun h => lt_ne this h.symm)]
theorem putL_right {k v : ByteArray} {m z : List KV} (hz : ∀ e ∈ z, lt k e.1 = true) : putL k v (m ++ z) = putL k v m ++ z := by
  induction m with
  | nil => rw [List.nil_append, putL_more hz]; rfl
  | cons e r ih =>
    show putL k v (e :: (r ++ z)) = putL k v (e :: r) ++ z
    rw [putL, putL]
    split
    · rw [ih]; rfl
    · split <;> rfl
def delL (k : ByteArray) (l : List KV) : List KV := l.filter (fun e => decide (e.1 ≠ k))
theorem delL_app (k : ByteArray) (a b : List KV) : delL k (a ++ b) = delL k a ++ delL k b := by simp [delL]
theorem delL_ne {k : ByteArray} {l : List KV} (h : ∀ e ∈ l, e.1 ≠ k) : delL k l = l := by
  unfold delL
  exact List.filter_eq_self.mpr (fun e he => by simpa using h e he)
def getL (k : ByteArray) (l : List KV) : Option ByteArray := (l.find? (fun e => decide (e.1 = k))).map (fun e => e.2)
theorem getL_none {k : ByteArray} {l : List KV} (h : ∀ e ∈ l, e.1 ≠ k) : getL k l = none := by
  unfold getL
  rw [List.find?_eq_none.mpr (fun e he => by simpa using h e he)]
  rfl
theorem getL_left {k : ByteArray} {a b : List KV} (h : ∀ e ∈ a, e.1 ≠ k) : getL k (a ++ b) = getL k b := by
  unfold getL
  rw [List.find?_append, List.find?_eq_none.mpr (fun e he => by simpa using h e he)]
  rfl
theorem getL_right {k : ByteArray} {a b : List KV} (h : ∀ e ∈ b, e.1 ≠ k) : getL k (a ++ b) = getL k a := by
  unfold getL
  rw [List.find?_append, List.find?_eq_none.mpr (fun e (he : e ∈ b) => by simpa using h e he)]
  simp
theorem getL_some {k v : ByteArray} {l : List KV} (h : getL k l = some v) : (k, v) ∈ l := by
  unfold getL at h
  cases hf : l.find? (fun e => decide (e.1 = k)) with
  | none => rw [hf] at h; cases h
  | some e =>
    rw [hf] at h
    have h1 := List.find?_some hf
    have h2 := List.mem_of_find?_eq_some hf
    simp at h1 h
    subst h1; subst h
    exact h2
theorem getL_isSome {k : ByteArray} {l : List KV} : (getL k l).isSome = true ↔ ∃ e ∈ l, e.1 = k := by
  unfold getL
  rw [Option.isSome_map, List.find?_isSome]
  simp
def hit (k : ByteArray) (past : Bool) (e : KV) : Bool := lt k e.1 || (!past && decide (e.1 = k))
def seekL (k : ByteArray) (past : Bool) (l : List KV) : Option KV := l.find? (hit k past)
theorem seekL_app (k : ByteArray) (past : Bool) (a b : List KV) : seekL k past (a ++ b) = (seekL k past a).or (seekL k past b) := by unfold seekL; rw [List.find?_append]
theorem seekL_less {k : ByteArray} {past : Bool} {l : List KV} (h : ∀ e ∈ l, lt e.1 k = true) : seekL k past l = none := by
  unfold seekL
  refine List.find?_eq_none.mpr (fun e he => ?_)
  have := h e he
  unfold hit
  rw [lt_asymm this]
  simp [lt_ne this]
theorem Srt.app_iff {a b : List KV} : Srt (a ++ b) ↔ Srt a ∧ Srt b ∧ ∀ x ∈ a, ∀ y ∈ b, lt x.1 y.1 = true := List.pairwise_append
theorem putL_mem {k v : ByteArray} {l : List KV} {e : KV} (h : e ∈ putL k v l) : e = (k, v) ∨ e ∈ l := by
  induction l with
  | nil => simp [putL] at h; exact .inl h
  | cons a r ih =>
    rw [putL] at h
    split at h
    · rcases List.mem_cons.mp h with h | h
      · exact .inr (by simp [h])
      · rcases ih h with h | h
        · exact .inl h
        · exact .inr (by simp [h])
    · split at h
      · rcases List.mem_cons.mp h with h | h
        · exact .inl h
        · exact .inr (by simp [h])
      · rcases List.mem_cons.mp h with h | h
        · exact .inl h
        · exact .inr h
theorem putL_srt {k v : ByteArray} {l : List KV} (h : Srt l) : Srt (putL k v l) := by
  induction l with
  | nil => simp [putL, Srt]
  | cons a r ih =>
    obtain ⟨h1, h2⟩ := List.pairwise_cons.mp h
    rw [putL]
    split
    · rename_i hl
      refine List.pairwise_cons.mpr ⟨fun e he => ?_, ih h2⟩
      rcases putL_mem he with rfl | he
      · exact hl
      · exact h1 e he
    · rename_i hl
      split
      · rename_i hk
        exact List.pairwise_cons.mpr ⟨fun e he => by subst hk; exact h1 e he, h2⟩
      · rename_i hk
        have hka : lt k a.1 = true := by
          rcases lt_total k a.1 with e | e | e
          · exact e
          · exact absurd e.symm hk
          · exact absurd e hl
        refine List.pairwise_cons.mpr ⟨fun e he => ?_, h⟩
        rcases List.mem_cons.mp he with rfl | he
        · exact hka
        · exact lt_trans hka (h1 e he)
theorem putL_len_new {k v : ByteArray} {l : List KV} (h : ∀ e ∈ l, e.1 ≠ k) : (putL k v l).length = l.length + 1 := by
  induction l with
  | nil => rfl
  | cons a r ih =>
    rw [putL]
    split
    · simp [ih (fun e he => h e (by simp [he]))]
    · rw [if_neg (h a (by simp))]; simp
theorem putL_len_old {k v : ByteArray} {l : List KV} (hs : Srt l) (h : ∃ e ∈ l, e.1 = k) : (putL k v l).length = l.length := by
  induction l with
  | nil => obtain ⟨e, he, _⟩ := h; simp at he
  | cons a r ih =>
    obtain ⟨h1, h2⟩ := List.pairwise_cons.mp hs
    rw [putL]
    split
    · rename_i hl
      obtain ⟨e, he, rfl⟩ := h
      rcases List.mem_cons.mp he with rfl | he
      · rw [lt_irr] at hl; cases hl
      · simp [ih h2 ⟨e, he, rfl⟩]
    · rename_i hl
      split
      · simp
      · rename_i hk
        obtain ⟨e, he, rfl⟩ := h
        rcases List.mem_cons.mp he with rfl | he
        · exact absurd rfl hk
        · exact absurd (h1 e he) hl
end Go.Proofs.Qxb6500412aGreat
