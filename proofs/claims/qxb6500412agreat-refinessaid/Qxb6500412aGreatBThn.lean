/-
  OWN WORK. THE B-TREE: a thin child and its neighbours.
-/
import Derived.Test.Qxb6500412aGreatBRd
import Derived.Test.Qxb6500412aGreatBRaz
namespace Go.Proofs.Qxb6500412aGreat
open Go.RowKit Go.PlainAid
set_option linter.unusedSimpArgs false
set_option linter.unusedVariables false

structure Thin (N : Nat → Option ByteArray) (h : Nat) (hi : Option ByteArray) (xs ys : List (ByteArray × Tr (h + 1))) (s1 : ByteArray) (m : Tr (h + 1)) : Prop where
  sz : ∀ e, e ∈ xs ∨ e ∈ ys → e.1.size ≤ 16 ∧ Sz (h + 1) 2 e.2
  z1 : s1.size ≤ 16
  zm : Sz (h + 1) 1 m
  th : (itT m).length = 1
  ch : Ch (Bd (h + 1)) (xs ++ (s1, m) :: ys) hi
  st : ∀ e ∈ xs ++ (s1, m) :: ys, Sto N (h + 1) e.2
  nd : (pgsL (h + 1) (xs ++ (s1, m) :: ys)).Nodup
  n2 : 2 ≤ (xs ++ (s1, m) :: ys).length
  n4 : (xs ++ (s1, m) :: ys).length ≤ 4
section
variable {N : Nat → Option ByteArray} {h : Nat} {hi : Option ByteArray} {xs ys : List (ByteArray × Tr (h + 1))} {s0 s1 s2 : ByteArray} {m L R : Tr (h + 1)}
theorem Thin.left (T : Thin N h hi (xs ++ [(s0, L)]) ys s1 m) : Pair N h hi xs ys s0 L s1 m := by
  have e : (xs ++ [(s0, L)]) ++ (s1, m) :: ys = xs ++ (s0, L) :: (s1, m) :: ys := by simp
  refine ⟨fun f hf => T.sz f (by rcases hf with h1 | h1 <;> simp [h1]), (T.sz (s0, L) (by simp)).1, (T.sz (s0, L) (by simp)).2.weak (by omega), T.zm, ?_, ?_, ?_⟩
  · rw [← e]; exact T.ch
  · rw [← e]; exact T.st
  · rw [← e]; exact T.nd
theorem Thin.right (T : Thin N h hi xs ((s2, R) :: ys) s1 m) : Pair N h hi xs ys s1 m s2 R :=
  ⟨fun f hf => T.sz f (by rcases hf with h1 | h1 <;> simp [h1]), T.z1, T.zm, (T.sz (s2, R) (by simp)).2.weak (by omega), T.ch, T.st, T.nd⟩
theorem Pair.fR (P : Pair N h hi xs ys s0 L s1 R) : Fst h s1 (itT R) := ((Ch_app _ _ _).mp P.ch).2.2.1.1
theorem Pair.cL (P : Pair N h hi xs ys s0 L s1 R) : Ch (Bd h) (itT L) (some s1) := ((Ch_app _ _ _).mp P.ch).2.1.2
theorem Pair.heads (P : Pair N h hi xs ys s0 L s1 R) : h = 0 ∨ ∀ f ∈ (itT R).head?, f.1 = s1 := by
  cases h with
  | zero => exact .inl rfl
  | succ h =>
    refine .inr (fun f hf => ?_)
    rcases P.fR f hf with h1 | h1
    · exact h1
    · cases h1.1
/-- The last of the left is less than all of the right (leaves). -/
theorem Pair.less (P : Pair N h hi xs ys s0 L s1 R) {La : List (ByteArray × Tr h)} {e : ByteArray × Tr h} (he : itT L = La ++ [e]) (h1 : (itT R).length = 1) : h = 0 → ∀ f ∈ itT R, lt e.1 f.1 = true := by
  intro h0 f hf
  subst h0
  have hc := P.cL
  rw [he, Ch_app] at hc
  have hl : lt e.1 s1 = true := hc.2.1
  have hh : f ∈ (itT R).head? := by
    cases hr : itT R with
    | nil => rw [hr] at hf; simp at hf
    | cons a r =>
      rw [hr] at h1 hf
      have : r = [] := by simpa using h1
      subst this
      simp at hf ⊢
      exact hf.symm
  exact lt_ge hl (P.fR.le hh)
theorem one_head {α : Type} {l : List α} (h1 : l.length = 1) {f : α} (hf : f ∈ l) : f ∈ l.head? := by
  cases l with
  | nil => simp at hf
  | cons a r =>
    have : r = [] := by simpa using h1
    subst this
    simp at hf ⊢
    exact hf.symm
theorem last_split {α : Type} {l : List α} (h : l ≠ []) : ∃ a e, l = a ++ [e] := ⟨l.dropLast, l.getLast h, (List.dropLast_concat_getLast h).symm⟩
end
theorem Pair.fits {view : List ByteArray} {h : Nat} {hi : Option ByteArray} {xs ys : List (ByteArray × Tr (h + 1))} {s0 s1 : ByteArray} {L R : Tr (h + 1)} (P : Pair (NV view) h hi xs ys s0 L s1 R) {l : List (ByteArray × Tr h)} (hl : ∀ f ∈ l, f ∈ itT L ∨ f ∈ itT R) (h1 : 1 ≤ l.length) (hm : l.length ≤ mx h) : Fits h l :=
  Fits.of (N := NV view) NV_lt hm (.inr h1) (fun e he => by rcases hl e he with h | h; exact P.zl.2.2 e h; exact P.zr.2.2 e h) (fun e he => by rcases hl e he with h | h; exact (P.st (s0, L) (by simp)).2 e h; exact (P.st (s1, R) (by simp)).2 e h)
/-- The node behind a separator turned. -/
theorem rep_sep {h : Nat} {x : Node} {xs ys : List (ByteArray × Tr (h + 1))} {s0 s1 up : ByteArray} {L R L' R' : Tr (h + 1)} (r : Rep (h + 1) x (xs ++ (s0, L) :: (s1, R) :: ys)) (hL : pgT L' = pgT L) (hR : pgT R' = pgT R) {c : Nat} (hc : xs.length = c) : Rep (h + 1) { x with K := upF x.K c up } (xs ++ (s0, L') :: (up, R') :: ys) := by
  have r1 : RepI x ((pk xs ++ [(s0, pgT L)]) ++ (s1, pgT R) :: pk ys) := by
    have : RepI x (pk (xs ++ (s0, L) :: (s1, R) :: ys)) := r
    rw [pk_app, pk_cons, pk_cons] at this
    simpa using this
  have r2 := RepI.sep (c := c) (sep := up) r1 (by rw [List.length_append, pk_len]; simp [hc])
  show RepI _ (pk (xs ++ (s0, L') :: (up, R') :: ys))
  rw [pk_app, pk_cons, pk_cons, hL, hR]
  simpa using r2
theorem rep_cut {h : Nat} {x y : Node} {xs ys : List (ByteArray × Tr (h + 1))} {s0 s1 : ByteArray} {L R L' : Tr (h + 1)} (r : Rep (h + 1) x (xs ++ (s0, L) :: (s1, R) :: ys)) {c : Nat} (hc : xs.length = c) (hy : ICut x c y) (hL : pgT L' = pgT L) : Rep (h + 1) y (xs ++ (s0, L') :: ys) := by
  have r1 : RepI x (pk xs ++ (s0, pgT L) :: (s1, pgT R) :: pk ys) := by
    have : RepI x (pk (xs ++ (s0, L) :: (s1, R) :: ys)) := r
    rw [pk_app, pk_cons, pk_cons] at this
    exact this
  have r2 := RepI.cut r1 (by rw [pk_len, hc]; exact hy)
  show RepI y (pk (xs ++ (s0, L') :: ys))
  rw [pk_app, pk_cons, hL]
  exact r2
/-- What mend answers, and what it leaves. -/
def MendPost (q : Gnd) (w : World) (view : List ByteArray) (h : Nat) (hi : Option ByteArray) (l : List (ByteArray × Tr (h + 1))) (e : Ending) (w' : World) : Prop :=
  ∃ (y : Node) (view' : List ByteArray) (l' : List (ByteArray × Tr (h + 1))) (freed : List Nat), e = .returned (.tuple #[ndA y, .int .i64 0]) ∧ Rep (h + 1) y l' ∧ Mend (NV view) (NV view') h hi l l' freed ∧ FA q w' true view' ∧ Only q.S w w'
end Go.Proofs.Qxb6500412aGreat
