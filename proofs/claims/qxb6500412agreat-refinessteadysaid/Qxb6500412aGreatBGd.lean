/-
  OWN WORK. THE B-TREE: good trees; under which child a key lies.
-/
import Derived.Test.Qxb6500412aGreatBLd
namespace Go.Proofs.Qxb6500412aGreat
open Go.RowKit Go.PlainAid
set_option linter.unusedSimpArgs false
set_option linter.unusedVariables false

structure Gd (N : Nat → Option ByteArray) (h : Nat) (s : ByteArray) (hi : Option ByteArray) (lo : Nat) (t : Tr (h + 1)) : Prop where
  sz : Sz (h + 1) lo t
  bd : Bd (h + 1) s hi t
  st : Sto N (h + 1) t
  nd : (pgs (h + 1) t).Nodup
  l2 : h = 0 ∨ lo = 2
theorem Gd.fits {view : List ByteArray} {h : Nat} {s : ByteArray} {hi : Option ByteArray} {lo : Nat} {t : Tr (h + 1)} (g : Gd (NV view) h s hi lo t) : Fits h (itT t) := by
  refine Fits.of (N := NV view) NV_lt g.sz.2.1 ?_ g.sz.2.2 g.st.2
  rcases g.l2 with h1 | h1
  · exact .inl h1
  · have := g.sz.1
    exact .inr (by omega)
theorem Gd.inn {N : Nat → Option ByteArray} {h : Nat} {s : ByteArray} {hi : Option ByteArray} {lo : Nat} {t : Tr (h + 2)} (g : Gd N (h + 1) s hi lo t) {xs ys : List (ByteArray × Tr (h + 1))} {s1 : ByteArray} {c : Tr (h + 1)} (e : itT t = xs ++ (s1, c) :: ys) : Inn N h s hi t xs ys s1 c := by
  have hl : lo = 2 := by rcases g.l2 with h1 | h1 <;> omega
  subst hl
  exact ⟨e, g.sz, g.bd, g.st, g.nd⟩
theorem Inn.gd {N : Nat → Option ByteArray} {h : Nat} {s : ByteArray} {hi : Option ByteArray} {t : Tr (h + 2)} {xs ys : List (ByteArray × Tr (h + 1))} {s1 : ByteArray} {c : Tr (h + 1)} (I : Inn N h s hi t xs ys s1 c) : Gd N h s1 (bnd ys hi) 2 c := ⟨I.cz, I.cbd, I.cst, I.nds.2.2.2.1, .inr rfl⟩
theorem pk_get {h : Nat} {l : List (ByteArray × Tr (h + 1))} {i : Nat} {e : ByteArray × Tr (h + 1)} (he : l[i]? = some e) : (pk l)[i]? = some (e.1, pgT e.2) := by
  simp [pk, he]
theorem mid_get {α : Type} {xs ys : List α} {e : α} : (xs ++ e :: ys)[xs.length]? = some e := by simp
theorem kid_at {h : Nat} {x : Node} {xs ys : List (ByteArray × Tr (h + 1))} {s1 : ByteArray} {c : Tr (h + 1)} (r : Rep (h + 1) x (xs ++ (s1, c) :: ys)) : x.C xs.length = pgT c := RepI.c r _ _ (pk_get mid_get)
theorem child_spot {h : Nat} {x : Node} {xs ys : List (ByteArray × Tr (h + 1))} {s s1 k : ByteArray} {hi : Option ByteArray} {c : Tr (h + 1)} (r : Rep (h + 1) x (xs ++ (s1, c) :: ys)) (ch : Child x k xs.length) (hf : Fst (h + 1) s (xs ++ (s1, c) :: ys)) (hk : lt k s = false) (hk2 : ltO k hi) : lt k s1 = false ∧ ltO k (bnd ys hi) := by
  have hn := Rep.n r
  simp at hn
  constructor
  · cases xs with
    | nil =>
      rcases hf (s1, c) (by simp) with h1 | h1
      · have h1 : s1 = s := h1
        rw [h1]; exact hk
      · omega
    | cons a xs' =>
      have h1 := ch.le xs'.length (by simp)
      have h2 := RepI.s r xs'.length _ (pk_get (by simp : ((a :: xs') ++ (s1, c) :: ys)[xs'.length + 1]? = some (s1, c)))
      rw [h2] at h1
      exact h1
  · cases ys with
    | nil => exact hk2
    | cons b ys' =>
      have h1 := ch.stop (by simp at hn; omega)
      have h2 := RepI.s r xs.length _ (pk_get (by rw [get_mid]; rw [if_neg (by omega), if_neg (by omega)]; simp : (xs ++ (s1, c) :: b :: ys')[xs.length + 1]? = some b))
      rw [h2] at h1
      exact h1
theorem getL_at {k : ByteArray} : ∀ {l : List KV} {i : Nat} {e : KV}, (∀ j f, j < i → l[j]? = some f → f.1 ≠ k) → l[i]? = some e → e.1 = k → getL k l = some e.2
  | [], i, e, _, h, _ => by simp at h
  | a :: r, 0, e, h1, h2, h3 => by
    simp at h2
    subst h2
    unfold getL
    rw [List.find?_cons_of_pos (by simpa using h3)]
    rfl
  | a :: r, i + 1, e, h1, h2, h3 => by
    have hr : r[i]? = some e := by simpa using h2
    have ih := getL_at (k := k) (l := r) (i := i) (e := e) (fun j f hj hf => h1 (j + 1) f (by omega) (by simpa using hf)) hr h3
    unfold getL at ih ⊢
    rw [List.find?_cons_of_neg (by simpa using h1 0 a (by omega) (by simp))]
    exact ih
theorem getL_no {k : ByteArray} {l : List KV} (h : ∀ (j : Nat) (f : KV), l[j]? = some f → f.1 ≠ k) : getL k l = none := getL_none (fun e he => by
  obtain ⟨i, hi, rfl⟩ := List.mem_iff_getElem.mp he
  exact h i _ (List.getElem?_eq_getElem hi))
/-- What a lookup answers. -/
def geC (o : Option ByteArray) : Int := if o.isSome then 0 else 9
def getV (o : Option ByteArray) : Value := .tuple #[.string (o.getD bE), .int .i64 (geC o)]
end Go.Proofs.Qxb6500412aGreat
