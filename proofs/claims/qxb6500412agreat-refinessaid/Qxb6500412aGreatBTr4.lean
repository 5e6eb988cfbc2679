/-
  OWN WORK. THE B-TREE: what a delete makes of a tree. No program in sight.
-/
import Derived.Test.Qxb6500412aGreatBTr3
namespace Go.Proofs.Qxb6500412aGreat
open Go.RowKit Go.PlainAid
set_option linter.unusedSimpArgs false
set_option linter.unusedVariables false

/-- Pages turned: those of ps; some of them are free now. -/
structure FrD (N N' : Nat → Option ByteArray) (ps freed : List Nat) : Prop where
  out : ∀ n, n ∉ ps → N' n = N n
  gone : ∀ n ∈ freed, N' n = none
structure DelA (N N' : Nat → Option ByteArray) (h : Nat) (s : ByteArray) (hi : Option ByteArray) (lo : Nat) (k : ByteArray) (t t' : Tr (h + 1)) (freed : List Nat) : Prop where
  pg : pgT t' = pgT t
  en : entsL h (itT t') = delL k (entsL h (itT t))
  sz : Sz (h + 1) (lo - 1) t'
  bd : Bd (h + 1) s hi t'
  st : Sto N' (h + 1) t'
  fr : FrD N N' (pgs (h + 1) t) freed
  pm : (pgs (h + 1) t' ++ freed).Perm (pgs (h + 1) t)
theorem delL_at {k : ByteArray} : ∀ {l : List KV} {i : Nat} {e : KV}, Srt l → l[i]? = some e → e.1 = k → delL k l = l.eraseIdx i
  | [], i, e, _, h, _ => by simp at h
  | a :: r, 0, e, hs, h, hk => by
    obtain ⟨h1, h2⟩ := List.pairwise_cons.mp hs
    simp at h
    subst h
    have e1 : delL k r = r := delL_ne (fun f hf e1 => lt_ne (h1 f hf) (by rw [hk, e1]))
    show (a :: r).filter _ = r
    rw [List.filter_cons_of_neg (by simpa using hk)]
    exact e1
  | a :: r, i + 1, e, hs, h, hk => by
    obtain ⟨h1, h2⟩ := List.pairwise_cons.mp hs
    have hr : r[i]? = some e := by simpa using h
    have ih := delL_at h2 hr hk
    have hne : a.1 ≠ k := fun e1 => lt_ne (h1 e (List.mem_of_getElem? hr)) (by rw [hk, e1])
    show (a :: r).filter _ = a :: r.eraseIdx i
    rw [List.filter_cons_of_pos (by simpa using hne), ← ih]
    rfl
theorem Ch_leaf {hi : Option ByteArray} : ∀ m : List KV, Srt m → (∀ e ∈ m, ltO e.1 hi) → Ch (Bd 0) (show List (ByteArray × Tr 0) from m) hi := by
  intro m
  induction m with
  | nil => intro _ _; trivial
  | cons a r ih =>
    intro h1 h2
    obtain ⟨p1, p2⟩ := List.pairwise_cons.mp h1
    refine ⟨?_, ih p2 (fun e he => h2 e (by simp [he]))⟩
    cases r with
    | nil => exact h2 a (by simp)
    | cons b r' => exact p1 b (by simp)
theorem DelA.leaf {N : Nat → Option ByteArray} {s : ByteArray} {hi : Option ByteArray} {lo : Nat} {k : ByteArray} {t : Tr 1} {l : List KV} (hl : itT t = (show List (ByteArray × Tr 0) from l)) (hs : Sz 1 lo t) (hb : Bd 1 s hi t) {i : Nat} {e : KV} (hi2 : l[i]? = some e) (hk : e.1 = k) :
    DelA N (setN N (pgT t) (some (page (.lf (l.eraseIdx i))))) 0 s hi lo k t (mkT (h := 0) (pgT t) (show List (ByteArray × Tr 0) from l.eraseIdx i)) [] := by
  have he : entsL 0 (itT t) = l := by rw [hl]; exact entsL_zero _
  have hsr := Ch_srt (fun e he => (hs.2.2 e he).2) hb.2
  have hin := Bd_ents t s hi hs hb
  rw [ents_succ] at hin
  rw [he] at hsr hin
  have hlt : i < l.length := (List.getElem?_eq_some_iff.mp hi2).1
  have hlen : (l.eraseIdx i).length + 1 = l.length := by rw [List.length_eraseIdx, if_pos hlt]; omega
  have hs1 : lo ≤ l.length := by have := hs.1; rw [hl] at this; exact this
  have hs2 : l.length ≤ 3 := by have := hs.2.1; rw [hl] at this; exact this
  have hsub : (l.eraseIdx i).Sublist l := List.eraseIdx_sublist l i
  have hsr2 : Srt (l.eraseIdx i) := hsr.sublist hsub
  have hin2 : ∀ f ∈ l.eraseIdx i, lt f.1 s = false ∧ ltO f.1 hi := fun f hf => hin f (hsub.subset hf)
  refine ⟨rfl, ?_, ⟨?_, ?_, fun f hf => ?_⟩, ⟨fun f hf => ?_, Ch_leaf _ hsr2 (fun f hf => (hin2 f hf).2)⟩, ⟨setN_same _ _ _, fun f hf => trivial⟩, ⟨fun n hn => setN_other _ _ (fun e1 => hn (by rw [e1]; exact pgT_in t)), fun n hn => by simp at hn⟩, ?_⟩
  · rw [he, delL_at hsr hi2 hk]
    exact entsL_zero _
  · show lo - 1 ≤ (l.eraseIdx i).length
    omega
  · show (l.eraseIdx i).length ≤ 3
    omega
  · exact hs.2.2 f (by rw [hl]; exact hsub.subset hf)
  · have hm : f ∈ l.eraseIdx i := List.mem_of_mem_head? hf
    rcases not_lt (hin2 f hm).1 with e1 | e1
    · exact .inl e1
    · exact .inr ⟨rfl, e1⟩
  · rw [pgs_succ, pgs_succ]
    have q1 : pgsL 0 (itT t) = [] := pgsL_zero _
    have q2 : pgsL 0 (itT (mkT (h := 0) (pgT t) (show List (ByteArray × Tr 0) from l.eraseIdx i))) = [] := pgsL_zero _
    rw [q1, q2]
    exact List.Perm.refl _
/-- Two neighbours' items side by side. -/
theorem Ch_join {h : Nat} {a b : List (ByteArray × Tr h)} {s : ByteArray} {hi : Option ByteArray} (ha : Ch (Bd h) a (some s)) (hf : Fst h s b) (hb : Ch (Bd h) b hi) (hne : b ≠ []) : Ch (Bd h) (a ++ b) hi := by
  rw [Ch_app]
  refine ⟨?_, hb⟩
  cases b with
  | nil => exact absurd rfl hne
  | cons e r =>
    rcases hf e (by simp) with h1 | ⟨h1, h2⟩
    · show Ch (Bd h) a (some e.1)
      rw [h1]; exact ha
    · subst h1
      show Ch (Bd 0) a (some e.1)
      clear hb hne hf
      induction a with
      | nil => trivial
      | cons x q ih =>
        refine ⟨?_, ih ha.2⟩
        cases q with
        | nil =>
          have h3 : lt x.1 s = true := ha.1
          exact lt_trans h3 h2
        | cons y q' => exact ha.1
theorem Fst_left {α : Type} {m : Nat} {lo : ByteArray} {a b c d : List (ByteArray × α)} (hf : Fst m lo a) (ha : a ≠ []) (e : a ++ b = c ++ d) (hc : c ≠ []) : Fst m lo c := by
  cases a with
  | nil => exact absurd rfl ha
  | cons x r =>
    cases c with
    | nil => exact absurd rfl hc
    | cons y q =>
      simp at e
      intro z hz
      simp at hz
      rw [← hz, ← e.1]
      exact hf x (by simp)
structure Mend (N N' : Nat → Option ByteArray) (h : Nat) (hi : Option ByteArray) (l l' : List (ByteArray × Tr (h + 1))) (freed : List Nat) : Prop where
  en : entsL (h + 1) l' = entsL (h + 1) l
  sz : ∀ e ∈ l', e.1.size ≤ 16 ∧ Sz (h + 1) 2 e.2
  fs : ∀ (m : Nat) (lo : ByteArray), Fst m lo l → Fst m lo l'
  ch : Ch (Bd (h + 1)) l' hi
  st : ∀ e ∈ l', Sto N' (h + 1) e.2
  fr : FrD N N' (pgsL (h + 1) l) freed
  pm : (pgsL (h + 1) l' ++ freed).Perm (pgsL (h + 1) l)
  len : l'.length ≤ l.length ∧ l.length ≤ l'.length + 1
/-- Two neighbours among the children. -/
structure Pair (N : Nat → Option ByteArray) (h : Nat) (hi : Option ByteArray) (xs ys : List (ByteArray × Tr (h + 1))) (s0 : ByteArray) (L : Tr (h + 1)) (s1 : ByteArray) (R : Tr (h + 1)) : Prop where
  sz : ∀ e, e ∈ xs ∨ e ∈ ys → e.1.size ≤ 16 ∧ Sz (h + 1) 2 e.2
  z0 : s0.size ≤ 16
  zl : Sz (h + 1) 1 L
  zr : Sz (h + 1) 1 R
  ch : Ch (Bd (h + 1)) (xs ++ (s0, L) :: (s1, R) :: ys) hi
  st : ∀ e ∈ xs ++ (s0, L) :: (s1, R) :: ys, Sto N (h + 1) e.2
  nd : (pgsL (h + 1) (xs ++ (s0, L) :: (s1, R) :: ys)).Nodup
section
variable {N : Nat → Option ByteArray} {h : Nat} {hi : Option ByteArray} {xs ys : List (ByteArray × Tr (h + 1))} {s0 s1 : ByteArray} {L R : Tr (h + 1)}
theorem Pair.lne (P : Pair N h hi xs ys s0 L s1 R) : itT L ≠ [] := fun e => by have := P.zl.1; rw [e] at this; simp at this
theorem Pair.rne (P : Pair N h hi xs ys s0 L s1 R) : itT R ≠ [] := fun e => by have := P.zr.1; rw [e] at this; simp at this
theorem Pair.joint (P : Pair N h hi xs ys s0 L s1 R) : Ch (Bd h) (itT L ++ itT R) (bnd ys hi) ∧ Fst h s0 (itT L) ∧ Ch (Bd (h + 1)) xs (some s0) ∧ Ch (Bd (h + 1)) ys hi := by
  obtain ⟨c1, c2, c3, c4⟩ := (Ch_app _ _ _).mp P.ch
  exact ⟨Ch_join c2.2 c3.1 c3.2 P.rne, c2.1, c1, c4⟩
theorem Pair.pgs (P : Pair N h hi xs ys s0 L s1 R) : pgsL (h + 1) (xs ++ (s0, L) :: (s1, R) :: ys) = pgsL (h + 1) xs ++ ((pgT L :: pgsL h (itT L)) ++ ((pgT R :: pgsL h (itT R)) ++ pgsL (h + 1) ys)) := by
  rw [pgsL_app, pgsL_cons, pgsL_cons]; rfl
theorem Pair.nds (P : Pair N h hi xs ys s0 L s1 R) : pgT L ≠ pgT R ∧ (∀ n, n ∈ pgsL (h + 1) xs ∨ n ∈ pgsL (h + 1) ys ∨ n ∈ pgsL h (itT L) ∨ n ∈ pgsL h (itT R) → n ≠ pgT L ∧ n ≠ pgT R) := by
  have hn := P.nd
  rw [P.pgs] at hn
  have hc : ∀ a, (pgsL (h + 1) xs ++ ((pgT L :: pgsL h (itT L)) ++ ((pgT R :: pgsL h (itT R)) ++ pgsL (h + 1) ys))).count a ≤ 1 := fun a => List.nodup_iff_count.mp hn a
  simp only [List.count_append, List.count_cons] at hc
  refine ⟨fun e => ?_, fun n h1 => ⟨fun e => ?_, fun e => ?_⟩⟩
  · have := hc (pgT L)
    rw [← e] at this
    simp at this
    omega
  · have h3 := hc (pgT L)
    subst e
    simp at h3
    rcases h1 with h1 | h1 | h1 | h1 <;> (have := List.count_pos_iff.mpr h1; omega)
  · have h3 := hc (pgT R)
    subst e
    simp at h3
    rcases h1 with h1 | h1 | h1 | h1 <;> (have := List.count_pos_iff.mpr h1; omega)
theorem Fst_two {α : Type} {m : Nat} {lo s : ByteArray} {xs ys zs : List (ByteArray × α)} {c c' : α} (hf : Fst m lo (xs ++ (s, c) :: ys)) : Fst m lo (xs ++ (s, c') :: zs) := Fst_rep hf
theorem Pair.borrow (P : Pair N h hi xs ys s0 L s1 R) {A B : List (ByteArray × Tr h)} {e : ByteArray × Tr h} (hs : itT L ++ itT R = A ++ e :: B) (ha : 2 ≤ A.length ∧ A.length ≤ mx h) (hb : 2 ≤ (e :: B).length ∧ (e :: B).length ≤ mx h) :
    Mend N (setN (setN N (pgT L) (some (page (ndOf h A)))) (pgT R) (some (page (ndOf h (e :: B))))) h hi (xs ++ (s0, L) :: (s1, R) :: ys) (xs ++ (s0, mkT (pgT L) A) :: (e.1, mkT (pgT R) (e :: B)) :: ys) [] := by
  obtain ⟨j1, j2, j3, j4⟩ := P.joint
  obtain ⟨d1, d2⟩ := P.nds
  rw [hs, Ch_app] at j1
  have hane : A ≠ [] := fun e => by subst e; simp at ha
  have hin : ∀ f ∈ A ++ e :: B, (f.1.size ≤ 16 ∧ Sz h 2 f.2) ∧ Sto N h f.2 := fun f hf => by
    rw [← hs] at hf
    rcases List.mem_append.mp hf with hf | hf
    · exact ⟨P.zl.2.2 f hf, (P.st (s0, L) (by simp)).2 f hf⟩
    · exact ⟨P.zr.2.2 f hf, (P.st (s1, R) (by simp)).2 f hf⟩
  have hpg : pgsL h A ++ pgsL h (e :: B) = pgsL h (itT L) ++ pgsL h (itT R) := by rw [← pgsL_app, ← pgsL_app, hs]
  have hkeep : ∀ n, n ∈ pgsL (h + 1) xs ∨ n ∈ pgsL (h + 1) ys ∨ n ∈ pgsL h (itT L) ∨ n ∈ pgsL h (itT R) → setN (setN N (pgT L) (some (page (ndOf h A)))) (pgT R) (some (page (ndOf h (e :: B)))) n = N n := fun n hn => by
    rw [setN_other _ _ (d2 n hn).2, setN_other _ _ (d2 n hn).1]
  have hitem : ∀ f ∈ A ++ e :: B, Sto (setN (setN N (pgT L) (some (page (ndOf h A)))) (pgT R) (some (page (ndOf h (e :: B))))) h f.2 := fun f hf => by
    refine (hin f hf).2.keep (fun n hn => hkeep n ?_)
    have : n ∈ pgsL h (A ++ e :: B) := pgs_in hf hn
    rw [pgsL_app, hpg] at this
    rcases List.mem_append.mp this with h1 | h1
    · exact .inr (.inr (.inl h1))
    · exact .inr (.inr (.inr h1))
  refine ⟨?_, fun f hf => ?_, fun m lo hf => Fst_two hf, ?_, fun f hf => ?_, ⟨fun n hn => ?_, fun n hn => by simp at hn⟩, ?_, by simp⟩
  · rw [entsL_app, entsL_cons, entsL_cons, entsL_app, entsL_cons, entsL_cons]
    have : entsL h A ++ entsL h (e :: B) = entsL h (itT L) ++ entsL h (itT R) := by rw [← entsL_app, ← entsL_app, hs]
    show entsL (h + 1) xs ++ (entsL h A ++ (entsL h (e :: B) ++ entsL (h + 1) ys)) = entsL (h + 1) xs ++ (entsL h (itT L) ++ (entsL h (itT R) ++ entsL (h + 1) ys))
    rw [← List.append_assoc (entsL h A), this, List.append_assoc]
  · simp at hf
    rcases hf with h3 | h3 | h3 | h3
    · exact P.sz f (.inl h3)
    · rw [h3]; exact ⟨P.z0, ha.1, ha.2, fun g hg => (hin g (by simp at hg ⊢; simp [hg])).1⟩
    · rw [h3]; exact ⟨(hin e (by simp)).1.1, hb.1, hb.2, fun g hg => (hin g (by simp at hg ⊢; rcases hg with hg | hg <;> simp [hg])).1⟩
    · exact P.sz f (.inr h3)
  · rw [Ch_app]
    refine ⟨j3, ⟨?_, j1.1⟩, ⟨?_, j1.2⟩, j4⟩
    · exact Fst_left j2 P.lne hs hane
    · intro f hf
      simp at hf
      exact .inl (by rw [← hf])
  · simp at hf
    rcases hf with h3 | h3 | h3 | h3
    · exact (P.st f (by simp [h3])).keep (fun n hn => hkeep n (.inl (pgs_in h3 hn)))
    · rw [h3]
      refine ⟨?_, fun g hg => hitem g (by simp at hg ⊢; simp [hg])⟩
      show setN _ _ _ (pgT L) = _
      rw [setN_other _ _ d1, setN_same]; rfl
    · rw [h3]
      refine ⟨?_, fun g hg => hitem g (by simp at hg ⊢; rcases hg with hg | hg <;> simp [hg])⟩
      show setN _ _ _ (pgT R) = _
      rw [setN_same]; rfl
    · exact (P.st f (by simp [h3])).keep (fun n hn => hkeep n (.inr (.inl (pgs_in h3 hn))))
  · rw [P.pgs] at hn
    rw [setN_other _ _ (fun e => hn (by simp [e])), setN_other _ _ (fun e => hn (by simp [e]))]
  · rw [P.pgs, pgsL_app, pgsL_cons, pgsL_cons, List.append_nil]
    show (pgsL (h + 1) xs ++ ((pgT L :: pgsL h A) ++ ((pgT R :: pgsL h (e :: B)) ++ pgsL (h + 1) ys))).Perm _
    refine List.perm_iff_count.mpr (fun a => ?_)
    have := congrArg (List.count a) hpg
    simp only [List.count_append, List.count_cons] at this ⊢
    omega
theorem Pair.merge (P : Pair N h hi xs ys s0 L s1 R) (hl : 2 ≤ (itT L).length + (itT R).length ∧ (itT L).length + (itT R).length ≤ mx h) :
    Mend N (setN (setN N (pgT L) (some (page (ndOf h (itT L ++ itT R))))) (pgT R) none) h hi (xs ++ (s0, L) :: (s1, R) :: ys) (xs ++ (s0, mkT (pgT L) (itT L ++ itT R)) :: ys) [pgT R] := by
  obtain ⟨j1, j2, j3, j4⟩ := P.joint
  obtain ⟨d1, d2⟩ := P.nds
  have hin : ∀ f ∈ itT L ++ itT R, (f.1.size ≤ 16 ∧ Sz h 2 f.2) ∧ Sto N h f.2 := fun f hf => by
    rcases List.mem_append.mp hf with hf | hf
    · exact ⟨P.zl.2.2 f hf, (P.st (s0, L) (by simp)).2 f hf⟩
    · exact ⟨P.zr.2.2 f hf, (P.st (s1, R) (by simp)).2 f hf⟩
  have hkeep : ∀ n, n ∈ pgsL (h + 1) xs ∨ n ∈ pgsL (h + 1) ys ∨ n ∈ pgsL h (itT L) ∨ n ∈ pgsL h (itT R) → setN (setN N (pgT L) (some (page (ndOf h (itT L ++ itT R))))) (pgT R) none n = N n := fun n hn => by
    rw [setN_other _ _ (d2 n hn).2, setN_other _ _ (d2 n hn).1]
  refine ⟨?_, fun f hf => ?_, fun m lo hf => Fst_two hf, ?_, fun f hf => ?_, ⟨fun n hn => ?_, fun n hn => ?_⟩, ?_, by simp; omega⟩
  · rw [entsL_app, entsL_cons, entsL_app, entsL_cons, entsL_cons]
    show entsL (h + 1) xs ++ (entsL h (itT L ++ itT R) ++ entsL (h + 1) ys) = entsL (h + 1) xs ++ (entsL h (itT L) ++ (entsL h (itT R) ++ entsL (h + 1) ys))
    rw [entsL_app, List.append_assoc]
  · simp at hf
    rcases hf with h3 | h3 | h3
    · exact P.sz f (.inl h3)
    · rw [h3]
      refine ⟨P.z0, ?_, ?_, fun g hg => (hin g hg).1⟩
      · show 2 ≤ (itT L ++ itT R).length
        rw [List.length_append]; exact hl.1
      · show (itT L ++ itT R).length ≤ _
        rw [List.length_append]; exact hl.2
    · exact P.sz f (.inr h3)
  · rw [Ch_app]
    refine ⟨j3, ⟨?_, j1⟩, j4⟩
    exact Fst_left (b := itT R) (d := []) j2 P.lne (List.append_nil _).symm (fun e => P.lne (List.append_eq_nil_iff.mp e).1)
  · simp at hf
    rcases hf with h3 | h3 | h3
    · exact (P.st f (by simp [h3])).keep (fun n hn => hkeep n (.inl (pgs_in h3 hn)))
    · rw [h3]
      refine ⟨?_, fun g hg => (hin g hg).2.keep (fun n hn => hkeep n ?_)⟩
      · show setN _ _ _ (pgT L) = _
        rw [setN_other _ _ d1, setN_same]; rfl
      · have : n ∈ pgsL h (itT L ++ itT R) := pgs_in hg hn
        rw [pgsL_app] at this
        rcases List.mem_append.mp this with h1 | h1
        · exact .inr (.inr (.inl h1))
        · exact .inr (.inr (.inr h1))
    · exact (P.st f (by simp [h3])).keep (fun n hn => hkeep n (.inr (.inl (pgs_in h3 hn))))
  · rw [P.pgs] at hn
    rw [setN_other _ _ (fun e => hn (by simp [e])), setN_other _ _ (fun e => hn (by simp [e]))]
  · simp at hn
    rw [hn]
    exact setN_same _ _ _
  · rw [P.pgs, pgsL_app, pgsL_cons]
    show (pgsL (h + 1) xs ++ ((pgT L :: pgsL h (itT L ++ itT R)) ++ pgsL (h + 1) ys) ++ [pgT R]).Perm _
    rw [pgsL_app]
    refine List.perm_iff_count.mpr (fun a => ?_)
    simp only [List.count_append, List.count_cons, List.count_nil]
    omega
end
/-- The child is turned and may be thin; the page itself is not yet turned. -/
structure Und (N N1 : Nat → Option ByteArray) (h : Nat) (s : ByteArray) (hi : Option ByteArray) (k : ByteArray) (t : Tr (h + 2)) (xs ys : List (ByteArray × Tr (h + 1))) (s1 : ByteArray) (c' : Tr (h + 1)) (freed : List Nat) : Prop where
  en : entsL (h + 1) (xs ++ (s1, c') :: ys) = delL k (entsL (h + 1) (itT t))
  len : (xs ++ (s1, c') :: ys).length = (itT t).length
  sz : ∀ e, e ∈ xs ∨ e ∈ ys → e.1.size ≤ 16 ∧ Sz (h + 1) 2 e.2
  z1 : s1.size ≤ 16
  zc : Sz (h + 1) 1 c'
  fs : Fst (h + 1) s (xs ++ (s1, c') :: ys)
  ch : Ch (Bd (h + 1)) (xs ++ (s1, c') :: ys) hi
  st : ∀ e ∈ xs ++ (s1, c') :: ys, Sto N1 (h + 1) e.2
  at_ : N1 (pgT t) = N (pgT t)
  fr : FrD N N1 (pgsL (h + 1) (itT t)) freed
  pm : (pgsL (h + 1) (xs ++ (s1, c') :: ys) ++ freed).Perm (pgsL (h + 1) (itT t))
  tn : pgT t ∉ pgsL (h + 1) (itT t)
  nd : (pgsL (h + 1) (xs ++ (s1, c') :: ys)).Nodup
  pgs : ndOf (h + 1) (xs ++ (s1, c') :: ys) = ndOf (h + 1) (itT t)
theorem Inn.und {N N' : Nat → Option ByteArray} {h : Nat} {s : ByteArray} {hi : Option ByteArray} {t : Tr (h + 2)} {xs ys : List (ByteArray × Tr (h + 1))} {s1 : ByteArray} {c : Tr (h + 1)} (I : Inn N h s hi t xs ys s1 c) {k : ByteArray} {c' : Tr (h + 1)} {freed : List Nat} (h1 : lt k s1 = false) (h2 : ltO k (bnd ys hi)) (p : DelA N N' h s1 (bnd ys hi) 2 k c c' freed) : Und N N' h s hi k t xs ys s1 c' freed := by
  obtain ⟨d1, d2, d3, d4, d5⟩ := I.nds
  have hz := I.kz
  have hpm : (pgsL (h + 1) (xs ++ (s1, c') :: ys) ++ freed).Perm (pgsL (h + 1) (itT t)) := by
    rw [I.it]
    simp only [pgsL_app, pgsL_cons]
    refine List.perm_iff_count.mpr (fun a => ?_)
    have := List.perm_iff_count.mp p.pm a
    simp only [List.count_append, List.count_cons] at this ⊢
    omega
  have hnd0 : (pgsL (h + 1) (itT t)).Nodup := by
    have := I.nd
    rw [pgs_succ] at this
    exact (List.nodup_cons.mp this).2
  refine ⟨?_, by rw [I.it]; simp, fun e he => hz e (by rcases he with h3 | h3 <;> simp [h3]), (hz (s1, c) (by simp)).1, p.sz, Fst_rep I.kfs, Ch_rep I.kch p.bd, fun e he => ?_, p.fr.out _ d2, ⟨fun n hn => ?_, p.fr.gone⟩, hpm, fun hm => ?_, ?_, ?_⟩
  · rw [I.delL h1 h2, ← p.en, entsL_app, entsL_cons]; rfl
  · simp at he
    rcases he with h3 | h3 | h3
    · exact (I.kst e (by simp [h3])).keep (fun n hn => p.fr.out n (fun h5 => (d5 n h5).1 (pgs_in h3 hn)))
    · rw [h3]; exact p.st
    · exact (I.kst e (by simp [h3])).keep (fun n hn => p.fr.out n (fun h5 => (d5 n h5).2 (pgs_in h3 hn)))
  · refine p.fr.out n (fun h5 => hn ?_)
    rw [I.it, pgsL_app, pgsL_cons]
    simp [h5]
  · rw [I.it, pgsL_app, pgsL_cons] at hm
    simp at hm
    rcases hm with h3 | h3 | h3
    · exact d1 h3
    · exact d2 h3
    · exact d3 h3
  · exact (List.nodup_append.mp (hpm.nodup_iff.mpr hnd0)).1
  · rw [I.it]
    show Nd.inn _ _ = Nd.inn _ _
    congr 1
    · simp [p.pg]
    · cases xs with
      | nil => rfl
      | cons x r => simp
section
variable {N N1 N2 : Nat → Option ByteArray} {h : Nat} {s : ByteArray} {hi : Option ByteArray} {k : ByteArray} {t : Tr (h + 2)} {xs ys : List (ByteArray × Tr (h + 1))} {s1 : ByteArray} {c' : Tr (h + 1)} {freed freed2 : List Nat}
/-- The child is not thin: nothing more is done. -/
theorem Und.done (U : Und N N1 h s hi k t xs ys s1 c' freed) (hz : 2 ≤ (itT c').length) (hm : (itT t).length ≤ mx (h + 1)) (h2 : 2 ≤ (itT t).length) (hst : N (pgT t) = some (page (ndOf (h + 1) (itT t)))) : DelA N N1 (h + 1) s hi 2 k t (mkT (pgT t) (xs ++ (s1, c') :: ys)) freed := by
  have hl := U.len
  refine ⟨rfl, U.en, ⟨?_, ?_, fun e he => ?_⟩, ⟨U.fs, U.ch⟩, ⟨?_, U.st⟩, ⟨fun n hn => ?_, U.fr.gone⟩, ?_⟩
  · show 2 - 1 ≤ (xs ++ (s1, c') :: ys).length
    omega
  · show (xs ++ (s1, c') :: ys).length ≤ _
    omega
  · simp at he
    rcases he with h3 | h3 | h3
    · exact U.sz e (.inl h3)
    · rw [h3]; exact ⟨U.z1, hz, U.zc.2⟩
    · exact U.sz e (.inr h3)
  · show N1 (pgT t) = some (page (ndOf (h + 1) (xs ++ (s1, c') :: ys)))
    rw [U.pgs, U.at_]; exact hst
  · rw [pgs_succ] at hn
    exact U.fr.out n (fun h3 => hn (by simp [h3]))
  · rw [pgs_succ, pgs_succ]
    exact U.pm.cons _
/-- The thin child is mended, the page is laid. -/
theorem Und.mended (U : Und N N1 h s hi k t xs ys s1 c' freed) {l : List (ByteArray × Tr (h + 1))} (M : Mend N1 N2 h hi (xs ++ (s1, c') :: ys) l freed2) (hm : (itT t).length ≤ mx (h + 1)) (h2 : 2 ≤ (itT t).length) : DelA N (setN N2 (pgT t) (some (page (ndOf (h + 1) l)))) (h + 1) s hi 2 k t (mkT (pgT t) l) (freed2 ++ freed) := by
  have hl := U.len
  have hl2 := M.len
  have htl : pgT t ∉ pgsL (h + 1) (xs ++ (s1, c') :: ys) := fun hn => U.tn (U.pm.mem_iff.mp (by simp only [List.mem_append]; exact .inl hn))
  have htl2 : pgT t ∉ pgsL (h + 1) l := fun hn => htl (M.pm.mem_iff.mp (by simp only [List.mem_append]; exact .inl hn))
  have hsub : ∀ n, n ∈ pgsL (h + 1) (xs ++ (s1, c') :: ys) → n ∈ pgsL (h + 1) (itT t) := fun n hn => U.pm.mem_iff.mp (by simp only [List.mem_append]; exact .inl hn)
  have hfd2 : ∀ n ∈ freed2, n ∈ pgsL (h + 1) (xs ++ (s1, c') :: ys) := fun n hn => M.pm.mem_iff.mp (by simp only [List.mem_append]; exact .inr hn)
  have hfd : ∀ n ∈ freed, n ∈ pgsL (h + 1) (itT t) := fun n hn => U.pm.mem_iff.mp (by simp only [List.mem_append]; exact .inr hn)
  refine ⟨rfl, ?_, ⟨?_, ?_, M.sz⟩, ⟨M.fs _ _ U.fs, M.ch⟩, ⟨setN_same _ _ _, fun e he => (M.st e he).keep (fun n hn => setN_other _ _ (fun e1 => ?_))⟩, ⟨fun n hn => ?_, fun n hn => ?_⟩, ?_⟩
  · show entsL (h + 1) l = _
    rw [M.en, U.en]
  · show 2 - 1 ≤ l.length
    omega
  · show l.length ≤ _
    omega
  · subst e1
    exact htl2 (pgs_in he hn)
  · rw [pgs_succ] at hn
    rw [setN_other _ _ (fun e => hn (by simp [e])), M.fr.out n (fun h3 => hn (by simp [hsub n h3]))]
    exact U.fr.out n (fun h3 => hn (by simp [h3]))
  · rcases List.mem_append.mp hn with h3 | h3
    · rw [setN_other _ _ (fun (e : n = pgT t) => htl (by rw [← e]; exact hfd2 n h3))]
      exact M.fr.gone n h3
    · rw [setN_other _ _ (fun (e : n = pgT t) => U.tn (by rw [← e]; exact hfd n h3))]
      by_cases h4 : n ∈ pgsL (h + 1) (xs ++ (s1, c') :: ys)
      · have hs : ∃ b, N1 n = some b := by
          obtain ⟨e, he, hn⟩ := List.mem_flatMap.mp h4
          exact (U.st e he).some n hn
        obtain ⟨b, hb⟩ := hs
        rw [U.fr.gone n h3] at hb
        cases hb
      · rw [M.fr.out n h4]
        exact U.fr.gone n h3
  · rw [pgs_succ, pgs_succ]
    show (pgT t :: (pgsL (h + 1) l ++ (freed2 ++ freed))).Perm _
    rw [← List.append_assoc]
    exact ((M.pm.append_right _).trans U.pm).cons _
end
end Go.Proofs.Qxb6500412aGreat
