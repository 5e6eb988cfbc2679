/-
  OWN WORK. THE B-TREE: a put below an inner node. No program in sight.
-/
import Derived.Test.Qxb6500412aGreatBTr2
namespace Go.Proofs.Qxb6500412aGreat
open Go.RowKit Go.PlainAid
set_option linter.unusedSimpArgs false
set_option linter.unusedVariables false

/-- An inner node's page, its children, one of them; a key under that one. -/
structure Inn (N : Nat → Option ByteArray) (h : Nat) (s : ByteArray) (hi : Option ByteArray) (t : Tr (h + 2)) (xs ys : List (ByteArray × Tr (h + 1))) (s1 : ByteArray) (c : Tr (h + 1)) : Prop where
  it : itT t = xs ++ (s1, c) :: ys
  sz : Sz (h + 2) 2 t
  bd : Bd (h + 2) s hi t
  st : Sto N (h + 2) t
  nd : (pgs (h + 2) t).Nodup
section
variable {N N' : Nat → Option ByteArray} {h : Nat} {s : ByteArray} {hi : Option ByteArray} {t : Tr (h + 2)} {xs ys : List (ByteArray × Tr (h + 1))} {s1 : ByteArray} {c : Tr (h + 1)}
theorem Inn.kz (I : Inn N h s hi t xs ys s1 c) : ∀ e ∈ xs ++ (s1, c) :: ys, e.1.size ≤ 16 ∧ Sz (h + 1) 2 e.2 := by rw [← I.it]; exact I.sz.2.2
theorem Inn.cz (I : Inn N h s hi t xs ys s1 c) : Sz (h + 1) 2 c := (I.kz (s1, c) (by simp)).2
theorem Inn.kch (I : Inn N h s hi t xs ys s1 c) : Ch (Bd (h + 1)) (xs ++ (s1, c) :: ys) hi := by rw [← I.it]; exact I.bd.2
theorem Inn.kfs (I : Inn N h s hi t xs ys s1 c) : Fst (h + 1) s (xs ++ (s1, c) :: ys) := by rw [← I.it]; exact I.bd.1
theorem Inn.cbd (I : Inn N h s hi t xs ys s1 c) : Bd (h + 1) s1 (bnd ys hi) c := Ch_kid I.kch
theorem Inn.kst (I : Inn N h s hi t xs ys s1 c) : ∀ e ∈ xs ++ (s1, c) :: ys, Sto N (h + 1) e.2 := by rw [← I.it]; exact I.st.2
theorem Inn.cst (I : Inn N h s hi t xs ys s1 c) : Sto N (h + 1) c := I.kst (s1, c) (by simp)
theorem Inn.pgs (I : Inn N h s hi t xs ys s1 c) : pgs (h + 2) t = pgT t :: (pgsL (h + 1) xs ++ (pgs (h + 1) c ++ pgsL (h + 1) ys)) := by rw [pgs_succ, I.it, pgsL_app, pgsL_cons]
theorem Inn.ens (I : Inn N h s hi t xs ys s1 c) : entsL (h + 1) (itT t) = entsL (h + 1) xs ++ (entsL h (itT c) ++ entsL (h + 1) ys) := by rw [I.it, entsL_app, entsL_cons]; rfl
theorem Inn.nds (I : Inn N h s hi t xs ys s1 c) : pgT t ∉ pgsL (h + 1) xs ∧ pgT t ∉ Go.Proofs.Qxb6500412aGreat.pgs (h + 1) c ∧ pgT t ∉ pgsL (h + 1) ys ∧ (Go.Proofs.Qxb6500412aGreat.pgs (h + 1) c).Nodup ∧ (∀ n ∈ Go.Proofs.Qxb6500412aGreat.pgs (h + 1) c, n ∉ pgsL (h + 1) xs ∧ n ∉ pgsL (h + 1) ys) := by
  have := I.nd
  rw [I.pgs] at this
  obtain ⟨h1, h2⟩ := List.nodup_cons.mp this
  obtain ⟨h3, h4, h5⟩ := List.nodup_append.mp h2
  obtain ⟨h6, h7, h8⟩ := List.nodup_append.mp h4
  simp at h1
  refine ⟨h1.1, h1.2.1, h1.2.2, h6, fun n hn => ⟨fun hx => ?_, fun hy => ?_⟩⟩
  · exact h5 n hx n (by simp [hn]) rfl
  · exact h8 n hn n hy rfl
/-- The other children's pages stand, whatever turns among the child's own and fresh ones. -/
theorem Inn.others (I : Inn N h s hi t xs ys s1 c) {fresh : List Nat} (fr : Fr N N' (Go.Proofs.Qxb6500412aGreat.pgs (h + 1) c) fresh) : (∀ e, e ∈ xs ∨ e ∈ ys → Sto N' (h + 1) e.2) ∧ N' (pgT t) = N (pgT t) := by
  obtain ⟨d1, d2, d3, d4, d5⟩ := I.nds
  have hfr : ∀ n ∈ fresh, ∀ b, N n ≠ some b := fun n hn b hb => by rw [fr.new n hn] at hb; cases hb
  constructor
  · intro e he
    have hs : Sto N (h + 1) e.2 := I.kst e (by rcases he with h1 | h1 <;> simp [h1])
    refine hs.keep (fun n hn => fr.out n (fun h1 => ?_) (fun h1 => ?_))
    · rcases he with h2 | h2
      · exact (d5 n h1).1 (pgs_in h2 hn)
      · exact (d5 n h1).2 (pgs_in h2 hn)
    · obtain ⟨b, hb⟩ := hs.some n hn
      exact hfr n h1 b hb
  · refine fr.out _ d2 (fun h1 => ?_)
    exact hfr _ h1 _ I.st.1
theorem Inn.hasK (I : Inn N h s hi t xs ys s1 c) {k : ByteArray} (h1 : lt k s1 = false) (h2 : ltO k (bnd ys hi)) : HasK k (entsL (h + 1) (itT t)) ↔ HasK k (entsL h (itT c)) := by
  obtain ⟨p1, p2⟩ := Ch_spot (fun e he => (I.kz e he).2) I.kch h1 h2
  rw [I.ens]
  constructor
  · rintro ⟨e, he, hk⟩
    rcases List.mem_append.mp he with he | he
    · have := p1 e he
      rw [hk, lt_irr] at this; cases this
    · rcases List.mem_append.mp he with he | he
      · exact ⟨e, he, hk⟩
      · have := p2 e he
        rw [hk, lt_irr] at this; cases this
  · rintro ⟨e, he, hk⟩
    exact ⟨e, by simp [he], hk⟩
theorem Inn.putL (I : Inn N h s hi t xs ys s1 c) {k v : ByteArray} (h1 : lt k s1 = false) (h2 : ltO k (bnd ys hi)) : Go.Proofs.Qxb6500412aGreat.putL k v (entsL (h + 1) (itT t)) = entsL (h + 1) xs ++ (Go.Proofs.Qxb6500412aGreat.putL k v (entsL h (itT c)) ++ entsL (h + 1) ys) := by
  obtain ⟨p1, p2⟩ := Ch_spot (fun e he => (I.kz e he).2) I.kch h1 h2
  rw [I.ens, putL_left p1, putL_right p2]
theorem Inn.getL (I : Inn N h s hi t xs ys s1 c) {k : ByteArray} (h1 : lt k s1 = false) (h2 : ltO k (bnd ys hi)) : Go.Proofs.Qxb6500412aGreat.getL k (entsL (h + 1) (itT t)) = Go.Proofs.Qxb6500412aGreat.getL k (entsL h (itT c)) := by
  obtain ⟨p1, p2⟩ := Ch_spot (fun e he => (I.kz e he).2) I.kch h1 h2
  rw [I.ens, getL_left (fun e he => lt_ne (p1 e he)), getL_right (fun e he hk => lt_ne (p2 e he) hk.symm)]
theorem Inn.delL (I : Inn N h s hi t xs ys s1 c) {k : ByteArray} (h1 : lt k s1 = false) (h2 : ltO k (bnd ys hi)) : Go.Proofs.Qxb6500412aGreat.delL k (entsL (h + 1) (itT t)) = entsL (h + 1) xs ++ (Go.Proofs.Qxb6500412aGreat.delL k (entsL h (itT c)) ++ entsL (h + 1) ys) := by
  obtain ⟨p1, p2⟩ := Ch_spot (fun e he => (I.kz e he).2) I.kch h1 h2
  rw [I.ens, delL_app, delL_app, delL_ne (fun e he => lt_ne (p1 e he)), delL_ne (l := entsL (h + 1) ys) (fun e he hk => lt_ne (p2 e he) hk.symm)]
/-- The child took it in. -/
theorem Inn.putA (I : Inn N h s hi t xs ys s1 c) {k v : ByteArray} {c' : Tr (h + 1)} {fresh : List Nat} (h1 : lt k s1 = false) (h2 : ltO k (bnd ys hi)) (p : PutA N N' h s1 (bnd ys hi) 2 k v c c' fresh) : PutA N N' (h + 1) s hi 2 k v t (mkT (pgT t) (xs ++ (s1, c') :: ys)) fresh := by
  obtain ⟨o1, o2⟩ := I.others p.fr
  have hl : (xs ++ (s1, c') :: ys).length = (itT t).length := by rw [I.it]; simp
  have hnd : ndOf (h + 1) (xs ++ (s1, c') :: ys) = ndOf (h + 1) (itT t) := by
    rw [I.it]
    show Nd.inn _ _ = Nd.inn _ _
    congr 1
    · simp [p.pg]
    · cases xs with
      | nil => rfl
      | cons x r => simp
  refine ⟨rfl, ?_, ⟨?_, ?_, fun e he => ?_⟩, ⟨?_, Ch_rep I.kch p.bd⟩, ⟨?_, fun e he => ?_⟩, ⟨fun n h3 h4 => ?_, p.fr.new, p.fr.nf⟩, ?_, fun hk => p.old ((I.hasK h1 h2).mp hk)⟩
  · rw [I.putL h1 h2, ← p.en]
    show entsL (h + 1) (xs ++ (s1, c') :: ys) = _
    rw [entsL_app, entsL_cons]; rfl
  · have := I.sz.1
    show 2 ≤ (xs ++ (s1, c') :: ys).length
    omega
  · have := I.sz.2.1
    show (xs ++ (s1, c') :: ys).length ≤ _
    omega
  · have hz := I.kz
    simp at he
    rcases he with h3 | h3 | h3
    · exact hz e (by simp [h3])
    · rw [h3]; exact ⟨(hz (s1, c) (by simp)).1, p.sz⟩
    · exact hz e (by simp [h3])
  · exact Fst_rep I.kfs
  · show N' (pgT t) = some (page (ndOf (h + 1) (xs ++ (s1, c') :: ys)))
    rw [hnd, o2]
    exact I.st.1
  · simp at he
    rcases he with h3 | h3 | h3
    · exact o1 e (.inl h3)
    · rw [h3]; exact p.st
    · exact o1 e (.inr h3)
  · rw [I.pgs] at h3
    exact p.fr.out n (fun h5 => h3 (by simp [h5])) h4
  · rw [I.pgs, pgs_succ]
    show (pgT t :: pgsL (h + 1) (xs ++ (s1, c') :: ys)).Perm _
    rw [pgsL_app, pgsL_cons]
    refine List.perm_iff_count.mpr (fun a => ?_)
    have := List.perm_iff_count.mp p.pm a
    simp only [List.count_append, List.count_cons] at this ⊢
    omega
/-- The child split. -/
theorem Inn.over (I : Inn N h s hi t xs ys s1 c) {k v up : ByteArray} {c1 c2 : Tr (h + 1)} {fresh : List Nat} (h1 : lt k s1 = false) (h2 : ltO k (bnd ys hi)) (p : PutB N N' h s1 (bnd ys hi) k v c c1 c2 up fresh) : Over N N' (h + 1) s hi 2 k v t (xs ++ (s1, c1) :: (up, c2) :: ys) fresh := by
  obtain ⟨o1, o2⟩ := I.others p.fr
  obtain ⟨d1, d2, d3, d4, d5⟩ := I.nds
  have hl : (itT t).length = xs.length + ys.length + 1 := by rw [I.it]; simp; omega
  have hm := I.sz.2.1
  have hlo := I.sz.1
  have hz := I.kz
  refine ⟨?_, ?_, ?_, fun e he => ?_, Fst_rep I.kfs, Ch_rep2 I.kch p.b1 p.b2, fun e he => ?_, ⟨fun n h3 h4 => ?_, p.fr.new, p.fr.nf⟩, ?_, fun hk => absurd ((I.hasK h1 h2).mp hk) p.new, fun hm => ?_⟩
  · rw [I.putL h1 h2, ← p.en, entsL_app, entsL_cons, entsL_cons]
    simp only [List.append_assoc]
    rfl
  · simp; omega
  · simp; omega
  · simp at he
    rcases he with h3 | h3 | h3 | h3
    · exact hz e (by simp [h3])
    · rw [h3]; exact ⟨(hz (s1, c) (by simp)).1, p.z1⟩
    · rw [h3]; exact ⟨p.up16, p.z2⟩
    · exact hz e (by simp [h3])
  · simp at he
    rcases he with h3 | h3 | h3 | h3
    · exact o1 e (.inl h3)
    · rw [h3]; exact p.s1
    · rw [h3]; exact p.s2
    · exact o1 e (.inr h3)
  · refine p.fr.out n (fun h5 => h3 ?_) h4
    rw [I.it, pgsL_app, pgsL_cons]
    simp [h5]
  · rw [I.it]
    simp only [pgsL_app, pgsL_cons]
    refine List.perm_iff_count.mpr (fun a => ?_)
    have := List.perm_iff_count.mp p.pm a
    simp only [List.count_append, List.count_cons] at this ⊢
    omega
  · rcases List.mem_append.mp hm with h3 | h3
    · have := p.fr.new _ h3
      rw [I.st.1] at this
      cases this
    · rw [I.it, pgsL_app, pgsL_cons] at h3
      simp at h3
      rcases h3 with h3 | h3 | h3
      · exact d1 h3
      · exact d2 h3
      · exact d3 h3
theorem Inn.room (I : Inn N h s hi t xs ys s1 c) {us : Nat} (hu : us + (entsL (h + 1) (itT t)).length ≤ 72 + (Go.Proofs.Qxb6500412aGreat.pgs (h + 2) t).length) : us + (entsL h (itT c)).length ≤ 72 + (Go.Proofs.Qxb6500412aGreat.pgs (h + 1) c).length := by
  have hz := I.kz
  have t1 := Sz.thriftL (h := h + 1) (l := xs) (fun e he => (hz e (by simp [he])).2)
  have t2 := Sz.thriftL (h := h + 1) (l := ys) (fun e he => (hz e (by simp [he])).2)
  have hl : (itT t).length = xs.length + ys.length + 1 := by rw [I.it]; simp; omega
  have hlo := I.sz.1
  rw [I.ens, I.pgs] at hu
  simp at hu
  omega
end
/-- A list cut at a place. -/
theorem cut_at {α : Type} {l : List α} {i : Nat} (h : i < l.length) : ∃ xs e ys, l = xs ++ e :: ys ∧ xs.length = i := ⟨l.take i, l[i], l.drop (i + 1), by rw [← List.drop_eq_getElem_cons h, List.take_append_drop], by rw [List.length_take]; omega⟩
end Go.Proofs.Qxb6500412aGreat
