/-
  OWN WORK. THE B-TREE: what a put makes of a tree. No program in sight.
-/
import Derived.Test.Qxb6500412aGreatBTr
namespace Go.Proofs.Qxb6500412aGreat
open Go.RowKit Go.PlainAid
set_option linter.unusedSimpArgs false
set_option linter.unusedVariables false

/-- Pages turned: those of ps and fresh ones. -/
structure Fr (N N' : Nat → Option ByteArray) (ps fresh : List Nat) : Prop where
  out : ∀ n, n ∉ ps → n ∉ fresh → N' n = N n
  new : ∀ n ∈ fresh, N n = none
  nf : fresh.Nodup
def setN (N : Nat → Option ByteArray) (p : Nat) (b : Option ByteArray) : Nat → Option ByteArray := fun n => if n = p then b else N n
theorem setN_same (N : Nat → Option ByteArray) (p : Nat) (b : Option ByteArray) : setN N p b p = b := by simp [setN]
theorem setN_other (N : Nat → Option ByteArray) {p n : Nat} (b : Option ByteArray) (h : n ≠ p) : setN N p b n = N n := by simp [setN, h]
section
variable {h : Nat} {xs ys : List (ByteArray × Tr h)} {s : ByteArray} {hi : Option ByteArray}
theorem Ch_rep {c c' : Tr h} (hc : Ch (Bd h) (xs ++ (s, c) :: ys) hi) (hb : Bd h s (bnd ys hi) c') : Ch (Bd h) (xs ++ (s, c') :: ys) hi := by
  rw [Ch_app] at hc ⊢
  exact ⟨hc.1, hb, hc.2.2⟩
theorem Ch_kid {c : Tr h} (hc : Ch (Bd h) (xs ++ (s, c) :: ys) hi) : Bd h s (bnd ys hi) c := by
  rw [Ch_app] at hc
  exact hc.2.1
theorem Ch_rep2 {c c1 c2 : Tr h} {up : ByteArray} (hc : Ch (Bd h) (xs ++ (s, c) :: ys) hi) (h1 : Bd h s (some up) c1) (h2 : Bd h up (bnd ys hi) c2) : Ch (Bd h) (xs ++ (s, c1) :: (up, c2) :: ys) hi := by
  rw [Ch_app] at hc ⊢
  exact ⟨hc.1, h1, h2, hc.2.2⟩
theorem Fst_rep {α : Type} {m : Nat} {lo : ByteArray} {xs ys zs : List (ByteArray × α)} {c c' : α} (hf : Fst m lo (xs ++ (s, c) :: ys)) : Fst m lo (xs ++ (s, c') :: zs) := by
  cases xs with
  | nil =>
    intro e he
    simp at he
    subst he
    exact hf (s, c) (by simp)
  | cons x r =>
    intro e he
    simp at he
    subst he
    exact hf x (by simp)
end
/-- There is an entry of this key. -/
def HasK (k : ByteArray) (l : List KV) : Prop := ∃ e ∈ l, e.1 = k
/-- A put that split nothing at the top. -/
structure PutA (N N' : Nat → Option ByteArray) (h : Nat) (s : ByteArray) (hi : Option ByteArray) (lo : Nat) (k v : ByteArray) (t t' : Tr (h + 1)) (fresh : List Nat) : Prop where
  pg : pgT t' = pgT t
  en : entsL h (itT t') = putL k v (entsL h (itT t))
  sz : Sz (h + 1) lo t'
  bd : Bd (h + 1) s hi t'
  st : Sto N' (h + 1) t'
  fr : Fr N N' (pgs (h + 1) t) fresh
  pm : (pgs (h + 1) t').Perm (fresh ++ pgs (h + 1) t)
  old : HasK k (entsL h (itT t)) → fresh = []
/-- A put that split the top. -/
structure PutB (N N' : Nat → Option ByteArray) (h : Nat) (s : ByteArray) (hi : Option ByteArray) (k v : ByteArray) (t t1 t2 : Tr (h + 1)) (up : ByteArray) (fresh : List Nat) : Prop where
  pg : pgT t1 = pgT t
  en : entsL h (itT t1) ++ entsL h (itT t2) = putL k v (entsL h (itT t))
  z1 : Sz (h + 1) 2 t1
  z2 : Sz (h + 1) 2 t2
  b1 : Bd (h + 1) s (some up) t1
  b2 : Bd (h + 1) up hi t2
  s1 : Sto N' (h + 1) t1
  s2 : Sto N' (h + 1) t2
  fr : Fr N N' (pgs (h + 1) t) fresh
  pm : (pgs (h + 1) t1 ++ pgs (h + 1) t2).Perm (fresh ++ pgs (h + 1) t)
  new : ¬ HasK k (entsL h (itT t))
  up16 : up.size ≤ 16
/-- The items are turned, the page itself is not yet. -/
structure Over (N N1 : Nat → Option ByteArray) (h : Nat) (s : ByteArray) (hi : Option ByteArray) (lo : Nat) (k v : ByteArray) (t : Tr (h + 1)) (l : List (ByteArray × Tr h)) (fresh : List Nat) : Prop where
  en : entsL h l = putL k v (entsL h (itT t))
  lw : lo ≤ l.length
  mt : l.length ≤ mx h + 1
  sz : ∀ e ∈ l, e.1.size ≤ 16 ∧ Sz h 2 e.2
  fs : Fst h s l
  ch : Ch (Bd h) l hi
  st : ∀ e ∈ l, Sto N1 h e.2
  fr : Fr N N1 (pgsL h (itT t)) fresh
  pm : (pgsL h l).Perm (fresh ++ pgsL h (itT t))
  old : HasK k (entsL h (itT t)) → fresh = [] ∧ l.length ≤ mx h
  nd : pgT t ∉ fresh ++ pgsL h (itT t)
theorem Over.fit {N N1 : Nat → Option ByteArray} {h : Nat} {s : ByteArray} {hi : Option ByteArray} {lo : Nat} {k v : ByteArray} {t : Tr (h + 1)} {l : List (ByteArray × Tr h)} {fresh : List Nat} (o : Over N N1 h s hi lo k v t l fresh) (hl : l.length ≤ mx h) :
    PutA N (setN N1 (pgT t) (some (page (ndOf h l)))) h s hi lo k v t (mkT (pgT t) l) fresh := by
  refine ⟨rfl, o.en, ⟨o.lw, hl, o.sz⟩, ⟨o.fs, o.ch⟩, ⟨setN_same _ _ _, fun e he => ?_⟩, ⟨fun n h1 h2 => ?_, o.fr.new, o.fr.nf⟩, ?_, fun hk => (o.old hk).1⟩
  · refine (o.st e he).keep (fun n hn => setN_other _ _ (fun e1 => ?_))
    subst e1
    exact o.nd (o.pm.mem_iff.mp (pgs_in he hn))
  · rw [pgs_succ] at h1
    rw [setN_other _ _ (fun e => h1 (by simp [e]))]
    exact o.fr.out n (fun h3 => h1 (by simp [h3])) h2
  · rw [pgs_succ, pgs_succ]
    exact (o.pm.cons _).trans List.perm_middle.symm
theorem Over.split {N N1 : Nat → Option ByteArray} {h : Nat} {s : ByteArray} {hi : Option ByteArray} {lo : Nat} {k v : ByteArray} {t : Tr (h + 1)} {l : List (ByteArray × Tr h)} {fresh : List Nat} (o : Over N N1 h s hi lo k v t l fresh) (hl : l.length = mx h + 1) {pr : Nat} {z up : ByteArray} {e2 : ByteArray × Tr h} (h2 : l[2]? = some e2) (hup : up = e2.1) (hpr : N1 pr = none) (hst : ∃ b, N (pgT t) = some b) (hin : ∀ n ∈ pgsL h (itT t), ∃ b, N n = some b) :
    PutB N (setN (setN (setN N1 pr (some z)) (pgT t) (some (page (ndOf h (l.take 2))))) pr (some (page (ndOf h (l.drop 2))))) h s hi k v t (mkT (pgT t) (l.take 2)) (mkT pr (l.drop 2)) up (pr :: fresh) := by
  have mlo := mx_lo h
  have mhi := mx_hi h
  subst hup
  have hpg : pgT t ∉ pgsL h (itT t) := fun hm => o.nd (by simp [hm])
  have hpf : pgT t ∉ fresh := fun hm => o.nd (by simp [hm])
  have hpl : ∀ n ∈ pgsL h l, n ≠ pgT t := fun n hn e => by subst e; exact o.nd (o.pm.mem_iff.mp hn)
  have hsome : ∀ n ∈ pgsL h l, ∃ b, N1 n = some b := fun n hn => by
    obtain ⟨e, he, hn⟩ := List.mem_flatMap.mp hn
    exact (o.st e he).some n hn
  have hprl : ∀ n ∈ pgsL h l, n ≠ pr := fun n hn e => by
    obtain ⟨b, hb⟩ := hsome n hn
    rw [e, hpr] at hb
    cases hb
  have hprt : pr ≠ pgT t := fun e => by
    have h3 := o.fr.out (pgT t) hpg hpf
    rw [← e, hpr] at h3
    obtain ⟨b, hb⟩ := hst
    rw [← e, ← h3] at hb
    cases hb
  have hprN : N pr = none := by
    by_cases h3 : pr ∈ fresh
    · exact o.fr.new _ h3
    · by_cases h4 : pr ∈ pgsL h (itT t)
      · exact absurd (o.pm.mem_iff.mpr (List.mem_append.mpr (.inr h4))) (fun h5 => hprl _ h5 rfl)
      · rw [← o.fr.out pr h4 h3]; exact hpr
  have hd : l = l.take 2 ++ l.drop 2 := (List.take_append_drop 2 l).symm
  have hdr : l.drop 2 = e2 :: l.drop 3 := by
    obtain ⟨hlt, hge⟩ := List.getElem?_eq_some_iff.mp h2
    rw [← hge]
    exact List.drop_eq_getElem_cons hlt
  have hch := o.ch
  rw [hd, Ch_app] at hch
  have hsp : (pgsL h (l.take 2) ++ pgsL h (l.drop 2)) = pgsL h l := by rw [← pgsL_app, ← hd]
  have keep : ∀ n ∈ pgsL h l, setN (setN (setN N1 pr (some z)) (pgT t) (some (page (ndOf h (l.take 2))))) pr (some (page (ndOf h (l.drop 2)))) n = N1 n := fun n hn => by
    rw [setN_other _ _ (hprl n hn), setN_other _ _ (hpl n hn), setN_other _ _ (hprl n hn)]
  refine ⟨rfl, ?_, ⟨?_, ?_, fun e he => o.sz e (List.mem_of_mem_take he)⟩, ⟨?_, ?_, fun e he => o.sz e (List.mem_of_mem_drop he)⟩, ⟨?_, ?_⟩, ⟨?_, hch.2⟩, ⟨?_, fun e he => ?_⟩, ⟨?_, fun e he => ?_⟩, ⟨fun n h3 h4 => ?_, fun n hn => ?_, List.nodup_cons.mpr ⟨fun hm => hprl _ (o.pm.mem_iff.mpr (by simp [hm])) rfl, o.fr.nf⟩⟩, ?_, fun hk => ?_, ?_⟩
  · show entsL h (l.take 2) ++ entsL h (l.drop 2) = _
    rw [← entsL_app, ← hd]
    exact o.en
  · show 2 ≤ (l.take 2).length
    rw [List.length_take]; omega
  · show (l.take 2).length ≤ mx h
    rw [List.length_take]; omega
  · show 2 ≤ (l.drop 2).length
    rw [List.length_drop]; omega
  · show (l.drop 2).length ≤ mx h
    rw [List.length_drop]; omega
  · intro e he
    refine o.fs e ?_
    rw [hd, List.head?_append]
    simp only [itT_mk] at he
    rw [he]; rfl
  · show Ch (Bd h) (l.take 2) (some e2.1)
    have := hch.1
    rw [hdr] at this
    exact this
  · intro e he
    simp only [itT_mk] at he
    rw [hdr] at he
    simp at he
    exact .inl (by rw [← he])
  · show setN _ _ _ (pgT t) = _
    rw [setN_other _ _ (fun e => hprt e.symm), setN_same]
    rfl
  · exact (o.st e (List.mem_of_mem_take he)).keep (fun n hn => keep n (pgs_in (List.mem_of_mem_take he) hn))
  · show setN _ _ _ pr = _
    rw [setN_same]
    rfl
  · exact (o.st e (List.mem_of_mem_drop he)).keep (fun n hn => keep n (pgs_in (List.mem_of_mem_drop he) hn))
  · rw [pgs_succ] at h3
    have n1 : n ≠ pr := fun e => h4 (by simp [e])
    rw [setN_other _ _ n1, setN_other _ _ (fun e => h3 (by simp [e])), setN_other _ _ n1]
    exact o.fr.out n (fun h5 => h3 (by simp [h5])) (fun h5 => h4 (by simp [h5]))
  · rcases List.mem_cons.mp hn with e | hn
    · rw [e]; exact hprN
    · exact o.fr.new n hn
  · rw [pgs_succ, pgs_succ, pgs_succ]
    show ((pgT t :: pgsL h (l.take 2)) ++ (pr :: pgsL h (l.drop 2))).Perm (pr :: fresh ++ (pgT t :: pgsL h (itT t)))
    refine (List.perm_middle).trans ?_
    show (pr :: (pgT t :: (pgsL h (l.take 2) ++ pgsL h (l.drop 2)))).Perm (pr :: (fresh ++ (pgT t :: pgsL h (itT t))))
    rw [hsp]
    exact ((o.pm.cons _).trans List.perm_middle.symm).cons _
  · have := (o.old hk).2
    omega
  · exact (o.sz e2 (List.mem_of_getElem? h2)).1
/-- There is room for the page that a split takes. -/
theorem Over.room {N N1 : Nat → Option ByteArray} {h : Nat} {s : ByteArray} {hi : Option ByteArray} {lo : Nat} {k v : ByteArray} {t : Tr (h + 1)} {l : List (ByteArray × Tr h)} {fresh : List Nat} (o : Over N N1 h s hi lo k v t l fresh) (hl : l.length = mx h + 1) {us : Nat} (hu : ¬ HasK k (entsL h (itT t)) → us + (entsL h (itT t)).length ≤ 72 + (pgs (h + 1) t).length) : fresh.length + us < 71 := by
  have mlo := mx_lo h
  have hn : ¬ HasK k (entsL h (itT t)) := fun hk => by have := (o.old hk).2; omega
  have h1 := hu hn
  have h2 := Sz.thriftL (fun e he => (o.sz e he).2)
  have h3 : (entsL h l).length = (entsL h (itT t)).length + 1 := by rw [o.en]; exact putL_len_new (fun e he hk => hn ⟨e, he, hk⟩)
  have h4 := o.pm.length_eq
  rw [pgs_succ] at h1
  simp at h1 h4
  omega
/-- A leaf. -/
theorem Over.leaf {N : Nat → Option ByteArray} {s : ByteArray} {hi : Option ByteArray} {lo : Nat} {k v : ByteArray} {t : Tr 1} (hs : Sz 1 lo t) (hb : Bd 1 s hi t) (hk : lt k s = false) (hk2 : ltO k hi) (hk16 : k.size ≤ 16) (hv16 : v.size ≤ 16) : Over N N 0 s hi lo k v t (putL k v (show List KV from itT t)) [] := by
  have he : entsL 0 (itT t) = (show List KV from itT t) := entsL_zero _
  have hsr := Ch_srt (fun e he => (hs.2.2 e he).2) hb.2
  have hin := Bd_ents t s hi hs hb
  rw [ents_succ] at hin
  rw [he] at hsr hin
  generalize hl : (show List KV from itT t) = l at *
  have hlen : l.length ≤ (putL k v l).length ∧ (putL k v l).length ≤ l.length + 1 ∧ (HasK k l → (putL k v l).length = l.length) := by
    by_cases hk : HasK k l
    · have := putL_len_old (v := v) hsr hk
      exact ⟨by omega, by omega, fun _ => this⟩
    · have := putL_len_new (k := k) (v := v) (l := l) (fun e he h => hk ⟨e, he, h⟩)
      exact ⟨by omega, by omega, fun h => absurd h hk⟩
  have hs1 : lo ≤ l.length := by have := hs.1; rw [← hl]; exact this
  have hs2 : l.length ≤ 3 := by have := hs.2.1; rw [← hl]; exact this
  have hsz : ∀ e ∈ l, e.1.size ≤ 16 ∧ e.2.size ≤ 16 := fun e he => by
    have := hs.2.2 e (by rw [← hl] at he; exact he)
    exact this
  have hput := putL_srt (k := k) (v := v) hsr
  have hpin : ∀ e ∈ putL k v l, lt e.1 s = false ∧ ltO e.1 hi := fun e he => by
    rcases putL_mem he with rfl | he
    · exact ⟨hk, hk2⟩
    · exact hin e he
  have hch : ∀ m : List KV, Srt m → (∀ e ∈ m, ltO e.1 hi) → Ch (Bd 0) (show List (ByteArray × Tr 0) from m) hi := by
    intro m
    induction m with
    | nil => intro _ _; trivial
    | cons a r ih =>
      intro h1 h2
      obtain ⟨p1, p2⟩ := List.pairwise_cons.mp h1
      refine ⟨?_, ih p2 (fun e he => h2 e (by simp [he]))⟩
      cases r with
      | nil => exact h2 a (by simp)
      | cons b r' => exact p1 b (by simp)
  refine ⟨?_, ?_, ?_, fun e he => ?_, fun e he => ?_, hch _ hput (fun e he => (hpin e he).2), fun e he => trivial, ⟨fun n _ _ => rfl, fun n hn => by simp at hn, List.nodup_nil⟩, ?_, fun hk => ⟨rfl, ?_⟩, ?_⟩
  · rw [he]; exact entsL_zero _
  · exact Nat.le_trans hs1 hlen.1
  · show (putL k v l).length ≤ 3 + 1
    omega
  · rcases putL_mem he with e1 | he
    · rw [e1]; exact ⟨hk16, hv16⟩
    · exact hsz e he
  · have hm : e ∈ putL k v l := List.mem_of_mem_head? he
    have := (hpin e hm).1
    rcases not_lt this with e1 | e1
    · exact .inl e1
    · exact .inr ⟨rfl, e1⟩
  · exact List.Perm.of_eq ((pgsL_zero _).trans (pgsL_zero _).symm)
  · rw [he] at hk
    have := hlen.2.2 hk
    show (putL k v l).length ≤ 3
    omega
  · rw [pgsL_zero]; simp
end Go.Proofs.Qxb6500412aGreat
