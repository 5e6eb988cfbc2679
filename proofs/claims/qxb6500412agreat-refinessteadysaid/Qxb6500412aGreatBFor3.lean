/-
  OWN WORK. THE B-TREE: what the forest's operations leave. No program in sight.
-/
import Derived.Test.Qxb6500412aGreatBFor2
namespace Go.Proofs.Qxb6500412aGreat
open Go.RowKit Go.PlainAid
set_option linter.unusedSimpArgs false
set_option linter.unusedVariables false

section
variable {N N1 : Nat → Option ByteArray} {F : Fo}
theorem FI.n1 (I : FI N F) : ∃ b, N 1 = some b := by obtain ⟨d, hd, _⟩ := I.dir; exact ⟨d, hd⟩
theorem FI.putA (I : FI N F) {i : Nat} (hi : i < 8) {r : Root} (hr : F i = some r) {k v : ByteArray} {t' : Tr (r.h + 1)} {fresh : List Nat} (P : PutA N N1 r.h bE none (lo0 r.h) k v r.t t' fresh) {d' : ByteArray} (hd : Dir d' (upd F i (some ⟨r.h, t'⟩))) (ct : (all8 entsR (upd F i (some ⟨r.h, t'⟩))).length ≤ 64) :
    FI (setN N1 1 (some d')) (upd F i (some ⟨r.h, t'⟩)) := by
  have g := I.gd i r hi hr
  have e1 : pgsR (F i) = pgs (r.h + 1) r.t := by rw [hr]; rfl
  have e2 : pgsR (some ⟨r.h, t'⟩) = pgs (r.h + 1) t' := rfl
  have hmem : ∀ n, n ∈ pgs (r.h + 1) t' ↔ n ∈ fresh ∨ n ∈ pgs (r.h + 1) r.t := fun n => by rw [P.pm.mem_iff, List.mem_append]
  have h1 : ∀ n, n ∈ pgs (r.h + 1) t' → n ≠ 1 := fun n hn e => by
    subst e
    rcases (hmem 1).mp hn with h | h
    · obtain ⟨b, hb⟩ := I.n1
      rw [P.fr.new 1 h] at hb; cases hb
    · exact I.one hi hr h
  have hdis : ∀ a ∈ fresh, ∀ b ∈ pgs (r.h + 1) r.t, a ≠ b := fun a ha b hb e => by
    subst e
    obtain ⟨c, hc⟩ := g.st.some a hb
    rw [P.fr.new a ha] at hc; cases hc
  have nd : (pgs (r.h + 1) t').Nodup := P.pm.nodup_iff.mpr (List.nodup_append.mpr ⟨P.fr.nf, g.nd, hdis⟩)
  refine I.turn hi ⟨d', setN_same _ _ _, hd⟩ (fun r' hr' => ?_) (fun n n1 h2 h3 => ?_) (fun n h2 h3 => ?_) (fun n h2 h3 => ?_) nd ct
  · cases hr'
    exact ⟨P.sz, P.bd, P.st.keep (fun n hn => setN_other _ _ (h1 n hn)), nd, lo0_l2 _⟩
  · rw [e1] at h2
    rw [e2] at h3
    rw [setN_other _ _ n1]
    exact P.fr.out n h2 (fun h => h3 ((hmem n).mpr (.inl h)))
  · rw [e1] at h2
    rw [e2] at h3
    exact absurd ((hmem n).mpr (.inr h2)) h3
  · rw [e2] at h2
    rw [e1] at h3
    rcases (hmem n).mp h2 with h | h
    · exact P.fr.new n h
    · exact absurd h h3
theorem FI.putB (I : FI N F) {i : Nat} (hi : i < 8) {r : Root} (hr : F i = some r) {k v up z : ByteArray} {t1 t2 : Tr (r.h + 1)} {fresh : List Nat} (P : PutB N N1 r.h bE none k v r.t t1 t2 up fresh) {pn : Nat} (hpn : N1 pn = none) {d' : ByteArray} (hd : Dir d' (upd F i (some ⟨r.h + 1, mkT pn [(bE, t1), (up, t2)]⟩))) (ct : (all8 entsR (upd F i (some ⟨r.h + 1, mkT pn [(bE, t1), (up, t2)]⟩))).length ≤ 64) :
    FI (setN (setN (setN N1 pn (some z)) pn (some (page (ndOf (r.h + 1) [(bE, t1), (up, t2)])))) 1 (some d')) (upd F i (some ⟨r.h + 1, mkT pn [(bE, t1), (up, t2)]⟩)) := by
  have g := I.gd i r hi hr
  have e1 : pgsR (F i) = pgs (r.h + 1) r.t := by rw [hr]; rfl
  have e2 : pgsR (some ⟨r.h + 1, mkT pn [(bE, t1), (up, t2)]⟩) = pn :: (pgs (r.h + 1) t1 ++ pgs (r.h + 1) t2) := by
    show pgs (r.h + 2) (mkT pn [(bE, t1), (up, t2)]) = _
    rw [pgs_succ]
    simp
  have hmem : ∀ n, n ∈ pgs (r.h + 1) t1 ++ pgs (r.h + 1) t2 ↔ n ∈ fresh ∨ n ∈ pgs (r.h + 1) r.t := fun n => by rw [P.pm.mem_iff, List.mem_append]
  have hin : ∀ n, n ∈ pgs (r.h + 1) t1 ++ pgs (r.h + 1) t2 → ∃ b, N1 n = some b := fun n hn => by
    rcases List.mem_append.mp hn with h | h
    · exact P.s1.some n h
    · exact P.s2.some n h
  have hnp : ∀ n, n ∈ pgs (r.h + 1) t1 ++ pgs (r.h + 1) t2 → n ≠ pn := fun n hn e => by
    obtain ⟨b, hb⟩ := hin n hn
    rw [e, hpn] at hb; cases hb
  have h1 : ∀ n, n ∈ pgs (r.h + 1) t1 ++ pgs (r.h + 1) t2 → n ≠ 1 := fun n hn e => by
    subst e
    rcases (hmem 1).mp hn with h | h
    · obtain ⟨b, hb⟩ := I.n1
      rw [P.fr.new 1 h] at hb; cases hb
    · exact I.one hi hr h
  have h11 : N1 1 = N 1 := P.fr.out 1 (fun h => I.one hi hr h) (fun h => by
    obtain ⟨b, hb⟩ := I.n1
    rw [P.fr.new 1 h] at hb; cases hb)
  have hp1 : pn ≠ 1 := fun e => by
    obtain ⟨b, hb⟩ := I.n1
    rw [← h11, ← e, hpn] at hb; cases hb
  have hpt : pn ∉ pgs (r.h + 1) r.t := fun h => hnp pn ((hmem pn).mpr (.inr h)) rfl
  have hpf : pn ∉ fresh := fun h => hnp pn ((hmem pn).mpr (.inl h)) rfl
  have hpN : N pn = none := by rw [← P.fr.out pn hpt hpf]; exact hpn
  have hdis : ∀ a ∈ fresh, ∀ b ∈ pgs (r.h + 1) r.t, a ≠ b := fun a ha b hb e => by
    subst e
    obtain ⟨c, hc⟩ := g.st.some a hb
    rw [P.fr.new a ha] at hc; cases hc
  have nd0 : (pgs (r.h + 1) t1 ++ pgs (r.h + 1) t2).Nodup := P.pm.nodup_iff.mpr (List.nodup_append.mpr ⟨P.fr.nf, g.nd, hdis⟩)
  have nd : (pn :: (pgs (r.h + 1) t1 ++ pgs (r.h + 1) t2)).Nodup := List.nodup_cons.mpr ⟨fun h => hnp pn h rfl, nd0⟩
  have keep : ∀ n, n ∈ pgs (r.h + 1) t1 ++ pgs (r.h + 1) t2 → setN (setN (setN N1 pn (some z)) pn (some (page (ndOf (r.h + 1) [(bE, t1), (up, t2)])))) 1 (some d') n = N1 n := fun n hn => by
    rw [setN_other _ _ (h1 n hn), setN_other _ _ (hnp n hn), setN_other _ _ (hnp n hn)]
  refine I.turn hi ⟨d', setN_same _ _ _, hd⟩ (fun r' hr' => ?_) (fun n n1 h2 h3 => ?_) (fun n h2 h3 => ?_) (fun n h2 h3 => ?_) (by rw [e2]; exact nd) ct
  · cases hr'
    refine ⟨⟨?_, ?_, fun e he => ?_⟩, ⟨fun e he => ?_, P.b1, P.b2, trivial⟩, ⟨?_, fun e he => ?_⟩, ?_, lo0_l2 _⟩
    · show lo0 (r.h + 1) ≤ 2
      unfold lo0
      rw [if_neg (by omega)]; omega
    · show 2 ≤ 4
      omega
    · simp at he
      rcases he with h | h
      · rw [h]; exact ⟨by show bE.size ≤ 16; decide, P.z1⟩
      · rw [h]; exact ⟨P.up16, P.z2⟩
    · simp at he
      exact .inl (by rw [← he])
    · show setN _ 1 _ pn = _
      rw [setN_other _ _ hp1, setN_same]
      rfl
    · simp at he
      rcases he with h | h
      · rw [h]; exact P.s1.keep (fun n hn => keep n (by simp [hn]))
      · rw [h]; exact P.s2.keep (fun n hn => keep n (by simp [hn]))
    · have := nd
      rw [← e2] at this
      exact this
  · rw [e1] at h2
    rw [e2] at h3
    have np : n ≠ pn := fun e => h3 (by simp [e])
    rw [setN_other _ _ n1, setN_other _ _ np, setN_other _ _ np]
    exact P.fr.out n h2 (fun h => h3 (List.mem_cons_of_mem _ ((hmem n).mpr (.inl h))))
  · rw [e1] at h2
    rw [e2] at h3
    exact absurd (List.mem_cons_of_mem _ ((hmem n).mpr (.inr h2))) h3
  · rw [e2] at h2
    rw [e1] at h3
    rcases List.mem_cons.mp h2 with h | h
    · rw [h]; exact hpN
    · rcases (hmem n).mp h with h | h
      · exact P.fr.new n h
      · exact absurd h h3
theorem FI.delA (I : FI N F) {i : Nat} (hi : i < 8) {r : Root} (hr : F i = some r) {k : ByteArray} {t' : Tr (r.h + 1)} {freed : List Nat} (P : DelA N N1 r.h bE none (lo0 r.h) k r.t t' freed) (h2 : r.h = 0 ∨ 2 ≤ (itT t').length) {d' : ByteArray} (hd : Dir d' (upd F i (some ⟨r.h, t'⟩))) (ct : (all8 entsR (upd F i (some ⟨r.h, t'⟩))).length ≤ 64) :
    FI (setN N1 1 (some d')) (upd F i (some ⟨r.h, t'⟩)) := by
  have g := I.gd i r hi hr
  have e1 : pgsR (F i) = pgs (r.h + 1) r.t := by rw [hr]; rfl
  have e2 : pgsR (some ⟨r.h, t'⟩) = pgs (r.h + 1) t' := rfl
  have hmem : ∀ n, n ∈ pgs (r.h + 1) r.t ↔ n ∈ pgs (r.h + 1) t' ∨ n ∈ freed := fun n => by rw [← P.pm.mem_iff, List.mem_append]
  have h1 : ∀ n, n ∈ pgs (r.h + 1) t' → n ≠ 1 := fun n hn e => by subst e; exact I.one hi hr ((hmem 1).mpr (.inl hn))
  have nd : (pgs (r.h + 1) t').Nodup := (List.nodup_append.mp (P.pm.nodup_iff.mpr g.nd)).1
  refine I.turn hi ⟨d', setN_same _ _ _, hd⟩ (fun r' hr' => ?_) (fun n n1 h2 h3 => ?_) (fun n h2 h3 => ?_) (fun n h2 h3 => ?_) nd ct
  · cases hr'
    refine ⟨?_, P.bd, P.st.keep (fun n hn => setN_other _ _ (h1 n hn)), nd, lo0_l2 _⟩
    refine ⟨?_, P.sz.2⟩
    unfold lo0
    show (if r.h = 0 then 0 else 2) ≤ _
    split
    · omega
    · rcases h2 with h | h
      · contradiction
      · exact h
  · rw [e1] at h2
    rw [setN_other _ _ n1]
    exact P.fr.out n h2
  · rw [e1] at h2
    rw [e2] at h3
    rw [setN_other _ _ (fun e => by subst e; exact I.one hi hr h2)]
    rcases (hmem n).mp h2 with h | h
    · exact absurd h h3
    · exact P.fr.gone n h
  · rw [e2] at h2
    rw [e1] at h3
    exact absurd ((hmem n).mpr (.inl h2)) h3
/-- An inner root with one child gives way to it. -/
theorem FI.delB (I : FI N F) {i : Nat} (hi : i < 8) {g : Nat} {t : Tr (g + 2)} (hr : F i = some ⟨g + 1, t⟩) {k : ByteArray} {t' : Tr (g + 2)} {freed : List Nat} (P : DelA N N1 (g + 1) bE none (lo0 (g + 1)) k t t' freed) {s : ByteArray} {c : Tr (g + 1)} (hc : itT t' = [(s, c)]) {d' : ByteArray} (hd : Dir d' (upd F i (some ⟨g, c⟩))) (ct : (all8 entsR (upd F i (some ⟨g, c⟩))).length ≤ 64) :
    FI (setN (setN N1 (pgT t) none) 1 (some d')) (upd F i (some ⟨g, c⟩)) := by
  have gg := I.gd i _ hi hr
  have e1 : pgsR (F i) = pgs (g + 2) t := by rw [hr]; rfl
  have e2 : pgsR (some ⟨g, c⟩) = pgs (g + 1) c := rfl
  have e3 : pgs (g + 2) t' = pgT t :: pgs (g + 1) c := by rw [pgs_succ, hc, P.pg]; simp
  have hmem : ∀ n, n ∈ pgs (g + 2) t ↔ n = pgT t ∨ n ∈ pgs (g + 1) c ∨ n ∈ freed := fun n => by
    have := P.pm.mem_iff (a := n)
    rw [e3] at this
    rw [← this]
    simp [or_assoc]
  have h1 : ∀ n, n ∈ pgs (g + 1) c → n ≠ 1 := fun n hn e => by subst e; exact I.one hi hr ((hmem 1).mpr (.inr (.inl hn)))
  have nd1 : (pgs (g + 2) t').Nodup := (List.nodup_append.mp (P.pm.nodup_iff.mpr gg.nd)).1
  rw [e3] at nd1
  obtain ⟨hpc, nd⟩ := List.nodup_cons.mp nd1
  have hpn : ∀ n, n ∈ pgs (g + 1) c → n ≠ pgT t := fun n hn e => by subst e; exact hpc hn
  have hz := P.sz.2.2 (s, c) (by rw [hc]; simp)
  have hst := P.st.2 (s, c) (by rw [hc]; simp)
  have hb := P.bd
  have hb1 := hb.1 (s, c) (by rw [hc]; simp)
  have hb2 := hb.2
  rw [hc] at hb2
  have hs : s = bE := by rcases hb1 with h | h; exact h; cases h.1
  refine I.turn hi ⟨d', setN_same _ _ _, hd⟩ (fun r' hr' => ?_) (fun n n1 h2 h3 => ?_) (fun n h2 h3 => ?_) (fun n h2 h3 => ?_) nd ct
  · cases hr'
    refine ⟨Sz.weak hz.2 (by unfold lo0; split <;> omega), ?_, Sto.keep hst (fun n hn => ?_), nd, lo0_l2 _⟩
    · have := hb2.1
      rw [hs] at this
      exact this
    · rw [setN_other _ _ (h1 n hn), setN_other _ _ (hpn n hn)]
  · rw [e1] at h2
    rw [setN_other _ _ n1, setN_other _ _ (fun e => h2 ((hmem n).mpr (.inl e)))]
    exact P.fr.out n h2
  · rw [e1] at h2
    rw [e2] at h3
    rw [setN_other _ _ (fun e => by subst e; exact I.one hi hr h2)]
    rcases (hmem n).mp h2 with h | h | h
    · rw [h]; exact setN_same _ _ _
    · exact absurd h h3
    · unfold setN
      split
      · rfl
      · exact P.fr.gone n h
  · rw [e2] at h2
    rw [e1] at h3
    exact absurd ((hmem n).mpr (.inr (.inl h2))) h3
theorem FI.raze (I : FI N F) {i : Nat} (hi : i < 8) {r : Root} (hr : F i = some r) {d' : ByteArray} (hd : Dir d' (upd F i none)) (ct : (all8 entsR (upd F i none)).length ≤ 64) : FI (setN (offN N (pgs (r.h + 1) r.t)) 1 (some d')) (upd F i none) := by
  have e1 : pgsR (F i) = pgs (r.h + 1) r.t := by rw [hr]; rfl
  refine I.turn hi ⟨d', setN_same _ _ _, hd⟩ (fun r' hr' => by cases hr') (fun n n1 h2 h3 => ?_) (fun n h2 h3 => ?_) (fun n h2 h3 => by simp [pgsR] at h2) (by simp [pgsR]) ct
  · rw [e1] at h2
    rw [setN_other _ _ n1]
    unfold offN
    rw [if_neg h2]
  · rw [e1] at h2
    rw [setN_other _ _ (fun e => by subst e; exact I.one hi hr h2)]
    unfold offN
    rw [if_pos h2]
theorem FI.create (I : FI N F) {i : Nat} (hi : i < 8) (hn : F i = none) {pn : Nat} (hpn : N pn = none) {z d' : ByteArray} (hd : Dir d' (upd F i (some ⟨0, mkT pn []⟩))) (ct : (all8 entsR (upd F i (some ⟨0, mkT pn []⟩))).length ≤ 64) :
    FI (setN (setN (setN N pn (some z)) pn (some (page (ndOf 0 [])))) 1 (some d')) (upd F i (some ⟨0, mkT pn []⟩)) := by
  have e1 : pgsR (F i) = [] := by rw [hn]; rfl
  have e2 : pgsR (some ⟨0, mkT pn []⟩) = [pn] := by
    show pgs 1 (mkT pn []) = _
    rw [pgs_succ]
    rfl
  have hp1 : pn ≠ 1 := fun e => by
    obtain ⟨b, hb⟩ := I.n1
    rw [← e, hpn] at hb; cases hb
  refine I.turn hi ⟨d', setN_same _ _ _, hd⟩ (fun r' hr' => ?_) (fun n n1 h2 h3 => ?_) (fun n h2 h3 => ?_) (fun n h2 h3 => ?_) (by rw [e2]; simp) ct
  · cases hr'
    refine ⟨⟨Nat.zero_le _, Nat.zero_le _, fun e he => by simp at he⟩, ⟨fun e he => by simp at he, trivial⟩, ⟨?_, fun e he => by simp at he⟩, ?_, lo0_l2 _⟩
    · show setN _ 1 _ pn = _
      rw [setN_other _ _ hp1, setN_same]
      rfl
    · have : ([pn] : List Nat).Nodup := by simp
      rw [← e2] at this
      exact this
  · rw [e2] at h3
    have np : n ≠ pn := fun e => h3 (by simp [e])
    rw [setN_other _ _ n1, setN_other _ _ np, setN_other _ _ np]
  · rw [e1] at h2; simp at h2
  · rw [e2] at h2
    simp at h2
    rw [h2]; exact hpn
end
end Go.Proofs.Qxb6500412aGreat
