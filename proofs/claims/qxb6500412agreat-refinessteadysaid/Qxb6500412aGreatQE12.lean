/-
  OWN WORK. QUERY's MODEL: what a sentence that was read holds, by its kind (plain); run, whole.
-/
import Derived.Test.Qxb6500412aGreatQE9
import Derived.Test.Qxb6500412aGreatQE10
import Derived.Test.Qxb6500412aGreatQE11
namespace Go.Proofs.Qxb6500412aGreat
open Go.RowKit Go.PlainAid
set_option linter.unusedSimpArgs false
set_option linter.unusedVariables false

theorem opS_sg {s : ByteArray} (h : opS s ≠ 0) : okSg (opS s) := by
  unfold opS at h ⊢
  split
  · exact .inl rfl
  · split
    · exact .inr (.inl rfl)
    · split
      · exact .inr (.inr (.inl rfl))
      · split
        · exact .inr (.inr (.inr (.inl rfl)))
        · split
          · exact .inr (.inr (.inr (.inr (.inl rfl))))
          · split
            · exact .inr (.inr (.inr (.inr (.inr rfl))))
            · next a b c d e f => rw [if_neg a, if_neg b, if_neg c, if_neg d, if_neg e, if_neg f] at h; exact absurd rfl h
theorem opV_sg {P : Ps} (h : opV P ≠ 0) : okSg (opV P) := by
  unfold opV at h ⊢
  split
  · next h' => rw [h'] at h; exact opS_sg h
  · next h' =>
    exfalso
    revert h
    split
    · next s l e => exact absurd e (h' s l)
    · exact fun c => c rfl
theorem cmp_sg {P : Ps} (h : (cmpP P).1.2 = true) : okSg (cmpP P).2.op := by
  have h1 : (if opV (nameP P) = 0 then failP else nextP (nameP P)).2 = true := lit_good h
  refine opV_sg (fun c => ?_)
  rw [if_pos c] at h1
  cases h1
theorem loop_sg : ∀ f (P : Ps) (l : List Cm), (∀ c ∈ l, okSg c.op) → (loopP cmpP wAND f P l).1.2 = true → ∀ c ∈ (loopP cmpP wAND f P l).2, okSg c.op
  | 0, P, l, hl, h => hl
  | f + 1, P, l, hl, h => by
    unfold loopP at h ⊢
    split at h
    · next c =>
      rw [if_pos c]
      have h1 : (cmpP P).1.2 = true := next_good (loop_good cmp_good _ _ _ h)
      refine loop_sg f _ _ (fun x hx => ?_) h
      rcases List.mem_append.mp hx with d | d
      · exact hl x d
      · rw [List.mem_singleton.mp d]; exact cmp_sg h1
    · next c =>
      rw [if_neg c]
      intro x hx
      rcases List.mem_append.mp hx with d | d
      · exact hl x d
      · rw [List.mem_singleton.mp d]; exact cmp_sg h
/-- What a sentence holds, by its kind. -/
structure StK (st : St) : Prop where
  a7 : st.kind = 9 ∨ st.sets = []
  a9 : st.kind = 9 → st.list = [] ∧ st.lits = []
  star : st.star = true → st.list = []
  sg : ∀ c ∈ st.wh, okSg c.op
theorem StK.wh_ {P : Ps} {st : St} (h : StK st) (h0 : st.wh = []) (hg : (whereP P st).1.2 = true) : StK (whereP P st).2 := by
  unfold whereP at hg ⊢
  split at hg
  · next c =>
    rw [if_pos c]
    refine ⟨h.a7, h.a9, h.star, ?_⟩
    exact loop_sg _ _ _ (by rw [h0]; intro c hc; cases hc) hg
  · next c => rw [if_neg c]; exact h
theorem StK.sel {P : Ps} (h : (selP P St.z).1.2 = true) : StK (selP P St.z).2 := by
  have h1 : (selO P St.z).1.2 = true := by
    unfold selP limP at h
    split at h
    · simp only at h
      split at h
      · exact h
      · cases h
    · exact h
  have h2 : (selW P St.z).1.2 = true := by
    unfold selO ordP at h1
    split at h1
    · exact next_good (want_good (name_good (eat_good h1)))
    · exact h1
  have k2 : StK (selW P St.z).2 := by
    unfold selW at h2 ⊢
    refine StK.wh_ ⟨.inr rfl, fun c => absurd c (by show ¬ (8 : Int) = 9; decide), fun c => ?_, fun c hc => (by cases hc)⟩ rfl h2
    show (selN P St.z).2 = []
    unfold selN
    rw [if_pos c]
    rfl
  have k1 : StK (selO P St.z).2 := by
    unfold selO ordP
    split
    · exact ⟨k2.a7, k2.a9, k2.star, k2.sg⟩
    · exact k2
  unfold selP limP
  split
  · exact ⟨k1.a7, k1.a9, k1.star, k1.sg⟩
  · exact k1
theorem parQ_k {t : ByteArray} (h : parB t = true) : StK (parQ t).2 := by
  unfold parB at h
  simp only [Bool.and_eq_true] at h
  have hb := h.2
  revert hb
  unfold parQ senP
  intro hb
  have n9 : ∀ k : Int, k ≠ 9 → ∀ st : St, st.kind = k → (st.kind = 9 → st.list = [] ∧ st.lits = []) := fun k hk st e c => absurd (e.symm.trans c) hk
  split at hb
  · next c => rw [if_pos c]; exact StK.sel hb
  · next c =>
    rw [if_neg c]
    split at hb
    · next c => rw [if_pos c]; exact ⟨.inr rfl, n9 7 (by decide) _ rfl, fun _ => rfl, fun c hc => (by cases hc)⟩
    · next c =>
      rw [if_neg c]
      split at hb
      · next c =>
        rw [if_pos c]
        unfold updP at hb ⊢
        exact StK.wh_ ⟨.inl rfl, fun _ => ⟨rfl, rfl⟩, fun _ => rfl, fun c hc => (by cases hc)⟩ rfl hb
      · next c =>
        rw [if_neg c]
        split at hb
        · next c =>
          rw [if_pos c]
          unfold delP at hb ⊢
          exact StK.wh_ ⟨.inr rfl, n9 10 (by decide) _ rfl, fun _ => rfl, fun c hc => (by cases hc)⟩ rfl hb
        · next c =>
          rw [if_neg c]
          split at hb
          · next c => rw [if_pos c]; exact ⟨.inr rfl, n9 1 (by decide) _ rfl, fun _ => rfl, fun c hc => (by cases hc)⟩
          · next c =>
            rw [if_neg c]
            split at hb
            · next c => rw [if_pos c]; exact ⟨.inr rfl, n9 2 (by decide) _ rfl, fun _ => rfl, fun c hc => (by cases hc)⟩
            · next c =>
              rw [if_neg c]
              split at hb
              · next c => rw [if_pos c]; exact ⟨.inr rfl, n9 3 (by decide) _ rfl, fun _ => rfl, fun c hc => (by cases hc)⟩
              · next c =>
                rw [if_neg c]
                split at hb
                · next c => rw [if_pos c]; exact ⟨.inr rfl, n9 5 (by decide) _ rfl, fun _ => rfl, fun c hc => (by cases hc)⟩
                · next c =>
                  rw [if_neg c]
                  split at hb
                  · next c =>
                    rw [if_pos c]
                    unfold creP
                    split
                    · exact ⟨.inr rfl, n9 4 (by decide) _ rfl, fun _ => rfl, fun c hc => (by cases hc)⟩
                    · exact ⟨.inr rfl, n9 6 (by decide) _ rfl, fun c => (by cases c), fun c hc => (by cases hc)⟩
                  · cases hb
section
variable {w : World} {k q lo : Nat} {M : Mu} {H : Nat → Prop} {s : Int} {S : Sq} {st : St}
/-- run. -/
theorem smrun_any (E : ME w k q M H) (ok : MuOk M) (mq : MuQ M) (hin : M.inT s = 0) (hL : SML lo w S) (hO : SmOf S (Ms.of st)) (hk : st.kind = 7 ∨ st.kind = 8 ∨ st.kind = 9 ∨ st.kind = 10) (hK : StK st) (hB : StB st) (hok : StOk st) (hlo : lo ≤ w.heap.size) (hap : ∀ j, smj j → ∀ b, (S.cell j).ownBlock = some b → ¬ H b) : Calls Tryz.prog 191 #[.pointer (some ⟨k, 0, none⟩), .int .i64 s, .agg (tabV 12 S.cell)] w (MnP w k q lo H (runQ M s st)) := by
  have n9 : st.kind ≠ 9 → st.sets = [] := fun c => hK.a7.elim (fun e => absurd e c) id
  rcases hk with c | c | c | c
  · refine smrun_ins E ok hL hO c rfl ?_ c hok.lits hB.lits hlo hap
    show st.lits ++ st.sets.map (·.lit) = st.lits
    rw [n9 (by rw [c]; decide)]
    simp
  · exact smrun_sel E ok mq hin hL hO rfl c (n9 (by rw [c]; decide)) hK.star hB hok hK.sg hlo hap
  · exact smrun_upd E ok mq hin hL hO rfl c (hK.a9 c) hK.star hB hok hK.sg hlo hap
  · exact smrun_del E ok mq hin hL hO rfl c (n9 (by rw [c]; decide)) hK.star hB hok hK.sg hlo hap
end
end Go.Proofs.Qxb6500412aGreat
