/-
  OWN WORK. QUERY: what Exec leaves; plain facts of a statement that was read and of the state.
-/
import Derived.Test.Qxb6500412aGreatS39
namespace Go.Proofs.Qxb6500412aGreat
open Go.RowKit Go.PlainAid
set_option linter.unusedSimpArgs false
set_option linter.unusedVariables false

/-- An answer in memory, its blocks within lo .. hi. -/
structure RsQ (lo hi : Nat) (w : World) (cv rv : Value) (R : Rs) : Prop where
  cn : OwnN w cv R.cols
  cb : ∀ b, cv.ownBlock = some b → lo ≤ b ∧ b < hi
  rl : ∃ Y, RL lo rv Y w ∧ Y.map (·.2) = R.rows ∧ (∀ b, rv.ownBlock = some b → b < hi) ∧ ∀ z ∈ Y, ∀ b, z.1.ownBlock = some b → b < hi
section
variable {lo hi : Nat} {w w' : World} {cv rv : Value} {R : Rs}
theorem RsQ.keep {B : Nat → Prop} (h : RsQ lo hi w cv rv R) (o : Only B w w') (hB : ∀ b, lo ≤ b → b < hi → ¬ B b) : RsQ lo hi w' cv rv R := by
  obtain ⟨Y, h1, h2, h3, h4⟩ := h.rl
  exact ⟨ownsRow_keep h.cn o (fun b hb => hB b (h.cb b hb).1 (h.cb b hb).2), h.cb, Y, h1.keep o (fun b hb => hB b (h1.nb b hb) (h3 b hb)) (fun z hz b hb => hB b ((h1.row z hz).2 b hb) (h4 z hz b hb)), h2, h3, h4⟩
theorem RsQ.none_ (h1 : R.cols = []) (h2 : R.rows = []) : RsQ lo lo w (.slice none 0 0) (.slice none 0 0) R :=
  ⟨by rw [h1]; exact World.ownsRow_nil _ _ _ _, (fun b hb => by cases hb), [], RL.nil _ _, by rw [h2]; rfl, (fun b hb => by cases hb), (fun z hz => by cases hz)⟩
theorem RsM.rsq {na ra : Option Addr} {nn nc rn rc : Nat} (h : RsM lo w (.slice na nn nc) (.slice ra rn rc) R) (hb : ∀ b, (Value.slice na nn nc).ownBlock = some b → lo ≤ b) : RsQ lo w.heap.size w (.slice na nn nc) (.slice ra rn rc) R := by
  obtain ⟨Y, h1, h2⟩ := h.rl
  exact ⟨h.cn, fun b hb2 => ⟨hb b hb2, ownsRow_lt h.cn b hb2⟩, Y, h1, h2, ownsRow_lt h1.own, fun z hz => ownsRow_lt (h1.row z hz).1⟩
theorem RsM.rsq0 {nn nc rn rc : Nat} (h : RsM lo w (.slice none nn nc) (.slice none rn rc) R) : RsQ lo lo w (.slice none nn nc) (.slice none rn rc) R := by
  obtain ⟨Y, h1, h2⟩ := h.rl
  have hY : Y = [] := by
    rcases h1.own.2 with ⟨_, h0⟩ | ⟨g, cap, cur, he, _⟩
    · exact List.eq_nil_of_length_eq_zero h0
    · simp at he
  subst hY
  exact ⟨h.cn, (fun b hb => by cases hb), [], h1, h2, (fun b hb => by cases hb), (fun z hz => by cases hz)⟩
end
/-- What Exec leaves. -/
def ExP (L : Prop) (q : Gnd) (w : World) (k g x : Nat) (M : Mu) (K : Nat → Prop) (R : Mu × Rs) (pln : Int) (e : Ending) (w' : World) : Prop :=
  ∃ na nn nc ra rn rc hi q' K', e = .returned (.agg #[.int .i64 R.2.e, .int .i64 R.2.n, .slice na nn nc, .slice ra rn rc]) ∧ RsQ w.heap.size hi w' (.slice na nn nc) (.slice ra rn rc) R.2 ∧ (∀ b, w.heap.size ≤ b → b < hi → Apa q' x k K' b) ∧ QR q' w' k g x R.1 K' pln ∧ (∀ b, K' b → K b ∨ w.heap.size ≤ b) ∧
    ((q' = q ∧ R.1.com = M.com ∧ Only (fun b => q.S b ∨ K b ∨ b = k) w w') ∨ ∃ rs com wa wb, q' = q.done rs com wa wb ∧ (R.2.e = 0 ∧ L) ∧ w.heap.size ≤ wa.heap.size ∧ CutInv q.blk rs q.com com ∧ Only (fun b => q.A b ∨ K b ∨ b = k) w w')
section
variable {M : Mu} {s : Int} {st : St}
theorem runQ_com : (runQ M s st).1.com = M.com := by
  unfold runQ
  split
  · split <;> rfl
  · split
    · rfl
    · split
      · rfl
      · split
        · rfl
        · split
          · rfl
          · split
            · rfl
            · split <;> rfl
theorem runQ_act : (runQ M s st).1.act = M.act := by
  unfold runQ
  split
  · split <;> rfl
  · split
    · rfl
    · split
      · rfl
      · split
        · rfl
        · split
          · rfl
          · split
            · rfl
            · split <;> rfl
theorem runQ_inT : (runQ M s st).1.inT s = M.inT s := by
  unfold Mu.inT
  rw [runQ_act]
theorem begin_inT (g : gdS s) : (M.begin s.toNat).inT s = 0 := inT_of g (if_pos rfl)
end
theorem whereP_kind (P : Ps) (st : St) : (whereP P st).2.kind = st.kind := by
  unfold whereP
  split <;> rfl
theorem ordP_kind (P : Ps) (st : St) : (ordP P st).2.kind = st.kind := by
  unfold ordP
  split <;> rfl
theorem limP_kind (P : Ps) (st : St) : (limP P st).2.kind = st.kind := by
  unfold limP
  split
  · split <;> rfl
  · rfl
theorem selW_kind (P : Ps) (st : St) : (selW P st).2.kind = 8 := by
  unfold selW
  rw [whereP_kind]
theorem selP_kind (P : Ps) (st : St) : (selP P st).2.kind = 8 := by
  unfold selP selO
  rw [limP_kind, ordP_kind, selW_kind]
theorem updP_kind (P : Ps) (st : St) : (updP P st).2.kind = 9 := by unfold updP; rw [whereP_kind]
theorem delP_kind (P : Ps) (st : St) : (delP P st).2.kind = 10 := by unfold delP; rw [whereP_kind]
/-- The kinds of what was read. -/
theorem parQ_kind {t : ByteArray} (h : parB t = true) : ((parQ t).2.kind = 1 ∨ (parQ t).2.kind = 2 ∨ (parQ t).2.kind = 3) ∨ ((parQ t).2.kind = 4 ∨ (parQ t).2.kind = 5 ∨ ((parQ t).2.kind = 6 ∧ (parQ t).2.list ≠ [])) ∨ (parQ t).2.kind = 7 ∨ ((parQ t).2.kind = 8 ∨ (parQ t).2.kind = 9 ∨ (parQ t).2.kind = 10) := by
  unfold parB at h
  simp only [Bool.and_eq_true] at h
  have hb := h.2
  revert hb
  unfold parQ senP
  intro hb
  split at hb
  · next c => rw [if_pos c]; exact .inr (.inr (.inr (.inl (selP_kind _ _))))
  · next c =>
    rw [if_neg c]
    split at hb
    · next c => rw [if_pos c]; exact .inr (.inr (.inl rfl))
    · next c =>
      rw [if_neg c]
      split at hb
      · next c => rw [if_pos c]; exact .inr (.inr (.inr (.inr (.inl (updP_kind _ _)))))
      · next c =>
        rw [if_neg c]
        split at hb
        · next c => rw [if_pos c]; exact .inr (.inr (.inr (.inr (.inr (delP_kind _ _)))))
        · next c =>
          rw [if_neg c]
          split at hb
          · next c => rw [if_pos c]; exact .inl (.inl rfl)
          · next c =>
            rw [if_neg c]
            split at hb
            · next c => rw [if_pos c]; exact .inl (.inr (.inl rfl))
            · next c =>
              rw [if_neg c]
              split at hb
              · next c => rw [if_pos c]; exact .inl (.inr (.inr rfl))
              · next c =>
                rw [if_neg c]
                split at hb
                · next c => rw [if_pos c]; exact .inr (.inl (.inr (.inl rfl)))
                · next c =>
                  rw [if_neg c]
                  split at hb
                  · next c =>
                    rw [if_pos c]
                    unfold creP
                    split
                    · exact .inr (.inl (.inl rfl))
                    · exact .inr (.inl (.inr (.inr ⟨rfl, by unfold idxP; simp⟩)))
                  · cases hb
end Go.Proofs.Qxb6500412aGreat
