/-
  OWN WORK. QUERY's MODEL: the engine; run, INSERT (written by tools/gen_qe7.py).
-/
import Derived.Test.Qxb6500412aGreatQE6
namespace Go.Proofs.Qxb6500412aGreat
open Go.RowKit Go.PlainAid
set_option linter.unusedSimpArgs false
set_option linter.unusedVariables false

/-- The model's engine. -/
structure ME (w : World) (k m : Nat) (M : Mu) (H : Nat → Prop) : Prop where
  has : Has w k #[.pointer (some ⟨m, 0, none⟩)] 115
  mx : MX w m M H
  kH : ¬ H k
/-- An answer in memory, its blocks in B. -/
structure RsN (B : Nat → Prop) (w : World) (cv rv : Value) (R : Rs) : Prop where
  cn : OwnN w cv R.cols
  cb : ∀ b, cv.ownBlock = some b → B b
  rl : ∃ Y, RL 0 rv Y w ∧ Y.map (·.2) = R.rows ∧ (∀ b, rv.ownBlock = some b → B b) ∧ ∀ z ∈ Y, ∀ b, z.1.ownBlock = some b → B b
/-- What run answers. -/
def MnP (w : World) (k m lo : Nat) (H : Nat → Prop) (R : Mu × Rs) (e : Ending) (w' : World) : Prop :=
  ∃ na nn nc ra rn rc H' B, e = .returned (.agg #[.int .i64 R.2.e, .int .i64 R.2.n, .slice na nn nc, .slice ra rn rc]) ∧ RsN B w' (.slice na nn nc) (.slice ra rn rc) R.2 ∧ (∀ b, B b → lo ≤ b ∧ b < w'.heap.size ∧ ¬ H' b) ∧ ME w' k m R.1 H' ∧ (∀ b, H' b → H b ∨ w.heap.size ≤ b) ∧ Only H w w'
section
variable {w w' : World} {k m lo : Nat} {M M' : Mu} {H H' B : Nat → Prop} {cv rv : Value} {R : Rs}
theorem ME.keep {X : Nat → Prop} (h : ME w k m M H) (ho : Only X w w') (hX : ∀ b, H b ∨ b = k → ¬ X b) : ME w' k m M H := ⟨h.has.keep ho (hX k (.inr rfl)), h.mx.keep ho (fun b hb => hX b (.inl hb)), h.kH⟩
theorem ME.quiet (h : ME w k m M H) (ho : Only (fun _ => False) w w') : ME w' k m M H := h.keep ho (fun _ _ e => e)
theorem ME.kl (h : ME w k m M H) : k < w.heap.size := h.has.lt
theorem ME.turn (h : ME w k m M H) (X : MX w' m M' H') (ho : Only H w w') (hH : ∀ b, H' b → H b ∨ w.heap.size ≤ b) : ME w' k m M' H' :=
  ⟨h.has.keep ho h.kH, X, fun c => (hH k c).elim h.kH (fun d => by have := h.kl; omega)⟩
theorem RsN.keep {X : Nat → Prop} (h : RsN B w cv rv R) (o : Only X w w') (hX : ∀ b, B b → ¬ X b) : RsN B w' cv rv R := by
  obtain ⟨Y, h1, h2, h3, h4⟩ := h.rl
  exact ⟨ownsRow_keep h.cn o (fun b hb => hX b (h.cb b hb)), h.cb, Y, h1.keep o (fun b hb => hX b (h3 b hb)) (fun z hz b hb => hX b (h4 z hz b hb)), h2, h3, h4⟩
theorem RsN.none_ (h1 : R.cols = []) (h2 : R.rows = []) : RsN (fun _ => False) w (.slice none 0 0) (.slice none 0 0) R :=
  ⟨by rw [h1]; exact World.ownsRow_nil _ _ _ _, (fun b hb => by cases hb), [], RL.nil _ _, by rw [h2]; rfl, (fun b hb => by cases hb), (fun z hz => by cases hz)⟩
end
set_option maxRecDepth 100000 in
theorem smfailE_any (e0 : Int) (w : World) : Calls Tryz.prog 184 #[.int .i64 e0] w fun e w' => e = .returned (.agg #[.int .i64 e0, .int .i64 0, .slice none 0 0, .slice none 0 0]) ∧ Only (fun _ => False) w w' := by
  have o1 : Only (fun _ => False) w (w.alloc (.cells #[.int .i64 e0, .int .i64 0, .slice none 0 0, .slice none 0 0] 52)) := (Only.refl _ w).alloc _
  have N1 := Has.new w #[.int .i64 e0, .int .i64 0, .slice none 0 0, .slice none 0 0] 52
  go_enter Tryz.func184, Tryz.ntmps184
  go_wp2_with fail
  refine bodyPost_ret (sres_result rfl _ rfl N1 rfl) rfl ?_
  exact ⟨rfl, o1⟩
section
variable {w w' : World} {k q lo : Nat} {M : Mu} {H : Nat → Prop} {s : Int} {S : Sq} {st : St} {m : Ms}
/-- Insert, by the state. -/
theorem mins_any (X : MX w q M H) (ok : MuOk M) (hk : st.kind = 7) {ra : Option Addr} {rn rc : Nat} (hr : OwnV w (.slice ra rn rc) st.lits) (hrq : ∀ b, (Value.slice ra rn rc).ownBlock = some b → ¬ H b) (hr4 : st.lits.length ≤ 200) (hw : ∀ v ∈ st.lits, v.wf) : Calls Tryz.prog 275 #[.pointer (some ⟨q, 0, none⟩), .int .i64 s, .string st.table, .slice ra rn rc] w fun e w' => ∃ v, e = .returned v ∧ v = .int .i64 (runQ M s st).2.e ∧ MX w' q (runQ M s st).1 (Ext H w w') ∧ Only H w w' :=
  (xminsert_any X ok s st.table hr hrq hw hr4).mono (by
    intro e w1 h
    unfold runQ
    rw [if_pos hk]
    rcases h with ⟨z, rfl, hz, ht, hX, ho⟩ | ⟨z, rfl, ht, hz, hX, ho⟩
    · rw [Mu.tkE_iff] at ht
      rw [if_pos (by rw [← ht]; exact hz)]
      exact ⟨_, rfl, by rw [ht]; rfl, hX, ho⟩
    · rw [Mu.tkE_iff] at ht
      rw [if_neg (fun c => c ht.symm)]
      refine ⟨_, rfl, ?_, hX, ho⟩
      rw [hz]
      by_cases c : (insD (M.see s.toNat) st.table st.lits).2 = 0
      · simp only [if_pos c]; rw [c]; rfl
      · simp only [if_neg c]; rfl)
theorem runQ_ins0 (h : st.kind = 7) (h0 : (runQ M s st).2.e = 0) : (runQ M s st).2 = Rs.cnt 1 := by
  unfold runQ at h0 ⊢
  rw [if_pos h] at h0 ⊢
  split
  · next hne => rw [if_pos hne] at h0; exact absurd h0 hne
  · next hne =>
    rw [if_neg hne] at h0
    by_cases c : (insD (M.see s.toNat) st.table st.lits).2 = 0
    · rw [if_pos c]
    · rw [if_neg c] at h0
      exact absurd h0 c
set_option maxRecDepth 100000 in
set_option maxHeartbeats 8000000 in
theorem smrun_ins (E : ME w k q M H) (ok : MuOk M) (hL : SML lo w S) (hO : SmOf S m) (hkd : m.kind = 7) (htb : m.table = st.table) (hvl : m.vals = st.lits) (hk : st.kind = 7) (hw : ∀ v ∈ st.lits, v.wf) (h200 : st.lits.length ≤ 200) (hlo : lo ≤ w.heap.size) (hap : ∀ j, smj j → ∀ b, (S.cell j).ownBlock = some b → ¬ H b) : Calls Tryz.prog 191 #[.pointer (some ⟨k, 0, none⟩), .int .i64 s, .agg (tabV 12 S.cell)] w (MnP w k q lo H (runQ M s st)) := by
  obtain ⟨a2, n2, c2, a4, n4, c4, a5, n5, c5, a7, n7, c7, hcs⟩ := hO.cells_ hL
  have x5 := hL.own 5 (by unfold smj; omega)
  have q5 : S.cell 5 = .slice a5 n5 c5 := by
    have := congrArg (·[5]?) hcs
    simpa [tabV_get] using this
  have p5 := hL.new 5 (by unfold smj; omega)
  have ap5 := hap 5 (by unfold smj; omega)
  rw [q5] at p5 ap5
  rw [q5, hO.x5.1, hO.x5.2] at x5
  rw [hcs]
  have x5 : OwnV w (.slice a5 n5 c5) m.vals := x5
  have h5 : n5 = m.vals.length := by obtain ⟨_, _, e⟩ := x5.shape; cases e; rfl
  subst h5
  have o0 : Only (fun _ => False) w (w.alloc (.cells #[.int .i64 m.kind, .string m.table, .slice a2 n2 c2, .int .i64 m.pk, .slice a4 n4 c4, .slice a5 m.vals.length c5, .bool m.star, .slice a7 n7 c7, .string m.order, .bool m.desc, .bool m.hasL, .int .i64 m.lim] 253)) := (Only.refl _ w).alloc _
  have o1 : Only (fun _ => False) (w.alloc (.cells #[.int .i64 m.kind, .string m.table, .slice a2 n2 c2, .int .i64 m.pk, .slice a4 n4 c4, .slice a5 m.vals.length c5, .bool m.star, .slice a7 n7 c7, .string m.order, .bool m.desc, .bool m.hasL, .int .i64 m.lim] 253)) ((w.alloc (.cells #[.int .i64 m.kind, .string m.table, .slice a2 n2 c2, .int .i64 m.pk, .slice a4 n4 c4, .slice a5 m.vals.length c5, .bool m.star, .slice a7 n7 c7, .string m.order, .bool m.desc, .bool m.hasL, .int .i64 m.lim] 253)).alloc (.cells #[.int .i64 0, .int .i64 0, .slice none 0 0, .slice none 0 0] 52)) := (Only.refl _ _).alloc _
  have N0 := Has.new w #[.int .i64 m.kind, .string m.table, .slice a2 n2 c2, .int .i64 m.pk, .slice a4 n4 c4, .slice a5 m.vals.length c5, .bool m.star, .slice a7 n7 c7, .string m.order, .bool m.desc, .bool m.hasL, .int .i64 m.lim] 253
  have N1 := Has.new' (w.alloc (.cells #[.int .i64 m.kind, .string m.table, .slice a2 n2 c2, .int .i64 m.pk, .slice a4 n4 c4, .slice a5 m.vals.length c5, .bool m.star, .slice a7 n7 c7, .string m.order, .bool m.desc, .bool m.hasL, .int .i64 m.lim] 253)) #[.int .i64 0, .int .i64 0, .slice none 0 0, .slice none 0 0] 52 (w.heap.size + 1) (by simp)
  have oA := o0.trans o1 (fun _ _ e => e)
  have HA := hide (show Has ((w.alloc (.cells #[.int .i64 m.kind, .string m.table, .slice a2 n2 c2, .int .i64 m.pk, .slice a4 n4 c4, .slice a5 m.vals.length c5, .bool m.star, .slice a7 n7 c7, .string m.order, .bool m.desc, .bool m.hasL, .int .i64 m.lim] 253)).alloc (.cells #[.int .i64 0, .int .i64 0, .slice none 0 0, .slice none 0 0] 52)) w.heap.size #[.int .i64 m.kind, .string m.table, .slice a2 n2 c2, .int .i64 m.pk, .slice a4 n4 c4, .slice a5 m.vals.length c5, .bool m.star, .slice a7 n7 c7, .string m.order, .bool m.desc, .bool m.hasL, .int .i64 m.lim] 253 ∧ Has ((w.alloc (.cells #[.int .i64 m.kind, .string m.table, .slice a2 n2 c2, .int .i64 m.pk, .slice a4 n4 c4, .slice a5 m.vals.length c5, .bool m.star, .slice a7 n7 c7, .string m.order, .bool m.desc, .bool m.hasL, .int .i64 m.lim] 253)).alloc (.cells #[.int .i64 0, .int .i64 0, .slice none 0 0, .slice none 0 0] 52)) (w.heap.size + 1) #[.int .i64 0, .int .i64 0, .slice none 0 0, .slice none 0 0] 52 ∧ ME ((w.alloc (.cells #[.int .i64 m.kind, .string m.table, .slice a2 n2 c2, .int .i64 m.pk, .slice a4 n4 c4, .slice a5 m.vals.length c5, .bool m.star, .slice a7 n7 c7, .string m.order, .bool m.desc, .bool m.hasL, .int .i64 m.lim] 253)).alloc (.cells #[.int .i64 0, .int .i64 0, .slice none 0 0, .slice none 0 0] 52)) k q M H ∧ OwnV ((w.alloc (.cells #[.int .i64 m.kind, .string m.table, .slice a2 n2 c2, .int .i64 m.pk, .slice a4 n4 c4, .slice a5 m.vals.length c5, .bool m.star, .slice a7 n7 c7, .string m.order, .bool m.desc, .bool m.hasL, .int .i64 m.lim] 253)).alloc (.cells #[.int .i64 0, .int .i64 0, .slice none 0 0, .slice none 0 0] 52)) (.slice a5 m.vals.length c5) m.vals ∧ Only (fun _ => False) w ((w.alloc (.cells #[.int .i64 m.kind, .string m.table, .slice a2 n2 c2, .int .i64 m.pk, .slice a4 n4 c4, .slice a5 m.vals.length c5, .bool m.star, .slice a7 n7 c7, .string m.order, .bool m.desc, .bool m.hasL, .int .i64 m.lim] 253)).alloc (.cells #[.int .i64 0, .int .i64 0, .slice none 0 0, .slice none 0 0] 52)) from ⟨N0.keep o1 (fun e => e), N1, E.quiet oA, x5.keep oA (fun _ _ e => e), oA⟩)
  have HAP := hide (And.intro hlo (And.intro ap5 (And.intro E.mx.lt p5)))
  have HOK := hide (And.intro hw (And.intro h200 (And.intro hk (And.intro htb (And.intro hvl ok)))))
  clear o0 o1 N0 N1 oA hL hO hcs x5 p5 ap5 q5 E hw h200 hlo hap ok hvl
  have b7 : (m.kind == 7) = true := by simp [hkd]
  clear hkd hk htb
  obtain ⟨RR, hRR⟩ : ∃ r, runQ M s st = r := ⟨_, rfl⟩
  have HRR := hide hRR
  rw [hRR]
  clear hRR
  go_enter Tryz.func191, Tryz.ntmps191
  go_upto_region 1 with fail
  generalize (w.alloc (.cells #[.int .i64 m.kind, .string m.table, .slice a2 n2 c2, .int .i64 m.pk, .slice a4 n4 c4, .slice a5 m.vals.length c5, .bool m.star, .slice a7 n7 c7, .string m.order, .bool m.desc, .bool m.hasL, .int .i64 m.lim] 253)).alloc (.cells #[.int .i64 0, .int .i64 0, .slice none 0 0, .slice none 0 0] 52) = w1 at *
  generalize hH : w.heap.size = G at *
  have t0 : w1.cell? ⟨G, 0, none⟩ = some (.int .i64 m.kind) := (unhide HA).1.cell 0
  have t1 : w1.cell? ⟨G, 1, none⟩ = some (.string m.table) := (unhide HA).1.cell 1
  have t5 : w1.cell? ⟨G, 5, none⟩ = some (.slice a5 m.vals.length c5) := (unhide HA).1.cell 5
  have tl := (unhide HA).1.lt
  have e0 : w1.cell? ⟨k, 0, none⟩ = some (.pointer (some ⟨q, 0, none⟩)) := (unhide HA).2.2.1.has.cell 0
  have kl := (unhide HA).2.2.1.kl
  have nk := hide (unhide HA).2.2.1.kH
  have nT := hide (show ¬ H G from fun c => by have := (unhide HAP).2.2.1 _ c; omega)
  have nR := hide (show ¬ H (G + 1) from fun c => by have := (unhide HAP).2.2.1 _ c; omega)
  have oD4 : Only (fun _ => False) w1 w1.drew := (Only.refl _ w1).drew
  have hov := (unhide HA).2.2.2.1.keep oD4 (fun _ _ e => e)
  rw [(unhide HOK).2.2.2.2.1] at hov t5
  have CI := mins_any (s := s) ((unhide HA).2.2.1.mx.quiet oD4) (unhide HOK).2.2.2.2.2 (unhide HOK).2.2.1 hov (fun b hb => (unhide HAP).2.1 b (by cases a5 <;> exact hb)) (unhide HOK).2.1 (unhide HOK).1
  rw [unhide HRR] at CI
  rw [(unhide HOK).2.2.2.1] at t1
  have CI := hide CI
  clear oD4 hov
  go_upto_region 2 with fail
  refine wp_region_held_drew (S := (fun w' => w'.cell? ⟨k, 0, none⟩ = some (.pointer (some ⟨q, 0, none⟩)) ∧ w'.cell? ⟨G, 1, none⟩ = some (.string st.table) ∧ w'.cell? ⟨G, 5, none⟩ = some (.slice a5 st.lits.length c5))) (by kernel_rfl) ⟨e0, t1, t5⟩ (fun hH0 => ?_)
  refine takeH 0 18 (v := ?vin1) rfl rfl (by kernel_rfl) (by kernel_rfl) (by kernel_rfl) (fun _ _ _ h => h) (Or.inl ⟨by rfl, ?hin1⟩) hH0 ?rin1
  case hin1 => (intro w hSw; clear hSw; go_simp; (try with_reducible rfl))
  case rin1 =>
  try simp only [Act.put, List.setIfInBounds_toArray, List.set_cons_zero, List.set_cons_succ]
  refine takeH 1 19 (v := ?vin2) rfl rfl (by kernel_rfl) (by kernel_rfl) (by kernel_rfl) (fun _ _ _ h => h) (Or.inl ⟨by rfl, ?hin2⟩) hH0 ?rin2
  case hin2 => (intro w hSw; clear hSw; go_simp; (try with_reducible rfl))
  case rin2 =>
  try simp only [Act.put, List.setIfInBounds_toArray, List.set_cons_zero, List.set_cons_succ]
  refine takeH 2 20 (v := ?vin3) rfl rfl (by kernel_rfl) (by kernel_rfl) (by kernel_rfl) (fun _ _ _ h => h) (Or.inl ⟨by rfl, ?hin3⟩) hH0 ?rin3
  case hin3 => (intro w hSw; clear hSw; go_simp; (try with_reducible rfl))
  case rin3 =>
  try simp only [Act.put, List.setIfInBounds_toArray, List.set_cons_zero, List.set_cons_succ]
  refine takeH 3 21 (v := ?vin4) rfl rfl (by kernel_rfl) (by kernel_rfl) (by kernel_rfl) (fun _ _ _ h => h) (Or.inl ⟨by rfl, ?hin4⟩) hH0 ?rin4
  case hin4 => (intro w hSw; obtain ⟨s0, s1, s2⟩ := hSw; go_simp; (try with_reducible rfl))
  case rin4 =>
  try simp only [Act.put, List.setIfInBounds_toArray, List.set_cons_zero, List.set_cons_succ]
  refine takeH 4 22 (v := ?vin5) rfl rfl (by kernel_rfl) (by kernel_rfl) (by kernel_rfl) (fun _ _ _ h => h) (Or.inl ⟨by rfl, ?hin5⟩) hH0 ?rin5
  case hin5 => (intro w hSw; clear hSw; go_simp; (try with_reducible rfl))
  case rin5 =>
  try simp only [Act.put, List.setIfInBounds_toArray, List.set_cons_zero, List.set_cons_succ]
  refine takeH 5 23 (v := ?vin6) rfl rfl (by kernel_rfl) (by kernel_rfl) (by kernel_rfl) (fun _ _ _ h => h) (Or.inl ⟨by rfl, ?hin6⟩) hH0 ?rin6
  case hin6 => (intro w hSw; clear hSw; go_simp; (try with_reducible rfl))
  case rin6 =>
  try simp only [Act.put, List.setIfInBounds_toArray, List.set_cons_zero, List.set_cons_succ]
  refine takeH 6 24 (v := ?vin7) rfl rfl (by kernel_rfl) (by kernel_rfl) (by kernel_rfl) (fun _ _ _ h => h) (Or.inl ⟨by rfl, ?hin7⟩) hH0 ?rin7
  case hin7 => (intro w hSw; obtain ⟨s0, s1, s2⟩ := hSw; go_simp; (try with_reducible rfl))
  case rin7 =>
  try simp only [Act.put, List.setIfInBounds_toArray, List.set_cons_zero, List.set_cons_succ]
  refine takeH 7 25 (v := ?vin8) rfl rfl (by kernel_rfl) (by kernel_rfl) (by kernel_rfl) (fun _ _ _ h => h) (Or.inl ⟨by rfl, ?hin8⟩) hH0 ?rin8
  case hin8 => (intro w hSw; clear hSw; go_simp; (try with_reducible rfl))
  case rin8 =>
  try simp only [Act.put, List.setIfInBounds_toArray, List.set_cons_zero, List.set_cons_succ]
  refine takeH 8 26 (v := ?vin9) rfl rfl (by kernel_rfl) (by kernel_rfl) (by kernel_rfl) (fun _ _ _ h => h) (Or.inl ⟨by rfl, ?hin9⟩) hH0 ?rin9
  case hin9 => (intro w hSw; obtain ⟨s0, s1, s2⟩ := hSw; go_simp; (try with_reducible rfl))
  case rin9 =>
  try simp only [Act.put, List.setIfInBounds_toArray, List.set_cons_zero, List.set_cons_succ]
  refine callH 9 (by kernel_rfl) rfl 27 rfl rfl 275 Tryz.func275 (by kernel_rfl) (by kernel_rfl) #[.tmp 21, .tmp 22, .tmp 24, .tmp 26] #[104, 3, 9, 95] rfl #[.pointer (some ⟨q, 0, none⟩), .int .i64 s, .string st.table, .slice a5 st.lits.length c5] (by simp [Act.eval]) (R := fun v w' => v = .int .i64 RR.2.e ∧ MX w' q RR.1 (Ext H w1.drew w') ∧ Only H w1.drew w') (unhide CI) ?kin
  case kin =>
  rintro _ w6 ⟨rfl, hrp, o6⟩
  have S6 : w6.cell? ⟨k, 0, none⟩ = some (.pointer (some ⟨q, 0, none⟩)) ∧ w6.cell? ⟨G, 1, none⟩ = some (.string st.table) ∧ w6.cell? ⟨G, 5, none⟩ = some (.slice a5 st.lits.length c5) := ⟨cell_keep (hH0.1) o6 (unhide nk), cell_keep (hH0.2.1) o6 (unhide nT), cell_keep (hH0.2.2) o6 (unhide nT)⟩
  refine ⟨S6, ?_⟩
  try simp only [Act.put, List.setIfInBounds_toArray, List.set_cons_zero, List.set_cons_succ]
  refine takeH 10 7 (v := ?vin10) rfl rfl (by kernel_rfl) (by kernel_rfl) (by kernel_rfl) (fun _ _ _ h => h) (Or.inl ⟨by rfl, ?hin10⟩) S6 ?rin10
  case hin10 => (intro w hSw; clear hSw; go_simp; (try with_reducible rfl))
  case rin10 =>
  try simp only [Act.put, List.setIfInBounds_toArray, List.set_cons_zero, List.set_cons_succ]
  refine wpAnyH_done (by kernel_rfl) ?_ _
  have oD : Only (H) w1 w6 := (Only.refl (H) w1).drew.trans o6 (fun _ _ e => e)
  clear hH0 S6
  have hdz : w1.drew.heap.size = w1.heap.size := rfl
  have h2 := (unhide HA).2.1.lt
  have RB6 := (unhide HA).2.1.keep oD (unhide nR)
  have hKw : ∀ b, Ext H w1.drew w6 b → H b ∨ w1.heap.size ≤ b := fun b hb => hb.imp id (fun c => c.1)
  have E6 : ME w6 k q RR.1 (Ext H w1.drew w6) := (unhide HA).2.2.1.turn hrp oD hKw
  have hfin : ∀ w9, Only (fun b => b = G + 1) w6 w9 → ME w9 k q RR.1 (Ext H w1.drew w6) ∧ (∀ b, Ext H w1.drew w6 b → H b ∨ w.heap.size ≤ b) ∧ Only H w w9 := fun w9 o9 => by
    have hm := (unhide HAP).2.2.1
    have hkl := (unhide HA).2.2.1.kl
    have hk1 : k ≠ G + 1 := fun c => by
      have h1 := (unhide HA).2.2.1.has
      rw [c] at h1
      exact Has.ne h1 (unhide HA).2.1 (by decide) rfl
    refine ⟨E6.keep o9 (fun b hb (e : b = G + 1) => ?_), fun b hb => (hKw b hb).imp id (fun h => by omega), ?_⟩
    · subst e
      rcases hb with c | c
      · exact (hKw _ c).elim (fun c => by have := hm _ c; omega) (fun c => by omega)
      · exact hk1 c.symm
    · exact (((unhide HA).2.2.2.2.mono (fun _ _ e => e.elim)).trans oD (fun _ _ e => e)).lateS o9 (fun b (e : b = G + 1) => by omega)
  have HFIN := hide hfin
  have HRB := hide RB6
  clear hfin hrp E6 hKw oD o6 CI e0 t0 t1 t5 tl kl RB6 HA
  have hc0 := runQ_ins0 (M := M) (s := s) (unhide HOK).2.2.1
  have hcs := runQ_ins (M := M) (s := s) (unhide HOK).2.2.1
  rw [unhide HRR] at hcs hc0
  obtain ⟨R1, R2⟩ := RR
  simp only at hcs hc0
  obtain ⟨z, hz⟩ : ∃ z, R2.e = z := ⟨_, rfl⟩
  by_cases h0 : z = 0
  · have hR2 : R2 = Rs.cnt 1 := hc0 (hz.trans h0)
    rw [hz, h0]
    have HR2 := hide hR2
    clear hcs hz hR2 h0 hc0
    have r0 : w6.cell? ⟨G + 1, 0, none⟩ = some (.int .i64 0) := (unhide HRB).cell 0
    have r1 : w6.cell? ⟨G + 1, 1, none⟩ = some (.int .i64 0) := (unhide HRB).cell 1
    have r2 : w6.cell? ⟨G + 1, 2, none⟩ = some (.slice none 0 0) := (unhide HRB).cell 2
    have r3 : w6.cell? ⟨G + 1, 3, none⟩ = some (.slice none 0 0) := (unhide HRB).cell 3
    have rf0 := (unhide HRB).free 0
    have rf1 := (unhide HRB).free 1
    have rf2 := (unhide HRB).free 2
    have rf3 := (unhide HRB).free 3
    have rl := (unhide HRB).lt
    have H5 := has_setAll [.int .i64 0, .int .i64 1, .slice none 0 0, .slice none 0 0] (unhide HRB) rfl
    have O5 := only_setW (G + 1) [.int .i64 0, .int .i64 1, .slice none 0 0, .slice none 0 0] 0 w6
    have FF := hide (And.intro H5 (show MnP w k q lo H (R1, R2) (.returned (.agg #[.int .i64 0, .int .i64 1, .slice none 0 0, .slice none 0 0])) (setW (G + 1) [.int .i64 0, .int .i64 1, .slice none 0 0, .slice none 0 0] 0 w6) from (by
      have f := unhide HFIN _ O5
      refine ⟨none, 0, 0, none, 0, 0, _, _, ?_, RsN.none_ (by rw [unhide HR2]; rfl) (by rw [unhide HR2]; rfl), (fun b hb => hb.elim), f.1, f.2.1, f.2.2⟩
      rw [unhide HR2]
      rfl)))
    simp only [setW, Nat.zero_add, Nat.reduceAdd] at FF
    clear H5 O5
    go_wp2_with fail
    refine bodyPost_ret (sres_result rfl _ rfl (unhide FF).1 rfl) rfl ?_
    exact (unhide FF).2
  · have hR2 : R2 = Rs.err z := hcs.elim (fun c => by rw [hz] at c; exact c) (fun c => absurd (hz.symm.trans c.1) h0)
    have bz : (z != 0) = true := by simpa using h0
    rw [hz]
    have HR2 := hide hR2
    clear hcs hz hR2 h0 hc0
    have CF := hide (smfailE_any z w6)
    go_wp2_with fail
    refine (unhide CF).mono ?_
    rintro e w7 ⟨rfl, o7⟩
    have RB7 := (unhide HRB).keep o7 (fun e => e)
    have HO7 := hide o7
    have r0 : w7.cell? ⟨G + 1, 0, none⟩ = some (.int .i64 0) := RB7.cell 0
    have r1 : w7.cell? ⟨G + 1, 1, none⟩ = some (.int .i64 0) := RB7.cell 1
    have r2 : w7.cell? ⟨G + 1, 2, none⟩ = some (.slice none 0 0) := RB7.cell 2
    have r3 : w7.cell? ⟨G + 1, 3, none⟩ = some (.slice none 0 0) := RB7.cell 3
    have rf0 := RB7.free 0
    have rf1 := RB7.free 1
    have rf2 := RB7.free 2
    have rf3 := RB7.free 3
    have rl := RB7.lt
    have H5 := has_setAll [.int .i64 z, .int .i64 0, .slice none 0 0, .slice none 0 0] RB7 rfl
    have O5 := only_setW (G + 1) [.int .i64 z, .int .i64 0, .slice none 0 0, .slice none 0 0] 0 w7
    have FF := hide (And.intro H5 (show MnP w k q lo H (R1, R2) (.returned (.agg #[.int .i64 z, .int .i64 0, .slice none 0 0, .slice none 0 0])) (setW (G + 1) [.int .i64 z, .int .i64 0, .slice none 0 0, .slice none 0 0] 0 w7) from (by
      have f := unhide HFIN _ (((unhide HO7).mono (fun _ _ e => e.elim)).trans O5 (fun _ _ e => e))
      refine ⟨none, 0, 0, none, 0, 0, _, _, ?_, RsN.none_ (by rw [unhide HR2]; rfl) (by rw [unhide HR2]; rfl), (fun b hb => hb.elim), f.1, f.2.1, f.2.2⟩
      rw [unhide HR2]
      rfl)))
    simp only [setW, Nat.zero_add, Nat.reduceAdd] at FF
    clear H5 O5
    clear CF o7 RB7
    go_wp2_with fail
    refine bodyPost_ret (sres_result rfl _ rfl (unhide FF).1 rfl) rfl ?_
    exact (unhide FF).2
end
end Go.Proofs.Qxb6500412aGreat
