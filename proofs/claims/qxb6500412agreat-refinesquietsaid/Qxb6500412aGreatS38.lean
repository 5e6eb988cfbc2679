/-
  OWN WORK. QUERY: run, INSERT (written by tools/gen_s38.py).
-/
import Derived.Test.Qxb6500412aGreatS37
namespace Go.Proofs.Qxb6500412aGreat
open Go.RowKit Go.PlainAid
set_option linter.unusedSimpArgs false
set_option linter.unusedVariables false

/-- What a statement answers and leaves. -/
def RnP (q : Gnd) (w : World) (k g x lo : Nat) (lv : Value) (K : Nat → Prop) (R : Mu × Rs) (pln : Int) (e : Ending) (w' : World) : Prop :=
  ∃ na nn nc ra rn rc K', e = .returned (.agg #[.int .i64 R.2.e, .int .i64 R.2.n, .slice na nn nc, .slice ra rn rc]) ∧ RsM lo w' (.slice na nn nc) (.slice ra rn rc) R.2 ∧ (∀ b, (Value.slice na nn nc).ownBlock = some b → lo ≤ b) ∧ QR q w' k g x R.1 K' pln ∧ (∀ b, K' b → K b ∨ w.heap.size ≤ b) ∧ (∀ b, lo ≤ b → K' b → w.heap.size ≤ b) ∧ ((na = none ∧ ra = none) ∨ K' = K) ∧ Only (fun b => q.S b ∨ K b ∨ b = k ∨ lv.ownBlock = some b) w w'
section
variable {q : Gnd} {w : World} {k g x lo : Nat} {M : Mu} {K : Nat → Prop} {last : Int} {s : Int} {S : Sq} {st : St}
theorem RsM.none_ {lo : Nat} {w : World} {R : Rs} (h1 : R.cols = []) (h2 : R.rows = []) : RsM lo w (.slice none 0 0) (.slice none 0 0) R :=
  ⟨by rw [h1]; exact World.ownsRow_nil _ _ _ _, [], RL.nil _ _, by rw [h2]; rfl⟩
theorem runQ_ins (h : st.kind = 7) : (runQ M s st).2 = Rs.err (runQ M s st).2.e ∨ ((runQ M s st).2.e = 0 ∧ (runQ M s st).2 = Rs.cnt 1) := by
  unfold runQ
  rw [if_pos h]
  split
  · exact .inl rfl
  · by_cases c : (insD (M.see s.toNat) st.table st.lits).2 = 0
    · right; rw [if_pos c]; exact ⟨rfl, rfl⟩
    · left; rw [if_neg c]; rfl
/-- Insert, by the state. -/
theorem qins_any (R : RX q w g x M K) (hk : st.kind = 7) {ra : Option Addr} {rn rc : Nat} (hr : OwnV w (.slice ra rn rc) st.lits) (hrq : ∀ k, (Value.slice ra rn rc).ownBlock = some k → ¬ q.S k) (hr4 : st.lits.length ≤ 200) (hw : ∀ v ∈ st.lits, v.wf) : Calls Tryz.prog 170 #[.pointer (some ⟨g, 0, none⟩), .int .i64 s, .string st.table, .slice ra rn rc] w fun e w' => ∃ v, e = .returned v ∧ v = .int .i64 (runQ M s st).2.e ∧ Rp q w g x (runQ M s st).1 K w' ∧ Only (fun b => q.S b ∨ K b) w w' :=
  (rinsert_any R s st.table hr hrq hr4 hw).mono (by
    intro e w1 h
    unfold runQ
    rw [if_pos hk]
    rcases h with ⟨z, rfl, hz, ht, hR⟩ | ⟨z, rfl, ht, hz, hR⟩
    · rw [Mu.tkE_iff] at ht
      rw [if_pos (by rw [← ht]; exact hz)]
      obtain ⟨K', r, hk', o⟩ := hR
      exact ⟨_, rfl, by rw [ht]; rfl, ⟨K', r, hk', o⟩, o⟩
    · rw [Mu.tkE_iff] at ht
      rw [if_neg (fun c => c ht.symm)]
      obtain ⟨K', r, hk', o⟩ := hR
      refine ⟨_, rfl, ?_, ⟨K', r, hk', o⟩, o⟩
      rw [hz]
      by_cases c : (insD (M.see s.toNat) st.table st.lits).2 = 0
      · simp only [if_pos c]; rw [c]; rfl
      · simp only [if_neg c]; rfl)
set_option maxRecDepth 100000 in
set_option maxHeartbeats 8000000 in
theorem sqrun_ins (R : QR q w k g x M K last) (hS : StM q x k K w S st) (hok : StOk st) (hB : StB st) (hk : st.kind = 7) (hlo : lo ≤ w.heap.size) (hap : ∀ b, lo ≤ b → Apa q x k K b) : Calls Tryz.prog 113 #[.pointer (some ⟨k, 0, none⟩), .int .i64 s, .agg (tabV 13 S.cell)] w (RnP q w k g x lo (S.cell 6) K (runQ M s st) last) := by
  obtain ⟨a2, c2, a4, c4, a6, c6, a7, c7, a8, c8, hcs, x2, x4, x6, x7, x8, p2, p4, p6, p7, p8⟩ := hS.cells_
  rw [hcs]
  have o0 : Only (fun _ => False) w (w.alloc (.cells #[.int .i64 st.kind, .string st.table, .slice a2 st.defs.length c2, .int .i64 st.pk, .slice a4 st.lits.length c4, .bool st.star, .slice a6 st.list.length c6, .slice a7 st.sets.length c7, .slice a8 st.wh.length c8, .string st.order, .bool st.desc, .bool st.hasL, .int .i64 st.lim] 173)) := (Only.refl _ w).alloc _
  have o1 : Only (fun _ => False) (w.alloc (.cells #[.int .i64 st.kind, .string st.table, .slice a2 st.defs.length c2, .int .i64 st.pk, .slice a4 st.lits.length c4, .bool st.star, .slice a6 st.list.length c6, .slice a7 st.sets.length c7, .slice a8 st.wh.length c8, .string st.order, .bool st.desc, .bool st.hasL, .int .i64 st.lim] 173)) ((w.alloc (.cells #[.int .i64 st.kind, .string st.table, .slice a2 st.defs.length c2, .int .i64 st.pk, .slice a4 st.lits.length c4, .bool st.star, .slice a6 st.list.length c6, .slice a7 st.sets.length c7, .slice a8 st.wh.length c8, .string st.order, .bool st.desc, .bool st.hasL, .int .i64 st.lim] 173)).alloc (.cells #[.int .i64 0, .int .i64 0, .slice none 0 0, .slice none 0 0] 52)) := (Only.refl _ _).alloc _
  have N0 := Has.new w #[.int .i64 st.kind, .string st.table, .slice a2 st.defs.length c2, .int .i64 st.pk, .slice a4 st.lits.length c4, .bool st.star, .slice a6 st.list.length c6, .slice a7 st.sets.length c7, .slice a8 st.wh.length c8, .string st.order, .bool st.desc, .bool st.hasL, .int .i64 st.lim] 173
  have N1 := Has.new' (w.alloc (.cells #[.int .i64 st.kind, .string st.table, .slice a2 st.defs.length c2, .int .i64 st.pk, .slice a4 st.lits.length c4, .bool st.star, .slice a6 st.list.length c6, .slice a7 st.sets.length c7, .slice a8 st.wh.length c8, .string st.order, .bool st.desc, .bool st.hasL, .int .i64 st.lim] 173)) #[.int .i64 0, .int .i64 0, .slice none 0 0, .slice none 0 0] 52 (w.heap.size + 1) (by simp)
  have oA := o0.trans o1 (fun _ _ e => e)
  have HA := hide (show Has ((w.alloc (.cells #[.int .i64 st.kind, .string st.table, .slice a2 st.defs.length c2, .int .i64 st.pk, .slice a4 st.lits.length c4, .bool st.star, .slice a6 st.list.length c6, .slice a7 st.sets.length c7, .slice a8 st.wh.length c8, .string st.order, .bool st.desc, .bool st.hasL, .int .i64 st.lim] 173)).alloc (.cells #[.int .i64 0, .int .i64 0, .slice none 0 0, .slice none 0 0] 52)) w.heap.size #[.int .i64 st.kind, .string st.table, .slice a2 st.defs.length c2, .int .i64 st.pk, .slice a4 st.lits.length c4, .bool st.star, .slice a6 st.list.length c6, .slice a7 st.sets.length c7, .slice a8 st.wh.length c8, .string st.order, .bool st.desc, .bool st.hasL, .int .i64 st.lim] 173 ∧ Has ((w.alloc (.cells #[.int .i64 st.kind, .string st.table, .slice a2 st.defs.length c2, .int .i64 st.pk, .slice a4 st.lits.length c4, .bool st.star, .slice a6 st.list.length c6, .slice a7 st.sets.length c7, .slice a8 st.wh.length c8, .string st.order, .bool st.desc, .bool st.hasL, .int .i64 st.lim] 173)).alloc (.cells #[.int .i64 0, .int .i64 0, .slice none 0 0, .slice none 0 0] 52)) (w.heap.size + 1) #[.int .i64 0, .int .i64 0, .slice none 0 0, .slice none 0 0] 52 ∧ QR q ((w.alloc (.cells #[.int .i64 st.kind, .string st.table, .slice a2 st.defs.length c2, .int .i64 st.pk, .slice a4 st.lits.length c4, .bool st.star, .slice a6 st.list.length c6, .slice a7 st.sets.length c7, .slice a8 st.wh.length c8, .string st.order, .bool st.desc, .bool st.hasL, .int .i64 st.lim] 173)).alloc (.cells #[.int .i64 0, .int .i64 0, .slice none 0 0, .slice none 0 0] 52)) k g x M K last ∧ OwnV ((w.alloc (.cells #[.int .i64 st.kind, .string st.table, .slice a2 st.defs.length c2, .int .i64 st.pk, .slice a4 st.lits.length c4, .bool st.star, .slice a6 st.list.length c6, .slice a7 st.sets.length c7, .slice a8 st.wh.length c8, .string st.order, .bool st.desc, .bool st.hasL, .int .i64 st.lim] 173)).alloc (.cells #[.int .i64 0, .int .i64 0, .slice none 0 0, .slice none 0 0] 52)) (.slice a4 st.lits.length c4) st.lits ∧ Only (fun _ => False) w ((w.alloc (.cells #[.int .i64 st.kind, .string st.table, .slice a2 st.defs.length c2, .int .i64 st.pk, .slice a4 st.lits.length c4, .bool st.star, .slice a6 st.list.length c6, .slice a7 st.sets.length c7, .slice a8 st.wh.length c8, .string st.order, .bool st.desc, .bool st.hasL, .int .i64 st.lim] 173)).alloc (.cells #[.int .i64 0, .int .i64 0, .slice none 0 0, .slice none 0 0] 52)) from ⟨N0.keep o1 (fun e => e), N1, R.quiet oA, x4.keep oA (fun _ _ e => e), oA⟩)
  have HAP := hide (And.intro hlo (And.intro hap (And.intro R.lts p4)))
  have HOK := hide (And.intro hok.lits (And.intro hB.lits hk))
  clear o0 o1 N0 N1 oA hS hcs x2 x4 x6 x7 x8 p2 p4 p6 p7 p8 R hok hB hlo hap
  have b7 : (st.kind == 7) = true := by simp [hk]
  clear hk
  obtain ⟨RR, hRR⟩ : ∃ r, runQ M s st = r := ⟨_, rfl⟩
  have HRR := hide hRR
  rw [hRR]
  clear hRR
  go_enter Tryz.func113, Tryz.ntmps113
  go_upto_region 1 with fail
  generalize (w.alloc (.cells #[.int .i64 st.kind, .string st.table, .slice a2 st.defs.length c2, .int .i64 st.pk, .slice a4 st.lits.length c4, .bool st.star, .slice a6 st.list.length c6, .slice a7 st.sets.length c7, .slice a8 st.wh.length c8, .string st.order, .bool st.desc, .bool st.hasL, .int .i64 st.lim] 173)).alloc (.cells #[.int .i64 0, .int .i64 0, .slice none 0 0, .slice none 0 0] 52) = w1 at *
  generalize hH : w.heap.size = H at *
  have t0 : w1.cell? ⟨H, 0, none⟩ = some (.int .i64 st.kind) := (unhide HA).1.cell 0
  have t1 : w1.cell? ⟨H, 1, none⟩ = some (.string st.table) := (unhide HA).1.cell 1
  have t4 : w1.cell? ⟨H, 4, none⟩ = some (.slice a4 st.lits.length c4) := (unhide HA).1.cell 4
  have tl := (unhide HA).1.lt
  have e0 : w1.cell? ⟨k, 0, none⟩ = some (.pointer (some ⟨g, 0, none⟩)) := (unhide HA).2.2.1.has.cell 0
  have kl := (unhide HA).2.2.1.has.lt
  have nk := hide (unhide HA).2.2.1.kSK
  have nT := hide ((unhide HAP).2.1 H (by have := (unhide HAP).1; omega)).SK
  have oD4 : Only (fun _ => False) w1 w1.drew := (Only.refl _ w1).drew
  have CI := qins_any (s := s) ((unhide HA).2.2.1.quiet oD4).rx (unhide HOK).2.2 ((unhide HA).2.2.2.1.keep oD4 (fun _ _ e => e)) (fun b hb => ((unhide HAP).2.2.2 b hb).S) (unhide HOK).2.1 (unhide HOK).1
  rw [unhide HRR] at CI
  have CI := hide CI
  clear oD4
  go_upto_region 2 with fail
  refine wp_region_held_drew (S := (fun w' => w'.cell? ⟨k, 0, none⟩ = some (.pointer (some ⟨g, 0, none⟩)) ∧ w'.cell? ⟨H, 1, none⟩ = some (.string st.table) ∧ w'.cell? ⟨H, 4, none⟩ = some (.slice a4 st.lits.length c4))) (by kernel_rfl) ⟨e0, t1, t4⟩ (fun hH0 => ?_)
  refine takeH 0 14 (v := ?vin1) rfl rfl (by kernel_rfl) (by kernel_rfl) (by kernel_rfl) (fun _ _ _ h => h) (Or.inl ⟨by rfl, ?hin1⟩) hH0 ?rin1
  case hin1 => (intro w hSw; clear hSw; go_simp; (try with_reducible rfl))
  case rin1 =>
  try simp only [Act.put, List.setIfInBounds_toArray, List.set_cons_zero, List.set_cons_succ]
  refine takeH 1 15 (v := ?vin2) rfl rfl (by kernel_rfl) (by kernel_rfl) (by kernel_rfl) (fun _ _ _ h => h) (Or.inl ⟨by rfl, ?hin2⟩) hH0 ?rin2
  case hin2 => (intro w hSw; clear hSw; go_simp; (try with_reducible rfl))
  case rin2 =>
  try simp only [Act.put, List.setIfInBounds_toArray, List.set_cons_zero, List.set_cons_succ]
  refine takeH 2 16 (v := ?vin3) rfl rfl (by kernel_rfl) (by kernel_rfl) (by kernel_rfl) (fun _ _ _ h => h) (Or.inl ⟨by rfl, ?hin3⟩) hH0 ?rin3
  case hin3 => (intro w hSw; clear hSw; go_simp; (try with_reducible rfl))
  case rin3 =>
  try simp only [Act.put, List.setIfInBounds_toArray, List.set_cons_zero, List.set_cons_succ]
  refine takeH 3 17 (v := ?vin4) rfl rfl (by kernel_rfl) (by kernel_rfl) (by kernel_rfl) (fun _ _ _ h => h) (Or.inl ⟨by rfl, ?hin4⟩) hH0 ?rin4
  case hin4 => (intro w hSw; obtain ⟨s0, s1, s2⟩ := hSw; go_simp; (try with_reducible rfl))
  case rin4 =>
  try simp only [Act.put, List.setIfInBounds_toArray, List.set_cons_zero, List.set_cons_succ]
  refine takeH 4 18 (v := ?vin5) rfl rfl (by kernel_rfl) (by kernel_rfl) (by kernel_rfl) (fun _ _ _ h => h) (Or.inl ⟨by rfl, ?hin5⟩) hH0 ?rin5
  case hin5 => (intro w hSw; clear hSw; go_simp; (try with_reducible rfl))
  case rin5 =>
  try simp only [Act.put, List.setIfInBounds_toArray, List.set_cons_zero, List.set_cons_succ]
  refine takeH 5 19 (v := ?vin6) rfl rfl (by kernel_rfl) (by kernel_rfl) (by kernel_rfl) (fun _ _ _ h => h) (Or.inl ⟨by rfl, ?hin6⟩) hH0 ?rin6
  case hin6 => (intro w hSw; clear hSw; go_simp; (try with_reducible rfl))
  case rin6 =>
  try simp only [Act.put, List.setIfInBounds_toArray, List.set_cons_zero, List.set_cons_succ]
  refine takeH 6 20 (v := ?vin7) rfl rfl (by kernel_rfl) (by kernel_rfl) (by kernel_rfl) (fun _ _ _ h => h) (Or.inl ⟨by rfl, ?hin7⟩) hH0 ?rin7
  case hin7 => (intro w hSw; obtain ⟨s0, s1, s2⟩ := hSw; go_simp; (try with_reducible rfl))
  case rin7 =>
  try simp only [Act.put, List.setIfInBounds_toArray, List.set_cons_zero, List.set_cons_succ]
  refine takeH 7 21 (v := ?vin8) rfl rfl (by kernel_rfl) (by kernel_rfl) (by kernel_rfl) (fun _ _ _ h => h) (Or.inl ⟨by rfl, ?hin8⟩) hH0 ?rin8
  case hin8 => (intro w hSw; clear hSw; go_simp; (try with_reducible rfl))
  case rin8 =>
  try simp only [Act.put, List.setIfInBounds_toArray, List.set_cons_zero, List.set_cons_succ]
  refine takeH 8 22 (v := ?vin9) rfl rfl (by kernel_rfl) (by kernel_rfl) (by kernel_rfl) (fun _ _ _ h => h) (Or.inl ⟨by rfl, ?hin9⟩) hH0 ?rin9
  case hin9 => (intro w hSw; obtain ⟨s0, s1, s2⟩ := hSw; go_simp; (try with_reducible rfl))
  case rin9 =>
  try simp only [Act.put, List.setIfInBounds_toArray, List.set_cons_zero, List.set_cons_succ]
  refine callH 9 (by kernel_rfl) rfl 23 rfl rfl 170 Tryz.func170 (by kernel_rfl) (by kernel_rfl) #[.tmp 17, .tmp 18, .tmp 20, .tmp 22] #[28, 3, 9, 95] rfl #[.pointer (some ⟨g, 0, none⟩), .int .i64 s, .string st.table, .slice a4 st.lits.length c4] (by simp [Act.eval]) (R := fun v w' => v = .int .i64 RR.2.e ∧ Rp q w1.drew g x RR.1 K w' ∧ Only (fun b => q.S b ∨ K b) w1.drew w') (unhide CI) ?kin
  case kin =>
  rintro _ w6 ⟨rfl, hrp, o6⟩
  have S6 : w6.cell? ⟨k, 0, none⟩ = some (.pointer (some ⟨g, 0, none⟩)) ∧ w6.cell? ⟨H, 1, none⟩ = some (.string st.table) ∧ w6.cell? ⟨H, 4, none⟩ = some (.slice a4 st.lits.length c4) := ⟨cell_keep (hH0.1) o6 (unhide nk), cell_keep (hH0.2.1) o6 (unhide nT), cell_keep (hH0.2.2) o6 (unhide nT)⟩
  refine ⟨S6, ?_⟩
  try simp only [Act.put, List.setIfInBounds_toArray, List.set_cons_zero, List.set_cons_succ]
  refine takeH 10 7 (v := ?vin10) rfl rfl (by kernel_rfl) (by kernel_rfl) (by kernel_rfl) (fun _ _ _ h => h) (Or.inl ⟨by rfl, ?hin10⟩) S6 ?rin10
  case hin10 => (intro w hSw; clear hSw; go_simp; (try with_reducible rfl))
  case rin10 =>
  try simp only [Act.put, List.setIfInBounds_toArray, List.set_cons_zero, List.set_cons_succ]
  refine wpAnyH_done (by kernel_rfl) ?_ _
  have oD : Only (fun b => q.S b ∨ K b) w1 w6 := (Only.refl (fun b => q.S b ∨ K b) w1).drew.trans o6 (fun _ _ e => e)
  clear hH0 S6
  obtain ⟨K', r, hk', _⟩ := hrp
  have hdz : w1.drew.heap.size = w1.heap.size := rfl
  have h2 := (unhide HA).2.1.lt
  have RB6 := (unhide HA).2.1.keep oD ((unhide HAP).2.1 (H + 1) (by have := (unhide HAP).1; omega)).SK
  have Q6 : QR q w6 k g x RR.1 K' last := (unhide HA).2.2.1.turn r oD (unhide nk) (fun b hb => (hk' b hb).imp id (fun h => by omega))
  have hfin : ∀ w9, Only (fun b => b = H + 1) w6 w9 → QR q w9 k g x RR.1 K' last ∧ (∀ b, K' b → K b ∨ w.heap.size ≤ b) ∧ (∀ b, lo ≤ b → K' b → w.heap.size ≤ b) ∧ Only (fun b => q.S b ∨ K b ∨ b = k ∨ (S.cell 6).ownBlock = some b) w w9 := fun w9 o9 => by
    have hm := (unhide HAP).2.2.1
    have hl := (unhide HAP).1
    have hKw : ∀ b, K' b → K b ∨ H + 2 ≤ b := fun b hb => (hk' b hb).imp id (fun h => by omega)
    refine ⟨Q6.keep o9 (fun b hb (e : b = H + 1) => ?_), fun b hb => (hKw b hb).imp id (fun h => by omega), fun b hb hc => (hKw b hc).elim (fun c => absurd c ((unhide HAP).2.1 b hb).2.2.1) (fun h => by omega), ?_⟩
    · subst e
      rcases hb with c | c | c | c
      · have := hm.1 _ c; omega
      · have := hm.2.1; omega
      · exact (hKw _ c).elim (fun c => by have := hm.2.2.1 _ c; omega) (fun c => by omega)
      · have := hm.2.2.2; omega
    · exact (((unhide HA).2.2.2.2.mono (fun _ _ e => e.elim)).trans (oD.mono (T := fun b => q.S b ∨ K b ∨ b = k ∨ (S.cell 6).ownBlock = some b) (fun _ _ e => e.imp id .inl)) (fun _ _ e => e)).lateS o9 (fun b (e : b = H + 1) => by omega)
  have HFIN := hide hfin
  have HRB := hide RB6
  clear hfin r hk' Q6 oD o6 CI e0 t0 t1 t4 tl kl RB6 HA
  have hcs := runQ_ins (M := M) (s := s) (unhide HOK).2.2
  rw [unhide HRR] at hcs
  obtain ⟨R1, R2⟩ := RR
  simp only at hcs
  obtain ⟨z, hz⟩ : ∃ z, R2.e = z := ⟨_, rfl⟩
  have Hz := hide hz
  by_cases h0 : z = 0
  · have hR2 : R2 = Rs.cnt 1 := by
      have hq := unhide HRR
      have h7 := (unhide HOK).2.2
      unfold runQ at hq
      rw [if_pos h7] at hq
      split at hq
      · next hne => have h2 := congrArg (fun p : Mu × Rs => p.2.e) hq; simp only [Rs.err] at h2; exact absurd (h2.trans (hz.trans h0)) hne
      · have h2 := congrArg (fun p : Mu × Rs => p.2) hq; simp only at h2; by_cases c : (insD (M.see s.toNat) st.table st.lits).2 = 0
        · rw [if_pos c] at h2; exact h2.symm
        · rw [if_neg c] at h2; have h3 := congrArg (fun r : Rs => r.e) h2; exact absurd (h3.trans (hz.trans h0)) c
    rw [hz, h0]
    have HR2 := hide hR2
    clear hcs hz hR2 h0
    have r0 : w6.cell? ⟨H + 1, 0, none⟩ = some (.int .i64 0) := (unhide HRB).cell 0
    have r1 : w6.cell? ⟨H + 1, 1, none⟩ = some (.int .i64 0) := (unhide HRB).cell 1
    have r2 : w6.cell? ⟨H + 1, 2, none⟩ = some (.slice none 0 0) := (unhide HRB).cell 2
    have r3 : w6.cell? ⟨H + 1, 3, none⟩ = some (.slice none 0 0) := (unhide HRB).cell 3
    have rf0 := (unhide HRB).free 0
    have rf1 := (unhide HRB).free 1
    have rf2 := (unhide HRB).free 2
    have rf3 := (unhide HRB).free 3
    have rl := (unhide HRB).lt
    have H5 := has_setAll [.int .i64 0, .int .i64 1, .slice none 0 0, .slice none 0 0] (unhide HRB) rfl
    have O5 := only_setW (H + 1) [.int .i64 0, .int .i64 1, .slice none 0 0, .slice none 0 0] 0 w6
    have FF := hide (And.intro H5 (show RnP q w k g x lo (S.cell 6) K (R1, R2) last (.returned (.agg #[.int .i64 0, .int .i64 1, .slice none 0 0, .slice none 0 0])) (setW (H + 1) [.int .i64 0, .int .i64 1, .slice none 0 0, .slice none 0 0] 0 w6) from (by
      have f := unhide HFIN _ O5
      refine ⟨none, 0, 0, none, 0, 0, K', ?_, RsM.none_ (by rw [unhide HR2]; rfl) (by rw [unhide HR2]; rfl), (fun b hb => by cases hb), f.1, f.2.1, f.2.2.1, .inl ⟨rfl, rfl⟩, f.2.2.2⟩
      rw [unhide HR2]
      rfl)))
    simp only [setW, Nat.zero_add, Nat.reduceAdd] at FF
    clear H5 O5
    go_wp2_with fail
    refine bodyPost_ret (sres_result rfl _ rfl (unhide FF).1 rfl) rfl ?_
    exact (unhide FF).2
  · have hR2 : R2 = Rs.err z := hcs.elim (fun c => by rw [hz] at c; exact c) (fun c => absurd (hz.symm.trans c.1) h0)
    have bz : (z != 0) = true := by simpa using h0
    rw [hz]
    have HR2 := hide hR2
    clear hcs hz hR2 h0
    have CF := hide (sqfailE_any z w6)
    go_wp2_with fail
    refine (unhide CF).mono ?_
    rintro e w7 ⟨rfl, o7⟩
    have RB7 := (unhide HRB).keep o7 (fun e => e)
    have HO7 := hide o7
    have r0 : w7.cell? ⟨H + 1, 0, none⟩ = some (.int .i64 0) := RB7.cell 0
    have r1 : w7.cell? ⟨H + 1, 1, none⟩ = some (.int .i64 0) := RB7.cell 1
    have r2 : w7.cell? ⟨H + 1, 2, none⟩ = some (.slice none 0 0) := RB7.cell 2
    have r3 : w7.cell? ⟨H + 1, 3, none⟩ = some (.slice none 0 0) := RB7.cell 3
    have rf0 := RB7.free 0
    have rf1 := RB7.free 1
    have rf2 := RB7.free 2
    have rf3 := RB7.free 3
    have rl := RB7.lt
    have H5 := has_setAll [.int .i64 z, .int .i64 0, .slice none 0 0, .slice none 0 0] RB7 rfl
    have O5 := only_setW (H + 1) [.int .i64 z, .int .i64 0, .slice none 0 0, .slice none 0 0] 0 w7
    have FF := hide (And.intro H5 (show RnP q w k g x lo (S.cell 6) K (R1, R2) last (.returned (.agg #[.int .i64 z, .int .i64 0, .slice none 0 0, .slice none 0 0])) (setW (H + 1) [.int .i64 z, .int .i64 0, .slice none 0 0, .slice none 0 0] 0 w7) from (by
      have f := unhide HFIN _ (((unhide HO7).mono (fun _ _ e => e.elim)).trans O5 (fun _ _ e => e))
      refine ⟨none, 0, 0, none, 0, 0, K', ?_, RsM.none_ (by rw [unhide HR2]; rfl) (by rw [unhide HR2]; rfl), (fun b hb => by cases hb), f.1, f.2.1, f.2.2.1, .inl ⟨rfl, rfl⟩, f.2.2.2⟩
      rw [unhide HR2]
      rfl)))
    simp only [setW, Nat.zero_add, Nat.reduceAdd] at FF
    clear H5 O5
    clear CF o7 RB7
    go_wp2_with fail
    refine bodyPost_ret (sres_result rfl _ rfl (unhide FF).1 rfl) rfl ?_
    exact (unhide FF).2
end
end Go.Proofs.Qxb6500412aGreat
