/-
  OWN WORK. THE TABLE LAW: KeptStep of the reading kinds (written by tools/gen_jk3.py).
-/
import Derived.Test.Qxb6500413aGreatJK2
namespace Go.Proofs.Qxb6500413aGreat
open Go.RowKit Go.PlainAid
set_option linter.unusedSimpArgs false
set_option linter.unusedVariables false

section
variable {lo : Nat} {w w' wB : World} {q : Gnd} {x g : Nat} {op : Bool} {S C : Vu} {T TC : List (Tb × Hd)} {cv mv : Value} {cl ml : List GE}
set_option maxRecDepth 100000 in
set_option maxHeartbeats 8000000 in
theorem jks10 (J : TJ lo w q x g op S C T TC cv mv cl ml) (a bb cc : Int) (s t : ByteArray) (ht : t.size ≤ maxLen) : Calls Tryz.prog 15 #[.pointer (some ⟨x, 0, none⟩), .pointer (some ⟨g, 0, none⟩), opA 10 a bb cc s t] w (TsP lo w q x g TC cv cl) := by
  have oB : Only (fun _ => False) w (w.alloc (.cells (opB 10 a bb cc s t) 41)) := (Only.refl _ w).alloc _
  have AB : Has (w.alloc (.cells (opB 10 a bb cc s t) 41)) w.heap.size (opB 10 a bb cc s t) 41 := Has.new w _ _
  unfold opB at oB AB
  have J1 := J.quiet oB
  have a0 := AB.cell 0
  have a4 := AB.cell 4
  have a5 := AB.cell 5
  simp at a0 a4 a5
  have nB : ¬ q.A w.heap.size := fun h => by have := J.st.fv.Alt _ h; omega
  have HNB := hide (show ¬ q.S w.heap.size from fun h => nB (Gnd.S_A h))
  have CF := hide (eFirst_any t ht (w.alloc (.cells #[.int .i64 10, .int .i64 a, .int .i64 bb, .int .i64 cc, .string s, .string t] 41)))
  have HW := hide (fstP_wf t)
  have HO := hide oB
  have HAB := hide AB
  have HJ0 := hide J1
  unfold opA
  clear J J1 oB AB nB
  go_enter Tryz.func15, Tryz.ntmps15
  go_wp2_with fail
  refine (unhide CF).mono ?_
  rintro e w2 ⟨rfl, o2⟩
  generalize w.alloc (.cells #[.int .i64 10, .int .i64 a, .int .i64 bb, .int .i64 cc, .string s, .string t] 41) = w1 at *
  generalize w.heap.size = kb at *
  unfold vlA
  generalize fstP t = key at *
  have o3 : Only (fun _ => False) w2 (w2.alloc (.cells #[.bool key.str, .int .i64 key.i, .string key.s] 72)) := (Only.refl _ w2).alloc _
  have A3 : Has (w2.alloc (.cells #[.bool key.str, .int .i64 key.i, .string key.s] 72)) w2.heap.size #[.bool key.str, .int .i64 key.i, .string key.s] 72 := Has.new w2 _ _
  have o13 := o2.trans o3 (fun _ _ e => e)
  have J3 := (unhide HJ0).quiet o13
  have HNK := hide (show ¬ q.S w2.heap.size from fun h => by have := ((unhide HJ0).quiet o2).st.fv.Alt _ (Gnd.S_A h); omega)
  have HO := hide ((unhide HO).trans o13 (fun _ _ e => e))
  have HAB := hide ((unhide HAB).keep o13 (fun e => e))
  have HA3 := hide A3
  have HJ := hide J3
  clear o2 o3 o13 A3 J3 a0 a4 a5 CF HJ0
  go_upto_region 8 with fail
  generalize w2.alloc (.cells #[.bool key.str, .int .i64 key.i, .string key.s] 72) = w3 at *
  generalize w2.heap.size = vb at *
  have a4 := (unhide HAB).cell 4
  have k0 := (unhide HA3).cell 0
  have k1 := (unhide HA3).cell 1
  have k2 := (unhide HA3).cell 2
  have c0 := (unhide HJ).gh.has.cell 0
  simp at a4 k0 k1 k2 c0
  have CK := jkeptLookup_any ((unhide HJ).st.quiet ((Only.refl (fun _ => False) w3).drew)) (unhide HJ).la ((unhide HJ).gh.cur.quiet ((Only.refl (fun _ => False) w3).drew)) (unhide HJ).sepC s key (unhide HW)
  obtain ⟨va, vc, hvs⟩ := (unhide HJ).gh.cur.shape
  rw [hvs] at c0 CK
  unfold vlA at CK
  have CK := hide CK
  clear hvs
  refine wp_region_held_drew (S := (fun w' => w'.cell? ⟨g, 0, none⟩ = some (.slice va cl.length vc) ∧ w'.cell? ⟨kb, 4, none⟩ = some (.string s) ∧ w'.cell? ⟨vb, 0, none⟩ = some (.bool key.str) ∧ w'.cell? ⟨vb, 1, none⟩ = some (.int .i64 key.i) ∧ w'.cell? ⟨vb, 2, none⟩ = some (.string key.s))) (by kernel_rfl) ⟨c0, a4, k0, k1, k2⟩ (fun hH0 => ?_)
  refine takeH 0 36 (v := ?vk1) rfl rfl (by kernel_rfl) (by kernel_rfl) (by kernel_rfl) (fun _ _ _ h => h) (Or.inl ⟨by rfl, ?hk1⟩) hH0 ?rk1
  case hk1 => (intro w hSw; clear hSw; go_simp; (try with_reducible rfl))
  case rk1 =>
  try simp only [Act.put, List.setIfInBounds_toArray, List.set_cons_zero, List.set_cons_succ]
  refine takeH 1 37 (v := ?vk2) rfl rfl (by kernel_rfl) (by kernel_rfl) (by kernel_rfl) (fun _ _ _ h => h) (Or.inl ⟨by rfl, ?hk2⟩) hH0 ?rk2
  case hk2 => (intro w hSw; clear hSw; go_simp; (try with_reducible rfl))
  case rk2 =>
  try simp only [Act.put, List.setIfInBounds_toArray, List.set_cons_zero, List.set_cons_succ]
  refine takeH 2 38 (v := ?vk3) rfl rfl (by kernel_rfl) (by kernel_rfl) (by kernel_rfl) (fun _ _ _ h => h) (Or.inl ⟨by rfl, ?hk3⟩) hH0 ?rk3
  case hk3 => (intro w hSw; clear hSw; go_simp; (try with_reducible rfl))
  case rk3 =>
  try simp only [Act.put, List.setIfInBounds_toArray, List.set_cons_zero, List.set_cons_succ]
  refine takeH 3 39 (v := ?vk4) rfl rfl (by kernel_rfl) (by kernel_rfl) (by kernel_rfl) (fun _ _ _ h => h) (Or.inl ⟨by rfl, ?hk4⟩) hH0 ?rk4
  case hk4 => (intro w hSw; clear hSw; go_simp; (try with_reducible rfl))
  case rk4 =>
  try simp only [Act.put, List.setIfInBounds_toArray, List.set_cons_zero, List.set_cons_succ]
  refine takeH 4 40 (v := ?vk5) rfl rfl (by kernel_rfl) (by kernel_rfl) (by kernel_rfl) (fun _ _ _ h => h) (Or.inl ⟨by rfl, ?hk5⟩) hH0 ?rk5
  case hk5 => (intro w hSw; obtain ⟨s0, s1, s2, s3, s4⟩ := hSw; go_simp; (try with_reducible rfl))
  case rk5 =>
  try simp only [Act.put, List.setIfInBounds_toArray, List.set_cons_zero, List.set_cons_succ]
  refine takeH 5 41 (v := ?vk6) rfl rfl (by kernel_rfl) (by kernel_rfl) (by kernel_rfl) (fun _ _ _ h => h) (Or.inl ⟨by rfl, ?hk6⟩) hH0 ?rk6
  case hk6 => (intro w hSw; clear hSw; go_simp; (try with_reducible rfl))
  case rk6 =>
  try simp only [Act.put, List.setIfInBounds_toArray, List.set_cons_zero, List.set_cons_succ]
  refine takeH 6 42 (v := ?vk7) rfl rfl (by kernel_rfl) (by kernel_rfl) (by kernel_rfl) (fun _ _ _ h => h) (Or.inl ⟨by rfl, ?hk7⟩) hH0 ?rk7
  case hk7 => (intro w hSw; obtain ⟨s0, s1, s2, s3, s4⟩ := hSw; go_simp; (try with_reducible rfl))
  case rk7 =>
  try simp only [Act.put, List.setIfInBounds_toArray, List.set_cons_zero, List.set_cons_succ]
  refine takeH 7 43 (v := ?vk8) rfl rfl (by kernel_rfl) (by kernel_rfl) (by kernel_rfl) (fun _ _ _ h => h) (Or.inl ⟨by rfl, ?hk8⟩) hH0 ?rk8
  case hk8 => (intro w hSw; obtain ⟨s0, s1, s2, s3, s4⟩ := hSw; go_simp; (try with_reducible rfl))
  case rk8 =>
  try simp only [Act.put, List.setIfInBounds_toArray, List.set_cons_zero, List.set_cons_succ]
  refine callH 8 (by kernel_rfl) rfl 44 rfl rfl 38 Tryz.func38 (by kernel_rfl) (by kernel_rfl) #[.tmp 36, .tmp 40, .tmp 42, .tmp 43] #[32, 36, 9, 72] rfl #[.pointer (some ⟨x, 0, none⟩), .slice va cl.length vc, .string s, .agg #[.bool key.str, .int .i64 key.i, .string key.s]] (by simp [Act.eval]) (R := fun v w' => ∃ bk : Bool, v = .bool bk ∧ (GP (cl.map (·.t)) (dbOf T) → bk = true) ∧ ST q w' x op S ∧ Only q.S w3.drew w') ((unhide CK).mono (by rintro en w' ⟨bk, rfl, hb, hs, o⟩; exact ⟨_, rfl, bk, rfl, hb, hs, o⟩)) ?kk
  case kk =>
  rintro _ w6 ⟨bk, rfl, hb, hs, oq⟩
  have S6 : w6.cell? ⟨g, 0, none⟩ = some (.slice va cl.length vc) ∧ w6.cell? ⟨kb, 4, none⟩ = some (.string s) ∧ w6.cell? ⟨vb, 0, none⟩ = some (.bool key.str) ∧ w6.cell? ⟨vb, 1, none⟩ = some (.int .i64 key.i) ∧ w6.cell? ⟨vb, 2, none⟩ = some (.string key.s) := ⟨cell_keep (hH0.1) oq (fun h => (unhide HJ).sg.1 (Gnd.S_A h)), cell_keep (hH0.2.1) oq (unhide HNB), cell_keep (hH0.2.2.1) oq (unhide HNK), cell_keep (hH0.2.2.2.1) oq (unhide HNK), cell_keep (hH0.2.2.2.2) oq (unhide HNK)⟩
  refine ⟨S6, ?_⟩
  try simp only [Act.put, List.setIfInBounds_toArray, List.set_cons_zero, List.set_cons_succ]
  refine takeH 9 6 (v := ?vk9) rfl rfl (by kernel_rfl) (by kernel_rfl) (by kernel_rfl) (fun _ _ _ h => h) (Or.inl ⟨by rfl, ?hk9⟩) S6 ?rk9
  case hk9 => (intro w hSw; clear hSw; go_simp; (try with_reducible rfl))
  case rk9 =>
  try simp only [Act.put, List.setIfInBounds_toArray, List.set_cons_zero, List.set_cons_succ]
  refine wpAnyH_done (by kernel_rfl) ?_ _
  have HF := hide (And.intro hs ((((Only.refl (fun _ => False) w3).drew).mono (fun _ _ e => e.elim)).trans oq (fun _ _ e => e) : Only q.S w3 w6))
  clear hH0 S6 oq hs
  obtain rfl := hb (unhide HJ).gc
  have HP := hide (TsP.low (unhide HO) (TsP.stay (unhide HJ) (unhide HF).1 (unhide HF).2))
  clear hb
  go_wp2_with fail
  go_ret
  exact unhide HP
set_option maxRecDepth 100000 in
set_option maxHeartbeats 8000000 in
theorem jks12 (J : TJ lo w q x g op S C T TC cv mv cl ml) (a bb cc : Int) (s t : ByteArray) (ht : t.size ≤ maxLen) : Calls Tryz.prog 15 #[.pointer (some ⟨x, 0, none⟩), .pointer (some ⟨g, 0, none⟩), opA 12 a bb cc s t] w (TsP lo w q x g TC cv cl) := by
  have oB : Only (fun _ => False) w (w.alloc (.cells (opB 12 a bb cc s t) 41)) := (Only.refl _ w).alloc _
  have AB : Has (w.alloc (.cells (opB 12 a bb cc s t) 41)) w.heap.size (opB 12 a bb cc s t) 41 := Has.new w _ _
  unfold opB at oB AB
  have J1 := J.quiet oB
  have nB : ¬ q.A w.heap.size := fun h => by have := J.st.fv.Alt _ h; omega
  have HNB := hide (show ¬ q.S w.heap.size from fun h => nB (Gnd.S_A h))
  have HO := hide oB
  have HAB := hide AB
  have HJ := hide J1
  have a0 := AB.cell 0
  simp at a0
  unfold opA
  clear J J1 oB AB nB
  go_enter Tryz.func15, Tryz.ntmps15
  go_upto_region 14 with fail
  generalize w.alloc (.cells #[.int .i64 12, .int .i64 a, .int .i64 bb, .int .i64 cc, .string s, .string t] 41) = w3 at *
  generalize w.heap.size = kb at *
  have a4 := (unhide HAB).cell 4
  have c0 := (unhide HJ).gh.has.cell 0
  simp at a4 c0
  have CK := jkeptSchema_any ((unhide HJ).st.quiet ((Only.refl (fun _ => False) w3).drew)) (unhide HJ).la ((unhide HJ).gh.cur.quiet ((Only.refl (fun _ => False) w3).drew)) (unhide HJ).sepC s
  obtain ⟨va, vc, hvs⟩ := (unhide HJ).gh.cur.shape
  rw [hvs] at c0 CK
  have CK := hide CK
  clear hvs
  refine wp_region_held_drew (S := (fun w' => w'.cell? ⟨g, 0, none⟩ = some (.slice va cl.length vc) ∧ w'.cell? ⟨kb, 4, none⟩ = some (.string s))) (by kernel_rfl) ⟨c0, a4⟩ (fun hH0 => ?_)
  refine takeH 0 77 (v := ?vk1) rfl rfl (by kernel_rfl) (by kernel_rfl) (by kernel_rfl) (fun _ _ _ h => h) (Or.inl ⟨by rfl, ?hk1⟩) hH0 ?rk1
  case hk1 => (intro w hSw; clear hSw; go_simp; (try with_reducible rfl))
  case rk1 =>
  try simp only [Act.put, List.setIfInBounds_toArray, List.set_cons_zero, List.set_cons_succ]
  refine takeH 1 78 (v := ?vk2) rfl rfl (by kernel_rfl) (by kernel_rfl) (by kernel_rfl) (fun _ _ _ h => h) (Or.inl ⟨by rfl, ?hk2⟩) hH0 ?rk2
  case hk2 => (intro w hSw; clear hSw; go_simp; (try with_reducible rfl))
  case rk2 =>
  try simp only [Act.put, List.setIfInBounds_toArray, List.set_cons_zero, List.set_cons_succ]
  refine takeH 2 79 (v := ?vk3) rfl rfl (by kernel_rfl) (by kernel_rfl) (by kernel_rfl) (fun _ _ _ h => h) (Or.inl ⟨by rfl, ?hk3⟩) hH0 ?rk3
  case hk3 => (intro w hSw; clear hSw; go_simp; (try with_reducible rfl))
  case rk3 =>
  try simp only [Act.put, List.setIfInBounds_toArray, List.set_cons_zero, List.set_cons_succ]
  refine takeH 3 80 (v := ?vk4) rfl rfl (by kernel_rfl) (by kernel_rfl) (by kernel_rfl) (fun _ _ _ h => h) (Or.inl ⟨by rfl, ?hk4⟩) hH0 ?rk4
  case hk4 => (intro w hSw; clear hSw; go_simp; (try with_reducible rfl))
  case rk4 =>
  try simp only [Act.put, List.setIfInBounds_toArray, List.set_cons_zero, List.set_cons_succ]
  refine takeH 4 81 (v := ?vk5) rfl rfl (by kernel_rfl) (by kernel_rfl) (by kernel_rfl) (fun _ _ _ h => h) (Or.inl ⟨by rfl, ?hk5⟩) hH0 ?rk5
  case hk5 => (intro w hSw; obtain ⟨s0, s1⟩ := hSw; go_simp; (try with_reducible rfl))
  case rk5 =>
  try simp only [Act.put, List.setIfInBounds_toArray, List.set_cons_zero, List.set_cons_succ]
  refine takeH 5 82 (v := ?vk6) rfl rfl (by kernel_rfl) (by kernel_rfl) (by kernel_rfl) (fun _ _ _ h => h) (Or.inl ⟨by rfl, ?hk6⟩) hH0 ?rk6
  case hk6 => (intro w hSw; clear hSw; go_simp; (try with_reducible rfl))
  case rk6 =>
  try simp only [Act.put, List.setIfInBounds_toArray, List.set_cons_zero, List.set_cons_succ]
  refine takeH 6 83 (v := ?vk7) rfl rfl (by kernel_rfl) (by kernel_rfl) (by kernel_rfl) (fun _ _ _ h => h) (Or.inl ⟨by rfl, ?hk7⟩) hH0 ?rk7
  case hk7 => (intro w hSw; obtain ⟨s0, s1⟩ := hSw; go_simp; (try with_reducible rfl))
  case rk7 =>
  try simp only [Act.put, List.setIfInBounds_toArray, List.set_cons_zero, List.set_cons_succ]
  refine callH 7 (by kernel_rfl) rfl 84 rfl rfl 36 Tryz.func36 (by kernel_rfl) (by kernel_rfl) #[.tmp 77, .tmp 81, .tmp 83] #[32, 36, 9] rfl #[.pointer (some ⟨x, 0, none⟩), .slice va cl.length vc, .string s] (by simp [Act.eval]) (R := fun v w' => ∃ bk : Bool, v = .bool bk ∧ (GP (cl.map (·.t)) (dbOf T) → bk = true) ∧ ST q w' x op S ∧ Only q.S w3.drew w') ((unhide CK).mono (by rintro en w' ⟨bk, rfl, hb, hs, o⟩; exact ⟨_, rfl, bk, rfl, hb.1, hs, o⟩)) ?kk
  case kk =>
  rintro _ w6 ⟨bk, rfl, hb, hs, oq⟩
  have S6 : w6.cell? ⟨g, 0, none⟩ = some (.slice va cl.length vc) ∧ w6.cell? ⟨kb, 4, none⟩ = some (.string s) := ⟨cell_keep (hH0.1) oq (fun h => (unhide HJ).sg.1 (Gnd.S_A h)), cell_keep (hH0.2) oq (unhide HNB)⟩
  refine ⟨S6, ?_⟩
  try simp only [Act.put, List.setIfInBounds_toArray, List.set_cons_zero, List.set_cons_succ]
  refine takeH 8 6 (v := ?vk8) rfl rfl (by kernel_rfl) (by kernel_rfl) (by kernel_rfl) (fun _ _ _ h => h) (Or.inl ⟨by rfl, ?hk8⟩) S6 ?rk8
  case hk8 => (intro w hSw; clear hSw; go_simp; (try with_reducible rfl))
  case rk8 =>
  try simp only [Act.put, List.setIfInBounds_toArray, List.set_cons_zero, List.set_cons_succ]
  refine wpAnyH_done (by kernel_rfl) ?_ _
  have HF := hide (And.intro hs ((((Only.refl (fun _ => False) w3).drew).mono (fun _ _ e => e.elim)).trans oq (fun _ _ e => e) : Only q.S w3 w6))
  clear hH0 S6 oq hs
  obtain rfl := hb (unhide HJ).gc
  have HP := hide (TsP.low (unhide HO) (TsP.stay (unhide HJ) (unhide HF).1 (unhide HF).2))
  clear hb
  go_wp2_with fail
  go_ret
  exact unhide HP
set_option maxRecDepth 100000 in
set_option maxHeartbeats 8000000 in
theorem jks14 (J : TJ lo w q x g op S C T TC cv mv cl ml) (a bb cc : Int) (s t : ByteArray) (ht : t.size ≤ maxLen) : Calls Tryz.prog 15 #[.pointer (some ⟨x, 0, none⟩), .pointer (some ⟨g, 0, none⟩), opA 14 a bb cc s t] w (TsP lo w q x g TC cv cl) := by
  have oB : Only (fun _ => False) w (w.alloc (.cells (opB 14 a bb cc s t) 41)) := (Only.refl _ w).alloc _
  have AB : Has (w.alloc (.cells (opB 14 a bb cc s t) 41)) w.heap.size (opB 14 a bb cc s t) 41 := Has.new w _ _
  unfold opB at oB AB
  have J1 := J.quiet oB
  have HO := hide oB
  have HAB := hide AB
  have HJ := hide J1
  have c0 := J1.gh.has.cell 0
  simp at c0
  have CK := jkeptNames_any J1.st J1.la J1.gh.cur J1.sepC
  obtain ⟨va, vc, hvs⟩ := J1.gh.cur.shape
  rw [hvs] at c0 CK
  have CK := hide CK
  have a0 := AB.cell 0
  simp at a0
  unfold opA
  clear J J1 oB AB hvs
  go_enter Tryz.func15, Tryz.ntmps15
  go_wp2_with fail
  refine (unhide CK).mono ?_
  rintro e w6 ⟨bk, rfl, hb, hs, oq⟩
  have HF := hide (And.intro hs oq)
  have hb := fun (P : GP (cl.map (·.t)) (dbOf T)) => hb.mpr P.1
  clear hs oq CK
  obtain rfl := hb (unhide HJ).gc
  have HP := hide (TsP.low (unhide HO) (TsP.stay (unhide HJ) (unhide HF).1 (unhide HF).2))
  clear hb
  go_wp2_with fail
  go_ret
  exact unhide HP
set_option maxRecDepth 100000 in
set_option maxHeartbeats 8000000 in
theorem jks15 (J : TJ lo w q x g op S C T TC cv mv cl ml) (a bb cc : Int) (s t : ByteArray) (ht : t.size ≤ maxLen) : Calls Tryz.prog 15 #[.pointer (some ⟨x, 0, none⟩), .pointer (some ⟨g, 0, none⟩), opA 15 a bb cc s t] w (TsP lo w q x g TC cv cl) := by
  have oB : Only (fun _ => False) w (w.alloc (.cells (opB 15 a bb cc s t) 41)) := (Only.refl _ w).alloc _
  have AB : Has (w.alloc (.cells (opB 15 a bb cc s t) 41)) w.heap.size (opB 15 a bb cc s t) 41 := Has.new w _ _
  unfold opB at oB AB
  have J1 := J.quiet oB
  have HO := hide oB
  have HJ := hide J1
  have CK := hide (echeck_any J1.st J1.la)
  have a0 := AB.cell 0
  simp at a0
  unfold opA
  clear J J1 oB AB
  go_enter Tryz.func15, Tryz.ntmps15
  go_wp2_with fail
  refine (unhide CK).mono ?_
  rintro e w6 ⟨rfl, hs, oq⟩
  have HP := hide (TsP.low (unhide HO) (TsP.stay (unhide HJ) hs oq))
  clear hs oq CK
  go_wp2_with fail
  go_ret
  exact unhide HP
set_option maxRecDepth 100000 in
set_option maxHeartbeats 8000000 in
theorem jks13 (J : TJ lo w q x g op S C T TC cv mv cl ml) (a bb cc : Int) (s t : ByteArray) (ht : t.size ≤ maxLen) : Calls Tryz.prog 15 #[.pointer (some ⟨x, 0, none⟩), .pointer (some ⟨g, 0, none⟩), opA 13 a bb cc s t] w (TsP lo w q x g TC cv cl) := by
  have oB : Only (fun _ => False) w (w.alloc (.cells (opB 13 a bb cc s t) 41)) := (Only.refl _ w).alloc _
  have AB : Has (w.alloc (.cells (opB 13 a bb cc s t) 41)) w.heap.size (opB 13 a bb cc s t) 41 := Has.new w _ _
  unfold opB at oB AB
  have J1 := J.quiet oB
  have HO := hide oB
  have HJ := hide J1
  have CK := hide (sintxn_any (J1.st.quiet ((Only.refl (fun _ => False) _).drew)))
  have c2 := J1.gh.has.cell 2
  simp at c2
  have dd : (op == op) = true := by simp
  have a0 := AB.cell 0
  simp at a0
  unfold opA
  clear J J1 oB AB
  go_enter Tryz.func15, Tryz.ntmps15
  go_upto_region 16 with fail
  generalize w.alloc (.cells #[.int .i64 13, .int .i64 a, .int .i64 bb, .int .i64 cc, .string s, .string t] 41) = w1 at *
  generalize w.heap.size = kb at *
  have c2 := (unhide HJ).gh.has.cell 2
  simp at c2
  have HP := hide (fun w9 (o9 : Only (fun _ => False) w1 w9) => TsP.low (unhide HO) (TsP.stay (unhide HJ) ((unhide HJ).st.quiet o9) (o9.mono (fun _ _ e => e.elim))))
  go_region_with (go_at_call 34; refine (unhide CK).mono ?_; rintro e w2 ⟨rfl, rfl⟩)
  all_goals
    go_wp2_with fail
    go_ret
    exact unhide HP _ (Only.refl _ _).drew
set_option maxRecDepth 100000 in
set_option maxHeartbeats 8000000 in
theorem jks11 (J : TJ lo w q x g op S C T TC cv mv cl ml) (a bb cc : Int) (s t : ByteArray) (ht : t.size ≤ maxLen) : Calls Tryz.prog 15 #[.pointer (some ⟨x, 0, none⟩), .pointer (some ⟨g, 0, none⟩), opA 11 a bb cc s t] w (TsP lo w q x g TC cv cl) := by
  have oB : Only (fun _ => False) w (w.alloc (.cells (opB 11 a bb cc s t) 41)) := (Only.refl _ w).alloc _
  have AB : Has (w.alloc (.cells (opB 11 a bb cc s t) 41)) w.heap.size (opB 11 a bb cc s t) 41 := Has.new w _ _
  unfold opB at oB AB
  have J1 := J.quiet oB
  have nB : ¬ q.A w.heap.size := fun h => by have := J.st.fv.Alt _ h; omega
  have HNB := hide (show ¬ q.S w.heap.size from fun h => nB (Gnd.S_A h))
  have CF := hide (eFirst_any t ht (w.alloc (.cells #[.int .i64 11, .int .i64 a, .int .i64 bb, .int .i64 cc, .string s, .string t] 41)))
  have HW := hide (And.intro (fstP_wf t) (sndP_wf t))
  have HO := hide oB
  have HAB := hide AB
  have HJ0 := hide J1
  have HT := hide ht
  have a0 := AB.cell 0
  have a5 := AB.cell 5
  simp at a0 a5
  unfold opA
  clear J J1 oB AB nB ht
  go_enter Tryz.func15, Tryz.ntmps15
  go_wp2_with fail
  refine (unhide CF).mono ?_
  rintro e w2 ⟨rfl, o2⟩
  generalize w.alloc (.cells #[.int .i64 11, .int .i64 a, .int .i64 bb, .int .i64 cc, .string s, .string t] 41) = w1 at *
  generalize w.heap.size = kb at *
  unfold vlA
  generalize fstP t = key at *
  have o3 : Only (fun _ => False) w2 (w2.alloc (.cells #[.bool key.str, .int .i64 key.i, .string key.s] 72)) := (Only.refl _ w2).alloc _
  have A3 : Has (w2.alloc (.cells #[.bool key.str, .int .i64 key.i, .string key.s] 72)) w2.heap.size #[.bool key.str, .int .i64 key.i, .string key.s] 72 := Has.new w2 _ _
  have o13 := o2.trans o3 (fun _ _ e => e)
  have HNK := hide (show ¬ q.S w2.heap.size from fun h => by have := ((unhide HJ0).quiet o2).st.fv.Alt _ (Gnd.S_A h); omega)
  have HJ3 := hide ((unhide HJ0).quiet o13)
  have HO := hide ((unhide HO).trans o13 (fun _ _ e => e))
  have HAB := hide ((unhide HAB).keep o13 (fun e => e))
  have HA3 := hide A3
  have CX := hide (eSecond_any t (unhide HT) (w2.alloc (.cells #[.bool key.str, .int .i64 key.i, .string key.s] 72)))
  clear o2 o3 o13 A3 a0 a5 CF HJ0
  go_upto_region 11 with fail
  generalize w2.alloc (.cells #[.bool key.str, .int .i64 key.i, .string key.s] 72) = w3 at *
  generalize w2.heap.size = vb at *
  have a5 := (unhide HAB).cell 5
  simp at a5
  go_wp2_with fail
  refine (unhide CX).mono ?_
  rintro e w4 ⟨rfl, o4⟩
  unfold vlA
  generalize sndP t = key2 at *
  have o5 : Only (fun _ => False) w4 (w4.alloc (.cells #[.bool key2.str, .int .i64 key2.i, .string key2.s] 72)) := (Only.refl _ w4).alloc _
  have A5 : Has (w4.alloc (.cells #[.bool key2.str, .int .i64 key2.i, .string key2.s] 72)) w4.heap.size #[.bool key2.str, .int .i64 key2.i, .string key2.s] 72 := Has.new w4 _ _
  have o35 := o4.trans o5 (fun _ _ e => e)
  have HNK2 := hide (show ¬ q.S w4.heap.size from fun h => by have := ((unhide HJ3).quiet o4).st.fv.Alt _ (Gnd.S_A h); omega)
  have HJ := hide ((unhide HJ3).quiet o35)
  have HO := hide ((unhide HO).trans o35 (fun _ _ e => e))
  have HAB := hide ((unhide HAB).keep o35 (fun e => e))
  have HA3 := hide ((unhide HA3).keep o35 (fun e => e))
  have HA5 := hide A5
  clear o4 o5 o35 A5 a5 CX HJ3
  go_upto_region 12 with fail
  generalize w4.alloc (.cells #[.bool key2.str, .int .i64 key2.i, .string key2.s] 72) = w5 at *
  generalize w4.heap.size = vb2 at *
  have a1 := (unhide HAB).cell 1
  have a2 := (unhide HAB).cell 2
  have a4 := (unhide HAB).cell 4
  have k0 := (unhide HA3).cell 0
  have k1 := (unhide HA3).cell 1
  have k2 := (unhide HA3).cell 2
  have l0 := (unhide HA5).cell 0
  have l1 := (unhide HA5).cell 1
  have l2 := (unhide HA5).cell 2
  have c0 := (unhide HJ).gh.has.cell 0
  simp at a1 a2 a4 k0 k1 k2 l0 l1 l2 c0
  have CK := jkeptScan_any ((unhide HJ).st.quiet ((Only.refl (fun _ => False) w5).drew)) (unhide HJ).la ((unhide HJ).gh.cur.quiet ((Only.refl (fun _ => False) w5).drew)) (unhide HJ).sepC s a (bits BinOp.and IntKind.i64 bb 1 != 0) (bits BinOp.and IntKind.i64 bb 2 != 0) key key2 (unhide HW).1 (unhide HW).2
  obtain ⟨va, vc, hvs⟩ := (unhide HJ).gh.cur.shape
  rw [hvs] at c0 CK
  unfold bdA at CK
  have CK := hide CK
  clear hvs
  refine wp_region_held_drew (S := (fun w' => w'.cell? ⟨g, 0, none⟩ = some (.slice va cl.length vc) ∧ w'.cell? ⟨kb, 4, none⟩ = some (.string s) ∧ w'.cell? ⟨kb, 1, none⟩ = some (.int .i64 a) ∧ w'.cell? ⟨kb, 2, none⟩ = some (.int .i64 bb) ∧ w'.cell? ⟨vb, 0, none⟩ = some (.bool key.str) ∧ w'.cell? ⟨vb, 1, none⟩ = some (.int .i64 key.i) ∧ w'.cell? ⟨vb, 2, none⟩ = some (.string key.s) ∧ w'.cell? ⟨vb2, 0, none⟩ = some (.bool key2.str) ∧ w'.cell? ⟨vb2, 1, none⟩ = some (.int .i64 key2.i) ∧ w'.cell? ⟨vb2, 2, none⟩ = some (.string key2.s))) (by kernel_rfl) ⟨c0, a4, a1, a2, k0, k1, k2, l0, l1, l2⟩ (fun hH0 => ?_)
  refine takeH 0 53 (v := ?vk1) rfl rfl (by kernel_rfl) (by kernel_rfl) (by kernel_rfl) (fun _ _ _ h => h) (Or.inl ⟨by rfl, ?hk1⟩) hH0 ?rk1
  case hk1 => (intro w hSw; clear hSw; go_simp; (try with_reducible rfl))
  case rk1 =>
  try simp only [Act.put, List.setIfInBounds_toArray, List.set_cons_zero, List.set_cons_succ]
  refine takeH 1 54 (v := ?vk2) rfl rfl (by kernel_rfl) (by kernel_rfl) (by kernel_rfl) (fun _ _ _ h => h) (Or.inl ⟨by rfl, ?hk2⟩) hH0 ?rk2
  case hk2 => (intro w hSw; clear hSw; go_simp; (try with_reducible rfl))
  case rk2 =>
  try simp only [Act.put, List.setIfInBounds_toArray, List.set_cons_zero, List.set_cons_succ]
  refine takeH 2 55 (v := ?vk3) rfl rfl (by kernel_rfl) (by kernel_rfl) (by kernel_rfl) (fun _ _ _ h => h) (Or.inl ⟨by rfl, ?hk3⟩) hH0 ?rk3
  case hk3 => (intro w hSw; clear hSw; go_simp; (try with_reducible rfl))
  case rk3 =>
  try simp only [Act.put, List.setIfInBounds_toArray, List.set_cons_zero, List.set_cons_succ]
  refine takeH 3 56 (v := ?vk4) rfl rfl (by kernel_rfl) (by kernel_rfl) (by kernel_rfl) (fun _ _ _ h => h) (Or.inl ⟨by rfl, ?hk4⟩) hH0 ?rk4
  case hk4 => (intro w hSw; clear hSw; go_simp; (try with_reducible rfl))
  case rk4 =>
  try simp only [Act.put, List.setIfInBounds_toArray, List.set_cons_zero, List.set_cons_succ]
  refine takeH 4 57 (v := ?vk5) rfl rfl (by kernel_rfl) (by kernel_rfl) (by kernel_rfl) (fun _ _ _ h => h) (Or.inl ⟨by rfl, ?hk5⟩) hH0 ?rk5
  case hk5 => (intro w hSw; obtain ⟨s0, s1, s2, s3, s4, s5, s6, s7, s8, s9⟩ := hSw; go_simp; (try with_reducible rfl))
  case rk5 =>
  try simp only [Act.put, List.setIfInBounds_toArray, List.set_cons_zero, List.set_cons_succ]
  refine takeH 5 58 (v := ?vk6) rfl rfl (by kernel_rfl) (by kernel_rfl) (by kernel_rfl) (fun _ _ _ h => h) (Or.inl ⟨by rfl, ?hk6⟩) hH0 ?rk6
  case hk6 => (intro w hSw; clear hSw; go_simp; (try with_reducible rfl))
  case rk6 =>
  try simp only [Act.put, List.setIfInBounds_toArray, List.set_cons_zero, List.set_cons_succ]
  refine takeH 6 59 (v := ?vk7) rfl rfl (by kernel_rfl) (by kernel_rfl) (by kernel_rfl) (fun _ _ _ h => h) (Or.inl ⟨by rfl, ?hk7⟩) hH0 ?rk7
  case hk7 => (intro w hSw; obtain ⟨s0, s1, s2, s3, s4, s5, s6, s7, s8, s9⟩ := hSw; go_simp; (try with_reducible rfl))
  case rk7 =>
  try simp only [Act.put, List.setIfInBounds_toArray, List.set_cons_zero, List.set_cons_succ]
  refine takeH 7 60 (v := ?vk8) rfl rfl (by kernel_rfl) (by kernel_rfl) (by kernel_rfl) (fun _ _ _ h => h) (Or.inl ⟨by rfl, ?hk8⟩) hH0 ?rk8
  case hk8 => (intro w hSw; clear hSw; go_simp; (try with_reducible rfl))
  case rk8 =>
  try simp only [Act.put, List.setIfInBounds_toArray, List.set_cons_zero, List.set_cons_succ]
  refine takeH 8 61 (v := ?vk9) rfl rfl (by kernel_rfl) (by kernel_rfl) (by kernel_rfl) (fun _ _ _ h => h) (Or.inl ⟨by rfl, ?hk9⟩) hH0 ?rk9
  case hk9 => (intro w hSw; obtain ⟨s0, s1, s2, s3, s4, s5, s6, s7, s8, s9⟩ := hSw; go_simp; (try with_reducible rfl))
  case rk9 =>
  try simp only [Act.put, List.setIfInBounds_toArray, List.set_cons_zero, List.set_cons_succ]
  refine takeH 9 62 (v := ?vk10) rfl rfl (by kernel_rfl) (by kernel_rfl) (by kernel_rfl) (fun _ _ _ h => h) (Or.inl ⟨by rfl, ?hk10⟩) hH0 ?rk10
  case hk10 => (intro w hSw; clear hSw; go_simp; (try with_reducible rfl))
  case rk10 =>
  try simp only [Act.put, List.setIfInBounds_toArray, List.set_cons_zero, List.set_cons_succ]
  refine takeH 10 63 (v := ?vk11) rfl rfl (by kernel_rfl) (by kernel_rfl) (by kernel_rfl) (fun _ _ _ h => h) (Or.inl ⟨by rfl, ?hk11⟩) hH0 ?rk11
  case hk11 => (intro w hSw; obtain ⟨s0, s1, s2, s3, s4, s5, s6, s7, s8, s9⟩ := hSw; go_simp; (try with_reducible rfl))
  case rk11 =>
  try simp only [Act.put, List.setIfInBounds_toArray, List.set_cons_zero, List.set_cons_succ]
  refine takeH 11 64 (v := ?vk12) rfl rfl (by kernel_rfl) (by kernel_rfl) (by kernel_rfl) (fun _ _ _ h => h) (Or.inl ⟨by rfl, ?hk12⟩) hH0 ?rk12
  case hk12 => (intro w hSw; clear hSw; go_simp; (try with_reducible rfl))
  case rk12 =>
  try simp only [Act.put, List.setIfInBounds_toArray, List.set_cons_zero, List.set_cons_succ]
  refine takeH 12 65 (v := ?vk13) rfl rfl (by kernel_rfl) (by kernel_rfl) (by kernel_rfl) (fun _ _ _ h => h) (Or.inl ⟨by rfl, ?hk13⟩) hH0 ?rk13
  case hk13 => (intro w hSw; clear hSw; go_simp; (try with_reducible rfl))
  case rk13 =>
  try simp only [Act.put, List.setIfInBounds_toArray, List.set_cons_zero, List.set_cons_succ]
  refine takeH 13 66 (v := ?vk14) rfl rfl (by kernel_rfl) (by kernel_rfl) (by kernel_rfl) (fun _ _ _ h => h) (Or.inl ⟨by rfl, ?hk14⟩) hH0 ?rk14
  case hk14 => (intro w hSw; obtain ⟨s0, s1, s2, s3, s4, s5, s6, s7, s8, s9⟩ := hSw; go_simp; (try with_reducible rfl))
  case rk14 =>
  try simp only [Act.put, List.setIfInBounds_toArray, List.set_cons_zero, List.set_cons_succ]
  refine takeH 14 67 (v := ?vk15) rfl rfl (by kernel_rfl) (by kernel_rfl) (by kernel_rfl) (fun _ _ _ h => h) (Or.inl ⟨by rfl, ?hk15⟩) hH0 ?rk15
  case hk15 => (intro w hSw; clear hSw; go_simp; (try with_reducible rfl))
  case rk15 =>
  try simp only [Act.put, List.setIfInBounds_toArray, List.set_cons_zero, List.set_cons_succ]
  refine takeH 15 68 (v := ?vk16) rfl rfl (by kernel_rfl) (by kernel_rfl) (by kernel_rfl) (fun _ _ _ h => h) (Or.inl ⟨by rfl, ?hk16⟩) hH0 ?rk16
  case hk16 => (intro w hSw; clear hSw; go_simp; (try with_reducible rfl))
  case rk16 =>
  try simp only [Act.put, List.setIfInBounds_toArray, List.set_cons_zero, List.set_cons_succ]
  refine takeH 16 69 (v := ?vk17) rfl rfl (by kernel_rfl) (by kernel_rfl) (by kernel_rfl) (fun _ _ _ h => h) (Or.inl ⟨by rfl, ?hk17⟩) hH0 ?rk17
  case hk17 => (intro w hSw; obtain ⟨s0, s1, s2, s3, s4, s5, s6, s7, s8, s9⟩ := hSw; go_simp; (try with_reducible rfl))
  case rk17 =>
  try simp only [Act.put, List.setIfInBounds_toArray, List.set_cons_zero, List.set_cons_succ]
  refine takeH 17 70 (v := ?vk18) rfl rfl (by kernel_rfl) (by kernel_rfl) (by kernel_rfl) (fun _ _ _ h => h) (Or.inl ⟨by rfl, ?hk18⟩) hH0 ?rk18
  case hk18 => (intro w hSw; clear hSw; go_simp; (try with_reducible rfl))
  case rk18 =>
  try simp only [Act.put, List.setIfInBounds_toArray, List.set_cons_zero, List.set_cons_succ]
  refine takeH 18 71 (v := ?vk19) rfl rfl (by kernel_rfl) (by kernel_rfl) (by kernel_rfl) (fun _ _ _ h => h) (Or.inl ⟨by rfl, ?hk19⟩) hH0 ?rk19
  case hk19 => (intro w hSw; clear hSw; go_simp; (try with_reducible rfl))
  case rk19 =>
  try simp only [Act.put, List.setIfInBounds_toArray, List.set_cons_zero, List.set_cons_succ]
  refine takeH 19 72 (v := ?vk20) rfl rfl (by kernel_rfl) (by kernel_rfl) (by kernel_rfl) (fun _ _ _ h => h) (Or.inl ⟨by rfl, ?hk20⟩) hH0 ?rk20
  case hk20 => (intro w hSw; obtain ⟨s0, s1, s2, s3, s4, s5, s6, s7, s8, s9⟩ := hSw; go_simp; (try with_reducible rfl))
  case rk20 =>
  try simp only [Act.put, List.setIfInBounds_toArray, List.set_cons_zero, List.set_cons_succ]
  refine takeH 20 73 (v := ?vk21) rfl rfl (by kernel_rfl) (by kernel_rfl) (by kernel_rfl) (fun _ _ _ h => h) (Or.inl ⟨by rfl, ?hk21⟩) hH0 ?rk21
  case hk21 => (intro w hSw; clear hSw; go_simp; (try with_reducible rfl))
  case rk21 =>
  try simp only [Act.put, List.setIfInBounds_toArray, List.set_cons_zero, List.set_cons_succ]
  refine callH 21 (by kernel_rfl) rfl 74 rfl rfl 37 Tryz.func37 (by kernel_rfl) (by kernel_rfl) #[.tmp 53, .tmp 57, .tmp 59, .tmp 61, .tmp 67, .tmp 73] #[32, 36, 9, 3, 74, 74] rfl #[.pointer (some ⟨x, 0, none⟩), .slice va cl.length vc, .string s, .int .i64 a, .agg #[.bool (bits BinOp.and IntKind.i64 bb 1 != 0), .bool key.str, .int .i64 key.i, .string key.s], .agg #[.bool (bits BinOp.and IntKind.i64 bb 2 != 0), .bool key2.str, .int .i64 key2.i, .string key2.s]] (by simp [Act.eval]) (R := fun v w' => ∃ bk : Bool, v = .bool bk ∧ (GP (cl.map (·.t)) (dbOf T) → bk = true) ∧ ST q w' x op S ∧ Only q.S w5.drew w') ((unhide CK).mono (by rintro en w' ⟨bk, rfl, hb, hs, o⟩; exact ⟨_, rfl, bk, rfl, hb.1, hs, o⟩)) ?kk
  case kk =>
  rintro _ w6 ⟨bk, rfl, hb, hs, oq⟩
  have S6 : w6.cell? ⟨g, 0, none⟩ = some (.slice va cl.length vc) ∧ w6.cell? ⟨kb, 4, none⟩ = some (.string s) ∧ w6.cell? ⟨kb, 1, none⟩ = some (.int .i64 a) ∧ w6.cell? ⟨kb, 2, none⟩ = some (.int .i64 bb) ∧ w6.cell? ⟨vb, 0, none⟩ = some (.bool key.str) ∧ w6.cell? ⟨vb, 1, none⟩ = some (.int .i64 key.i) ∧ w6.cell? ⟨vb, 2, none⟩ = some (.string key.s) ∧ w6.cell? ⟨vb2, 0, none⟩ = some (.bool key2.str) ∧ w6.cell? ⟨vb2, 1, none⟩ = some (.int .i64 key2.i) ∧ w6.cell? ⟨vb2, 2, none⟩ = some (.string key2.s) := ⟨cell_keep (hH0.1) oq (fun h => (unhide HJ).sg.1 (Gnd.S_A h)), cell_keep (hH0.2.1) oq (unhide HNB), cell_keep (hH0.2.2.1) oq (unhide HNB), cell_keep (hH0.2.2.2.1) oq (unhide HNB), cell_keep (hH0.2.2.2.2.1) oq (unhide HNK), cell_keep (hH0.2.2.2.2.2.1) oq (unhide HNK), cell_keep (hH0.2.2.2.2.2.2.1) oq (unhide HNK), cell_keep (hH0.2.2.2.2.2.2.2.1) oq (unhide HNK2), cell_keep (hH0.2.2.2.2.2.2.2.2.1) oq (unhide HNK2), cell_keep (hH0.2.2.2.2.2.2.2.2.2) oq (unhide HNK2)⟩
  refine ⟨S6, ?_⟩
  try simp only [Act.put, List.setIfInBounds_toArray, List.set_cons_zero, List.set_cons_succ]
  refine takeH 22 6 (v := ?vk22) rfl rfl (by kernel_rfl) (by kernel_rfl) (by kernel_rfl) (fun _ _ _ h => h) (Or.inl ⟨by rfl, ?hk22⟩) S6 ?rk22
  case hk22 => (intro w hSw; clear hSw; go_simp; (try with_reducible rfl))
  case rk22 =>
  try simp only [Act.put, List.setIfInBounds_toArray, List.set_cons_zero, List.set_cons_succ]
  refine wpAnyH_done (by kernel_rfl) ?_ _
  have HF := hide (And.intro hs ((((Only.refl (fun _ => False) w5).drew).mono (fun _ _ e => e.elim)).trans oq (fun _ _ e => e) : Only q.S w5 w6))
  clear hH0 S6 oq hs
  obtain rfl := hb (unhide HJ).gc
  have HP := hide (TsP.low (unhide HO) (TsP.stay (unhide HJ) (unhide HF).1 (unhide HF).2))
  clear hb
  go_wp2_with fail
  go_ret
  exact unhide HP
set_option maxRecDepth 100000 in
set_option maxHeartbeats 8000000 in
theorem jksNo (J : TJ lo w q x g op S C T TC cv mv cl ml) (kind a bb cc : Int) (s t : ByteArray) (hk : kind < 1 ∨ 15 < kind) : Calls Tryz.prog 15 #[.pointer (some ⟨x, 0, none⟩), .pointer (some ⟨g, 0, none⟩), opA kind a bb cc s t] w (TsP lo w q x g TC cv cl) := by
  have oB : Only (fun _ => False) w (w.alloc (.cells (opB kind a bb cc s t) 41)) := (Only.refl _ w).alloc _
  have AB : Has (w.alloc (.cells (opB kind a bb cc s t) 41)) w.heap.size (opB kind a bb cc s t) 41 := Has.new w _ _
  unfold opB at oB AB
  have HP := hide (TsP.stay J (J.st.quiet oB) (oB.mono (fun _ _ e => e.elim)))
  have a0 := AB.cell 0
  simp at a0
  have e10 : (kind == 10) = false := by simp; omega
  have e11 : (kind == 11) = false := by simp; omega
  have e12 : (kind == 12) = false := by simp; omega
  have e13 : (kind == 13) = false := by simp; omega
  have e14 : (kind == 14) = false := by simp; omega
  have e15 : (kind == 15) = false := by simp; omega
  unfold opA
  clear J AB oB
  by_cases h1 : 1 ≤ kind
  · have d1 : decide (kind ≥ 1) = true := decide_eq_true h1
    have d1' : decide (1 ≤ kind) = true := decide_eq_true h1
    have d9 : decide (kind ≤ 9) = false := decide_eq_false (by omega)
    clear h1 hk
    go_enter Tryz.func15, Tryz.ntmps15
    go_wp2_with fail
    go_ret
    exact unhide HP
  · have d1 : decide (kind ≥ 1) = false := decide_eq_false h1
    have d1' : decide (1 ≤ kind) = false := decide_eq_false h1
    clear h1 hk
    go_enter Tryz.func15, Tryz.ntmps15
    go_wp2_with fail
    go_ret
    exact unhide HP
theorem jkeptStep_any (J : TJ lo w q x g op S C T TC cv mv cl ml) (hrc : q.recs.length ≤ 300) (kind a bb cc : Int) (s t : ByteArray) (ht : t.size ≤ maxLen) : Calls Tryz.prog 15 #[.pointer (some ⟨x, 0, none⟩), .pointer (some ⟨g, 0, none⟩), opA kind a bb cc s t] w (TsP lo w q x g TC cv cl) := by
  by_cases h : 1 ≤ kind ∧ kind ≤ 9
  · exact jksChange_any J hrc kind a bb cc s t ht h.1 h.2
  by_cases h2 : kind < 1 ∨ 15 < kind
  · exact jksNo J kind a bb cc s t h2
  obtain rfl | rfl | rfl | rfl | rfl | rfl : kind = 10 ∨ kind = 11 ∨ kind = 12 ∨ kind = 13 ∨ kind = 14 ∨ kind = 15 := by omega
  · exact jks10 J a bb cc s t ht
  · exact jks11 J a bb cc s t ht
  · exact jks12 J a bb cc s t ht
  · exact jks13 J a bb cc s t ht
  · exact jks14 J a bb cc s t ht
  · exact jks15 J a bb cc s t ht
end
end Go.Proofs.Qxb6500413aGreat
