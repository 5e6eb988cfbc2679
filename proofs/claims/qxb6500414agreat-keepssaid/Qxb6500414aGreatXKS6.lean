/-
  OWN WORK. TXN, Keeps: Schema, kind 6 (written by tools/gen_xks.py).
-/
import Derived.Test.Qxb6500414aGreatXKP3
namespace Go.Proofs.Qxb6500414aGreat
open Go.RowKit Go.PlainAid
set_option linter.unusedSimpArgs false
set_option linter.unusedVariables false
section
variable {lo : Nat} {w w' : World} {k k2 : Nat} {M N : Mu} {s t : Nat} {T : Tb}
set_option maxRecDepth 100000 in
set_option maxHeartbeats 4000000 in
theorem xlschema_6 (H : Sht lo w k M) (H2 : Sht lo w k2 N) (hB : MuB M) (hB2 : MuB N) (oa ob oc : Int) (os ot : ByteArray) (hac : ∀ s, s < 4 → M.act s = false ∧ N.act s = false) (hS : namesD M.com = namesD N.com ∧ Stay M N) : Calls Tryz.prog 85 #[.pointer (some ⟨k, 0, none⟩), .pointer (some ⟨k2, 0, none⟩), opX 6 oa ob oc os ot] w fun e w' => e = .returned (.bool true) ∧ Only (fun _ => False) w w' := by
  have o1 : Only (fun _ => False) w (w.alloc (.cells #[.int .i64 6, .int .i64 oa, .int .i64 ob, .int .i64 oc, .string os, .string ot] 44)) := (Only.refl _ w).alloc _
  have N1 := Has.new w #[.int .i64 6, .int .i64 oa, .int .i64 ob, .int .i64 oc, .string os, .string ot] 44
  obtain ⟨n, hn⟩ : ∃ n, M.com.length = n := ⟨_, rfl⟩
  obtain ⟨m, hm⟩ : ∃ n, N.com.length = n := ⟨_, rfl⟩
  have hl := hB.len
  have hl2 := hB2.len
  rw [hn] at hl
  rw [hm] at hl2
  have HH := hide (And.intro (H.quiet o1) (And.intro (H2.quiet o1) (And.intro o1 (And.intro hn hm))))
  have HB := hide (And.intro hB hB2)
  have HN1 := hide N1
  have HAc := hide hac
  have HS := hide hS
  unfold opX
  clear H H2 hB hB2 o1 N1 hn hm hac hS
  go_enter Tryz.func85, Tryz.ntmps85
  go_upto_region 1 with fail
  generalize w.alloc (.cells #[.int .i64 6, .int .i64 oa, .int .i64 ob, .int .i64 oc, .string os, .string ot] 44) = w1 at *
  generalize hka : w.heap.size = ka at *
  clear hka
  have kl := (unhide HH).1.lt
  have kl2 := (unhide HH).2.1.lt
  have kal := (unhide HN1).lt
  have a0 : w1.cell? ⟨ka, 0, none⟩ = some (.int .i64 6) := (unhide HN1).cell 0
  have a4 : w1.cell? ⟨ka, 4, none⟩ = some (.string os) := (unhide HN1).cell 4
  go_upto_region 2 with fail
  go_loopw [7] (fun sv wr => ∃ s : Nat, sv = .int .i64 s ∧ s ≤ 4 ∧ wr = w1) (fun sv _ => 5 - (intOf sv).toNat)
  case atStart => exact ⟨0, rfl, by omega, rfl⟩
  case round =>
    obtain ⟨s, rfl, hs4, hwr⟩ := hrel
    subst wr
    by_cases hs : s < 4
    · have d1 : decide ((s : Int) < 4) = true := decide_eq_true (by omega)
      have s4 : (s : Int) < 4 := by omega
      have p0 := (unhide HH).1.actAt hs
      have q0 := (unhide HH).2.1.actAt hs
      rw [((unhide HAc) s hs).1] at p0
      rw [((unhide HAc) s hs).2] at q0
      go_wp2_with fail
      go_roundw
      case rel => exact ⟨s + 1, by go_num, by omega, trivial⟩
      case measure => simp [intOf]; omega
    · have d1 : decide ((s : Int) < 4) = false := decide_eq_false (by omega)
      have CP := hide (xlplace_any (unhide HH).1 (unhide HB).1 os)
      go_wp2_with fail
      refine (unhide CP).mono ?_
      rintro e w2 ⟨z, rfl, hz, rfl⟩
      clear CP
      have CP := hide (xlplace_any (unhide HH).2.1 (unhide HB).2 os)
      go_wp2_with fail
      refine (unhide CP).mono ?_
      rintro e w2 ⟨z', rfl, hz', rfl⟩
      clear CP
      clear hz hz'
      obtain ⟨pa, pc, p0, pO⟩ := (unhide HH).1.names
      obtain ⟨qa, qc, q0, qO⟩ := (unhide HH).2.1.names
      rw [len_at (unhide HS).1] at q0 qO
      have oD : Only (fun _ => False) w1 w1.drew := (Only.refl _ w1).drew
      have CN := sameNames_any (w := w1.drew) (ownsRow_keep pO oD (fun _ _ e => e)) (ownsRow_keep qO oD (fun _ _ e => e)) (by unfold namesD; rw [List.length_map]; have := (unhide HB).1.len; omega) true (decide_eq_true (unhide HS).1)
      rw [(unhide HH).2.2.2.1] at p0 q0 CN
      have CN := hide CN
      clear pO qO oD
      go_upto_region 30 with fail
      refine wp_region_held_drew (S := (fun w' => w'.cell? ⟨k, 0, none⟩ = some (.slice pa n pc) ∧ w'.cell? ⟨k2, 0, none⟩ = some (.slice qa n qc))) (by kernel_rfl) ⟨p0, q0⟩ (fun hH0 => ?_)
      refine takeH 0 127 (v := ?vn1) rfl rfl (by kernel_rfl) (by kernel_rfl) (by kernel_rfl) (fun _ _ _ h => h) (Or.inl ⟨by rfl, ?hn1⟩) hH0 ?rn1
      case hn1 => (intro w hSw; clear hSw; go_simp; (try with_reducible rfl))
      case rn1 =>
      try simp only [Act.put, List.setIfInBounds_toArray, List.set_cons_zero, List.set_cons_succ]
      refine takeH 1 128 (v := ?vn2) rfl rfl (by kernel_rfl) (by kernel_rfl) (by kernel_rfl) (fun _ _ _ h => h) (Or.inl ⟨by rfl, ?hn2⟩) hH0 ?rn2
      case hn2 => (intro w hSw; clear hSw; go_simp; (try with_reducible rfl))
      case rn2 =>
      try simp only [Act.put, List.setIfInBounds_toArray, List.set_cons_zero, List.set_cons_succ]
      refine takeH 2 129 (v := ?vn3) rfl rfl (by kernel_rfl) (by kernel_rfl) (by kernel_rfl) (fun _ _ _ h => h) (Or.inl ⟨by rfl, ?hn3⟩) hH0 ?rn3
      case hn3 => (intro w hSw; clear hSw; go_simp; (try with_reducible rfl))
      case rn3 =>
      try simp only [Act.put, List.setIfInBounds_toArray, List.set_cons_zero, List.set_cons_succ]
      refine takeH 3 130 (v := ?vn4) rfl rfl (by kernel_rfl) (by kernel_rfl) (by kernel_rfl) (fun _ _ _ h => h) (Or.inl ⟨by rfl, ?hn4⟩) hH0 ?rn4
      case hn4 => (intro w hSw; obtain ⟨s0, s1⟩ := hSw; go_simp; (try with_reducible rfl))
      case rn4 =>
      try simp only [Act.put, List.setIfInBounds_toArray, List.set_cons_zero, List.set_cons_succ]
      refine takeH 4 131 (v := ?vn5) rfl rfl (by kernel_rfl) (by kernel_rfl) (by kernel_rfl) (fun _ _ _ h => h) (Or.inl ⟨by rfl, ?hn5⟩) hH0 ?rn5
      case hn5 => (intro w hSw; clear hSw; go_simp; (try with_reducible rfl))
      case rn5 =>
      try simp only [Act.put, List.setIfInBounds_toArray, List.set_cons_zero, List.set_cons_succ]
      refine takeH 5 132 (v := ?vn6) rfl rfl (by kernel_rfl) (by kernel_rfl) (by kernel_rfl) (fun _ _ _ h => h) (Or.inl ⟨by rfl, ?hn6⟩) hH0 ?rn6
      case hn6 => (intro w hSw; clear hSw; go_simp; (try with_reducible rfl))
      case rn6 =>
      try simp only [Act.put, List.setIfInBounds_toArray, List.set_cons_zero, List.set_cons_succ]
      refine takeH 6 133 (v := ?vn7) rfl rfl (by kernel_rfl) (by kernel_rfl) (by kernel_rfl) (fun _ _ _ h => h) (Or.inl ⟨by rfl, ?hn7⟩) hH0 ?rn7
      case hn7 => (intro w hSw; clear hSw; go_simp; (try with_reducible rfl))
      case rn7 =>
      try simp only [Act.put, List.setIfInBounds_toArray, List.set_cons_zero, List.set_cons_succ]
      refine takeH 7 134 (v := ?vn8) rfl rfl (by kernel_rfl) (by kernel_rfl) (by kernel_rfl) (fun _ _ _ h => h) (Or.inl ⟨by rfl, ?hn8⟩) hH0 ?rn8
      case hn8 => (intro w hSw; obtain ⟨s0, s1⟩ := hSw; go_simp; (try with_reducible rfl))
      case rn8 =>
      try simp only [Act.put, List.setIfInBounds_toArray, List.set_cons_zero, List.set_cons_succ]
      refine callH 8 (by kernel_rfl) rfl 135 rfl rfl 86 Tryz.func86 (by kernel_rfl) (by kernel_rfl) #[.tmp 130, .tmp 134] #[52, 52] rfl #[.slice pa n pc, .slice qa n qc] (by simp [Act.eval]) (R := fun v w' => v = .bool true ∧ Only (fun _ => False) w1.drew w') ((unhide CN).mono (by rintro en w' ⟨rfl, o⟩; exact ⟨_, rfl, rfl, o⟩)) ?kn
      case kn =>
      rintro _ w6 ⟨rfl, o6⟩
      have S6 : w6.cell? ⟨k, 0, none⟩ = some (.slice pa n pc) ∧ w6.cell? ⟨k2, 0, none⟩ = some (.slice qa n qc) := ⟨o6.cellF hH0.1, o6.cellF hH0.2⟩
      refine ⟨S6, ?_⟩
      try simp only [Act.put, List.setIfInBounds_toArray, List.set_cons_zero, List.set_cons_succ]
      refine takeH 9 136 (v := ?vn9) rfl rfl (by kernel_rfl) (by kernel_rfl) (by kernel_rfl) (fun _ _ _ h => h) (Or.inl ⟨by rfl, ?hn9⟩) S6 ?rn9
      case hn9 => (intro w hSw; clear hSw; go_simp; (try with_reducible rfl))
      case rn9 =>
      try simp only [Act.put, List.setIfInBounds_toArray, List.set_cons_zero, List.set_cons_succ]
      refine wpAnyH_done (by kernel_rfl) ?_ _
      have oD : Only (fun _ => False) w1 w6 := (Only.refl _ w1).drew.trans o6 (fun _ _ e => e)
      have HF := hide oD
      clear hH0 S6 o6 oD
      clear CN p0 q0 kl kl2 a0 a4
      have CA := hide (xlallStay_any ((unhide HH).1.quiet (unhide HF)) ((unhide HH).2.1.quiet (unhide HF)) (unhide HB).1 (unhide HB).2 (-1) (-1) (fun s t T hs hT _ => (unhide HS).2 s t T hs hT))
      go_wp2_with fail
      refine (unhide CA).mono ?_
      rintro e we ⟨rfl, oS⟩
      have HO := hide (((unhide HH).2.2.1.trans (unhide HF) (fun _ _ e => e)).trans oS (fun _ _ e => e))
      clear CA oS
      go_wp2_with fail
      go_ret
      exact ⟨rfl, unhide HO⟩
end
end Go.Proofs.Qxb6500414aGreat
