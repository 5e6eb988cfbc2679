/-
  OWN WORK. TXN, Keeps: Schema, kind 5 (written by tools/gen_xks.py).
-/
import Derived.Test.Qxb6500414aGreatXKP3
namespace Go.Proofs.Qxb6500414aGreat
open Go.RowKit Go.PlainAid
set_option linter.unusedSimpArgs false
set_option linter.unusedVariables false
section
variable {lo : Nat} {w w' : World} {k k2 : Nat} {M N : Mu} {s t : Nat} {T : Tb}
set_option maxRecDepth 100000 in
set_option maxHeartbeats 4000000 in
theorem xlschema_5 (H : Sht lo w k M) (H2 : Sht lo w k2 N) (hB : MuB M) (hB2 : MuB N) (oa ob oc : Int) (os ot : ByteArray) (hac : ∀ s, s < 4 → M.act s = false ∧ N.act s = false) (hS : (∃ (t : Nat) (T : Tb), M.com[t]? = some T ∧ T.nm = os) ∧ (∀ U ∈ N.com, U.nm ≠ os) ∧ N.com.length + 1 = M.com.length ∧ ∀ (s t : Nat) (T : Tb), s < 4 → M.com[t]? = some T → T.nm ≠ os → StyP M N s T.nm) : Calls Tryz.prog 85 #[.pointer (some ⟨k, 0, none⟩), .pointer (some ⟨k2, 0, none⟩), opX 5 oa ob oc os ot] w fun e w' => e = .returned (.bool true) ∧ Only (fun _ => False) w w' := by
  have o1 : Only (fun _ => False) w (w.alloc (.cells #[.int .i64 5, .int .i64 oa, .int .i64 ob, .int .i64 oc, .string os, .string ot] 44)) := (Only.refl _ w).alloc _
  have N1 := Has.new w #[.int .i64 5, .int .i64 oa, .int .i64 ob, .int .i64 oc, .string os, .string ot] 44
  obtain ⟨n, hn⟩ : ∃ n, M.com.length = n := ⟨_, rfl⟩
  obtain ⟨m, hm⟩ : ∃ n, N.com.length = n := ⟨_, rfl⟩
  have hl := hB.len
  have hl2 := hB2.len
  rw [hn] at hl
  rw [hm] at hl2
  have HH := hide (And.intro (H.quiet o1) (And.intro (H2.quiet o1) (And.intro o1 (And.intro hn hm))))
  have HB := hide (And.intro hB hB2)
  have HN1 := hide N1
  have HAc := hide hac
  have HS := hide hS
  unfold opX
  clear H H2 hB hB2 o1 N1 hn hm hac hS
  go_enter Tryz.func85, Tryz.ntmps85
  go_upto_region 1 with fail
  generalize w.alloc (.cells #[.int .i64 5, .int .i64 oa, .int .i64 ob, .int .i64 oc, .string os, .string ot] 44) = w1 at *
  generalize hka : w.heap.size = ka at *
  clear hka
  have kl := (unhide HH).1.lt
  have kl2 := (unhide HH).2.1.lt
  have kal := (unhide HN1).lt
  have a0 : w1.cell? ⟨ka, 0, none⟩ = some (.int .i64 5) := (unhide HN1).cell 0
  have a4 : w1.cell? ⟨ka, 4, none⟩ = some (.string os) := (unhide HN1).cell 4
  go_upto_region 2 with fail
  go_loopw [7] (fun sv wr => ∃ s : Nat, sv = .int .i64 s ∧ s ≤ 4 ∧ wr = w1) (fun sv _ => 5 - (intOf sv).toNat)
  case atStart => exact ⟨0, rfl, by omega, rfl⟩
  case round =>
    obtain ⟨s, rfl, hs4, hwr⟩ := hrel
    subst wr
    by_cases hs : s < 4
    · have d1 : decide ((s : Int) < 4) = true := decide_eq_true (by omega)
      have s4 : (s : Int) < 4 := by omega
      have p0 := (unhide HH).1.actAt hs
      have q0 := (unhide HH).2.1.actAt hs
      rw [((unhide HAc) s hs).1] at p0
      rw [((unhide HAc) s hs).2] at q0
      go_wp2_with fail
      go_roundw
      case rel => exact ⟨s + 1, by go_num, by omega, trivial⟩
      case measure => simp [intOf]; omega
    · have d1 : decide ((s : Int) < 4) = false := decide_eq_false (by omega)
      have CP := hide (xlplace_any (unhide HH).1 (unhide HB).1 os)
      go_wp2_with fail
      refine (unhide CP).mono ?_
      rintro e w2 ⟨z, rfl, hz, rfl⟩
      clear CP
      have CP := hide (xlplace_any (unhide HH).2.1 (unhide HB).2 os)
      go_wp2_with fail
      refine (unhide CP).mono ?_
      rintro e w2 ⟨z', rfl, hz', rfl⟩
      clear CP
      rcases hz' with ⟨rfl, _⟩ | ⟨t, T, _, ht, hn⟩
      rotate_left
      · exact absurd hn ((unhide HS).2.1 T (List.mem_of_getElem? ht))
      obtain ⟨t0, U, hU, hUn⟩ := (unhide HS).1
      obtain rfl : z = t0 := PlR.at_ (unhide HB).1.srt hU (by rw [hUn]; exact hz)
      clear hz
      have d0 : decide ((t0 : Int) < 0) = false := by simp
      obtain ⟨pa, pc, p0, _⟩ := (unhide HH).1.names
      obtain ⟨qa, qc, q0, _⟩ := (unhide HH).2.1.names
      rw [(unhide HH).2.2.2.1] at p0
      rw [(unhide HH).2.2.2.2] at q0
      have e1 : (m : Int) = (n : Int) - 1 := by
        have := (unhide HS).2.2.1
        rw [(unhide HH).2.2.2.1, (unhide HH).2.2.2.2] at this
        omega
      have b1 : ((m : Int) != (n : Int) - 1) = false := by simp; omega
      have n1 : 1 ≤ n := by omega
      have n1' : 0 ≤ (n : Int) - 1 := by omega
      have HU := hide (And.intro hU hUn)
      clear hU hUn e1
      go_upto_region 19 with fail
      go_cut [102] from 83 to 102 (fun zv wx => zv = .bool false ∧ Only (fun _ => False) w1 wx)
      case first =>
        go_quiet (fail)
        go_wp2_with fail
        go_meet
        exact ⟨rfl, onlyQ _ _⟩
      case rest =>
      obtain ⟨rfl, oC⟩ := hcut
      generalize wc = w2 at *
      have HF := hide oC
      clear oC a0 a4 p0 q0 kl kl2 kal
      go_upto_region 22 with fail
      go_loopw [11, 12] (fun sv _ wr => ∃ s : Nat, sv = .int .i64 s ∧ s ≤ 4 ∧ Only (fun _ => False) w1 wr) (fun sv _ _ => 5 - (intOf sv).toNat)
      case atStart => exact ⟨0, rfl, by omega, unhide HF⟩
      case round =>
        obtain ⟨s, rfl, hs4, oW⟩ := hrel
        by_cases hs : s < 4
        · have d1 : decide ((s : Int) < 4) = true := decide_eq_true (by omega)
          have s4 : (s : Int) < 4 := by omega
          have HO := hide oW
          clear oW
          go_upto_region 25 with fail
          go_loopw [12] (fun tv wr => ∃ t : Nat, tv = .int .i64 t ∧ t ≤ n ∧ Only (fun _ => False) w1 wr) (fun tv _ => n + 1 - (intOf tv).toNat)
          case atStart => exact ⟨0, rfl, by omega, unhide HO⟩
          case round =>
            obtain ⟨t, rfl, htn, oW⟩ := hrel
            have H1 := (unhide HH).1.quiet oW
            have kl := H1.lt
            obtain ⟨na, nc, c0, _⟩ := H1.names
            rw [(unhide HH).2.2.2.1] at c0
            have HO2 := hide oW
            by_cases ht : t < n
            · have a2 : decide ((t : Int) < (n : Int)) = true := decide_eq_true (by omega)
              obtain ⟨T, hT⟩ := getE (l := M.com) (i := t) (by rw [(unhide HH).2.2.2.1]; exact ht)
              by_cases e1 : t = t0
              · have b1 : ((t : Int) != (t0 : Int)) = false := by simp [e1]
                clear e1 hT H1 oW
                go_wp2_with fail
                go_roundw
                case rel => exact ⟨t + 1, by go_num, by omega, unhide HO2⟩
                case measure => simp [intOf]; omega
              · have b1 : ((t : Int) != (t0 : Int)) = true := by simp; omega
                have hne : T.nm ≠ os := fun c => e1 (srt_inj (f := fun t : Tb => t.nm) (unhide HB).1.srt hT (unhide HU).1 (c.trans (unhide HU).2.symm))
                have CS := hide (xlstays_any H1 ((unhide HH).2.1.quiet oW) (unhide HB).1 (unhide HB).2 hs hT ((unhide HS).2.2.2 s t T hs hT hne))
                clear hT H1 oW hne e1
                go_wp2_with fail
                refine (unhide CS).mono ?_
                rintro e w3 ⟨rfl, o3⟩
                have HO3 := hide ((unhide HO2).trans o3 (fun _ _ e => e))
                clear o3 CS c0
                go_wp2_with fail
                go_roundw
                case rel => exact ⟨t + 1, by go_num, by omega, unhide HO3⟩
                case measure => simp [intOf]; omega
            · have a2 : decide ((t : Int) < (n : Int)) = false := decide_eq_false (by omega)
              clear oW H1
              go_wp2_with fail
              go_roundw
              case rel => exact ⟨s + 1, by go_num, by omega, unhide HO2⟩
              case measure => simp [intOf]; omega
        · have d1 : decide ((s : Int) < 4) = false := decide_eq_false (by omega)
          have HO := hide ((unhide HH).2.2.1.trans oW (fun _ _ e => e))
          clear oW
          go_wp2_with fail
          go_ret
          exact ⟨rfl, unhide HO⟩
end
end Go.Proofs.Qxb6500414aGreat
