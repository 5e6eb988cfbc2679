/-
  OWN WORK. TXN, Keeps: Schema, kind 4 (written by tools/gen_xks.py).
-/
import Derived.Test.Qxb6500414aGreatXKP3
namespace Go.Proofs.Qxb6500414aGreat
open Go.RowKit Go.PlainAid
set_option linter.unusedSimpArgs false
set_option linter.unusedVariables false
section
variable {lo : Nat} {w w' : World} {k k2 : Nat} {M N : Mu} {s t : Nat} {T : Tb}
set_option maxRecDepth 100000 in
set_option maxHeartbeats 4000000 in
theorem xlschema_4 (H : Sht lo w k M) (H2 : Sht lo w k2 N) (hB : MuB M) (hB2 : MuB N) (oa ob oc : Int) (os ot : ByteArray) (hac : ∀ s, s < 4 → M.act s = false ∧ N.act s = false) (hS : (∀ T ∈ M.com, T.nm ≠ os) ∧ (∃ (t : Nat) (U : Tb), N.com[t]? = some U ∧ U.nm = os) ∧ N.com.length = M.com.length + 1 ∧ (∀ s, s < 4 → N.rows s os = []) ∧ Stay M N) : Calls Tryz.prog 85 #[.pointer (some ⟨k, 0, none⟩), .pointer (some ⟨k2, 0, none⟩), opX 4 oa ob oc os ot] w fun e w' => e = .returned (.bool true) ∧ Only (fun _ => False) w w' := by
  have o1 : Only (fun _ => False) w (w.alloc (.cells #[.int .i64 4, .int .i64 oa, .int .i64 ob, .int .i64 oc, .string os, .string ot] 44)) := (Only.refl _ w).alloc _
  have N1 := Has.new w #[.int .i64 4, .int .i64 oa, .int .i64 ob, .int .i64 oc, .string os, .string ot] 44
  obtain ⟨n, hn⟩ : ∃ n, M.com.length = n := ⟨_, rfl⟩
  obtain ⟨m, hm⟩ : ∃ n, N.com.length = n := ⟨_, rfl⟩
  have hl := hB.len
  have hl2 := hB2.len
  rw [hn] at hl
  rw [hm] at hl2
  have HH := hide (And.intro (H.quiet o1) (And.intro (H2.quiet o1) (And.intro o1 (And.intro hn hm))))
  have HB := hide (And.intro hB hB2)
  have HN1 := hide N1
  have HAc := hide hac
  have HS := hide hS
  unfold opX
  clear H H2 hB hB2 o1 N1 hn hm hac hS
  go_enter Tryz.func85, Tryz.ntmps85
  go_upto_region 1 with fail
  generalize w.alloc (.cells #[.int .i64 4, .int .i64 oa, .int .i64 ob, .int .i64 oc, .string os, .string ot] 44) = w1 at *
  generalize hka : w.heap.size = ka at *
  clear hka
  have kl := (unhide HH).1.lt
  have kl2 := (unhide HH).2.1.lt
  have kal := (unhide HN1).lt
  have a0 : w1.cell? ⟨ka, 0, none⟩ = some (.int .i64 4) := (unhide HN1).cell 0
  have a4 : w1.cell? ⟨ka, 4, none⟩ = some (.string os) := (unhide HN1).cell 4
  go_upto_region 2 with fail
  go_loopw [7] (fun sv wr => ∃ s : Nat, sv = .int .i64 s ∧ s ≤ 4 ∧ wr = w1) (fun sv _ => 5 - (intOf sv).toNat)
  case atStart => exact ⟨0, rfl, by omega, rfl⟩
  case round =>
    obtain ⟨s, rfl, hs4, hwr⟩ := hrel
    subst wr
    by_cases hs : s < 4
    · have d1 : decide ((s : Int) < 4) = true := decide_eq_true (by omega)
      have s4 : (s : Int) < 4 := by omega
      have p0 := (unhide HH).1.actAt hs
      have q0 := (unhide HH).2.1.actAt hs
      rw [((unhide HAc) s hs).1] at p0
      rw [((unhide HAc) s hs).2] at q0
      go_wp2_with fail
      go_roundw
      case rel => exact ⟨s + 1, by go_num, by omega, trivial⟩
      case measure => simp [intOf]; omega
    · have d1 : decide ((s : Int) < 4) = false := decide_eq_false (by omega)
      have CP := hide (xlplace_any (unhide HH).1 (unhide HB).1 os)
      go_wp2_with fail
      refine (unhide CP).mono ?_
      rintro e w2 ⟨z, rfl, hz, rfl⟩
      clear CP
      have CP := hide (xlplace_any (unhide HH).2.1 (unhide HB).2 os)
      go_wp2_with fail
      refine (unhide CP).mono ?_
      rintro e w2 ⟨z', rfl, hz', rfl⟩
      clear CP
      rcases hz with ⟨rfl, _⟩ | ⟨t, T, _, ht, hn⟩
      rotate_left
      · exact absurd hn ((unhide HS).1 T (List.mem_of_getElem? ht))
      obtain ⟨t, U, hU, hUn⟩ := (unhide HS).2.1
      obtain rfl : z' = t := PlR.at_ (unhide HB).2.srt hU (by rw [hUn]; exact hz')
      clear hz'
      have t0 : decide ((t : Int) < 0) = false := by simp
      obtain ⟨pa, pc, p0, _⟩ := (unhide HH).1.names
      obtain ⟨qa, qc, q0, _⟩ := (unhide HH).2.1.names
      rw [(unhide HH).2.2.2.1] at p0
      rw [(unhide HH).2.2.2.2] at q0
      have e1 : (m : Int) = (n : Int) + 1 := by
        have := (unhide HS).2.2.1
        rw [(unhide HH).2.2.2.1, (unhide HH).2.2.2.2] at this
        omega
      have b1 : ((m : Int) != (n : Int) + 1) = false := by simp; omega
      have htl := (List.getElem?_eq_some_iff.mp hU).1
      rw [(unhide HH).2.2.2.2] at htl
      have tI : (t : Int) < (m : Int) := by omega
      have HU := hide (And.intro hU hUn)
      clear hU hUn e1
      go_upto_region 10 with fail
      go_cut [62] from 43 to 62 (fun zv wx => zv = .bool false ∧ Only (fun _ => False) w1 wx)
      case first =>
        go_quiet (fail)
        go_wp2_with fail
        go_meet
        exact ⟨rfl, onlyQ _ _⟩
      case rest =>
      obtain ⟨rfl, oC⟩ := hcut
      generalize wc = w2 at *
      have HF := hide oC
      clear oC a0 a4 p0 q0 kl kl2 kal
      go_upto_region 13 with fail
      go_loopw [10] (fun sv wr => ∃ s : Nat, sv = .int .i64 s ∧ s ≤ 4 ∧ wr = w2) (fun sv _ => 5 - (intOf sv).toNat)
      case atStart => exact ⟨0, rfl, by omega, rfl⟩
      case round =>
        obtain ⟨s, rfl, hs4, hwr⟩ := hrel
        subst wr
        by_cases hs : s < 4
        · have d1 : decide ((s : Int) < 4) = true := decide_eq_true (by omega)
          have s4 : (s : Int) < 4 := by omega
          have H2 := (unhide HH).2.1.quiet (unhide HF)
          have kl2 := H2.lt
          obtain ⟨gq, cq, ya, yc, y1, y2, _⟩ := H2.rowsAt hs (unhide HU).1
          rw [(unhide HH).2.2.2.2] at y1
          rw [(unhide HU).2, (unhide HS).2.2.2.1 s hs] at y2
          clear H2
          go_wp2_with fail
          go_roundw
          case rel => exact ⟨s + 1, by go_num, by omega, trivial⟩
          case measure => simp [intOf]; omega
        · have d1 : decide ((s : Int) < 4) = false := decide_eq_false (by omega)
          have CA := hide (xlallStay_any ((unhide HH).1.quiet (unhide HF)) ((unhide HH).2.1.quiet (unhide HF)) (unhide HB).1 (unhide HB).2 (-1) (-1) (fun s t T hs hT _ => (unhide HS).2.2.2.2 s t T hs hT))
          go_wp2_with fail
          refine (unhide CA).mono ?_
          rintro e we ⟨rfl, oS⟩
          have HO := hide (((unhide HH).2.2.1.trans (unhide HF) (fun _ _ e => e)).trans oS (fun _ _ e => e))
          clear CA oS
          go_wp2_with fail
          go_ret
          exact ⟨rfl, unhide HO⟩
end
end Go.Proofs.Qxb6500414aGreat
