/-
  OWN WORK. THE LAW OF DIFF: Untouched (laid by tools/gen_dl7.py).
-/
import Derived.Test.Qxb6500416aDL6
namespace Go.Proofs.Qxb6500416a
open Go.RowKit Go.PlainAid
set_option linter.unusedSimpArgs false
set_option linter.unusedVariables false

theorem patS_at (w : World) {g n : Nat} (h : Has w g (tabV (n * 1) patS) 9) (i : Nat) (hi : i < n) : w.cell? ⟨g, i, none⟩ = some (.string stampB) := by
  rw [h.cell, tabV_get _ _ _ (by omega)]
  rfl
theorem patH_at (w : World) {g n : Nat} (h : Has w g (tabV (n * 3) patH) 62) (i : Nat) (hi : i < n) : w.cell? ⟨g, i * 3, none⟩ = some (.int .i64 (-1)) ∧ w.cell? ⟨g, i * 3 + 1, none⟩ = some (.slice none 0 0) ∧ w.cell? ⟨g, i * 3 + 2, none⟩ = some (.slice none 0 0) := by
  refine ⟨?_, ?_, ?_⟩
  · rw [h.cell, tabV_get _ _ _ (by omega)]; unfold patH; rw [if_pos (by omega)]
  · rw [h.cell, tabV_get _ _ _ (by omega)]; unfold patH; rw [if_neg (by omega)]
  · rw [h.cell, tabV_get _ _ _ (by omega)]; unfold patH; rw [if_neg (by omega)]
theorem patF_at (w : World) {g n : Nat} (h : Has w g (tabV (n * 3) patF) 60) (i : Nat) (hi : i < n) : w.cell? ⟨g, i * 3, none⟩ = some (.string stampB) ∧ w.cell? ⟨g, i * 3 + 1, none⟩ = some (.string stampB) ∧ w.cell? ⟨g, i * 3 + 2, none⟩ = some (.int .i64 (-1)) := by
  refine ⟨?_, ?_, ?_⟩
  · rw [h.cell, tabV_get _ _ _ (by omega)]; unfold patF; rw [if_neg (by omega)]
  · rw [h.cell, tabV_get _ _ _ (by omega)]; unfold patF; rw [if_neg (by omega)]
  · rw [h.cell, tabV_get _ _ _ (by omega)]; unfold patF; rw [if_pos (by omega)]
theorem patC_at (w : World) {g n : Nat} (h : Has w g (tabV (n * 3) patC) 65) (i : Nat) (hi : i < n) : w.cell? ⟨g, i * 3, none⟩ = some (.string stampB) ∧ w.cell? ⟨g, i * 3 + 1, none⟩ = some (.int .i64 (-1)) ∧ w.cell? ⟨g, i * 3 + 2, none⟩ = some (.int .i64 (-1)) := by
  refine ⟨?_, ?_, ?_⟩
  · rw [h.cell, tabV_get _ _ _ (by omega)]; unfold patC; rw [if_pos (by omega)]
  · rw [h.cell, tabV_get _ _ _ (by omega)]; unfold patC; rw [if_neg (by omega)]
  · rw [h.cell, tabV_get _ _ _ (by omega)]; unfold patC; rw [if_neg (by omega)]
set_option maxRecDepth 100000 in
set_option maxHeartbeats 16000000 in
theorem untouched_any {w : World} {l : Nat} {a0 a1 a2 a3 a4 a5 k0 k1 k2 k3 : Value} {M : Nat → Prop} (hl : LW w l a0 a1 a2 a3 a4 a5 k0 k1 k2 k3) (h0 : KL w 49 9 1 patS k0 M) (h1 : KL w 33 62 3 patH k1 M) (h2 : KL w 34 60 3 patF k2 M) (h3 : KL w 63 65 3 patC k3 M) :
    Calls Try.prog 13 #[.pointer (some ⟨l, 0, none⟩)] w fun e w' => e = .returned (.bool true) ∧ Only (fun _ => False) w w' := by
  obtain ⟨⟨x0, r0, n0, s0⟩, _⟩ := h0
  obtain ⟨⟨x1, r1, n1, s1⟩, _⟩ := h1
  obtain ⟨⟨x2, r2, n2, s2⟩, _⟩ := h2
  obtain ⟨⟨x3, r3, n3, s3⟩, _⟩ := h3
  obtain ⟨b0, d0, rfl⟩ := r0.shape
  obtain ⟨b1, d1, rfl⟩ := r1.shape
  obtain ⟨b2, d2, rfl⟩ := r2.shape
  obtain ⟨b3, d3, rfl⟩ := r3.shape
  have R0 := hide (And.intro r0 s0)
  have R1 := hide (And.intro r1 s1)
  have R2 := hide (And.intro r2 s2)
  have R3 := hide (And.intro r3 s3)
  have HL := hide hl
  have hst : (stampB.toList == [0, 115, 116, 97, 109, 112]) = true := by first | (unfold stampB; simp [ByteArray.toList, ByteArray.toList.loop]; done) | (unfold stampB; kernel_rfl)
  have hsP := patS_at
  have HPS := hide (@patS_at)
  have HPF := hide (@patF_at)
  have HPC := hide (@patC_at)
  have hO := Only.refl (fun _ => False) w
  clear hl r0 r1 r2 r3 s0 s1 s2 s3 hsP
  generalize stampB = sB at *
  go_enter Try.func13, Try.ntmps13
  go_wp2_with fail
  go_loopw [3] (fun jv wr => ∃ j : Nat, jv = .int .i64 j ∧ j ≤ x0.length ∧ Only (fun _ => False) w wr) (fun jv _ => x0.length - (intOf jv).toNat)
  case atStart => exact ⟨0, rfl, by omega, hO⟩
  case round =>
    clear hO
    obtain ⟨j, rfl, hj, hO⟩ := hrel
    have hlr := (unhide HL).keep hO (fun h => h)
    have c0 := Has.cell hlr 6
    have lr := Has.lt hlr
    by_cases hjl : j < x0.length
    · have t1 : decide ((j : Int) < (x0.length : Int)) = true := decide_eq_true (by omega)
      have t1' : (j : Int) < (x0.length : Int) := by omega
      obtain ⟨gg, oo, cc, ek, hgg, q0⟩ := ((unhide R0).1.keep hO (fun _ _ h => h)).at j hjl
      obtain ⟨rfl, rfl⟩ : b0 = some ⟨gg, oo, none⟩ ∧ d0 = cc := by simpa using ek
      obtain ⟨g2, n2_, e2, hn2, hH⟩ := ((unhide R0).2 _ (List.getElem_mem hjl)).1.keep hO (fun _ _ h => h)
      rw [e2] at q0
      have HH := hide hH
      have HO := hide hO
      generalize x0[j] = xj at *
      clear hlr ek e2 hH
      go_wp2_with fail
      generalize wr = WQ at *
      go_loopw [4] (fun iv wr => ∃ i : Nat, iv = .int .i64 i ∧ i ≤ n2_ ∧ Only (fun _ => False) WQ wr) (fun iv _ => n2_ - (intOf iv).toNat)
      case atStart => exact ⟨0, rfl, by omega, Only.refl _ _⟩
      case round =>
        obtain ⟨i, rfl, hi, ho⟩ := hrel
        have hlr := ((unhide HL).keep (unhide HO) (fun h => h)).keep ho (fun h => h)
        have c0' := Has.cell hlr 6
        have lr' := Has.lt hlr
        have os := ho.size
        have q0' := (World.cell?_of_block (a := ⟨gg, oo + j, none⟩) (ho.block gg hgg (fun h => h))).trans q0
        have hgg' : gg < wr.heap.size := by omega
        by_cases hil : i < n2_
        · have u1 : decide ((i : Int) < (n2_ : Int)) = true := decide_eq_true (by omega)
          have u1' : (i : Int) < (n2_ : Int) := by omega
          have hHr := (unhide HH).keep ho (fun h => h)
          have hg2 := hHr.lt
          have p0 := (unhide HPS) wr hHr i hil
          have Ho := hide ho
          clear hlr hHr ho
          go_wp2_with fail
          go_roundw
          case rel => exact ⟨i + 1, by go_num, by omega, unhide Ho⟩
          case measure => simp [intOf]; omega
        · have u1 : decide ((i : Int) < (n2_ : Int)) = false := decide_eq_false (by omega)
          have Ho := hide ((unhide HO).trans ho (fun _ _ h => h))
          clear hlr ho
          go_wp2_with fail
          go_roundw
          case rel => exact ⟨j + 1, by go_num, by omega, unhide Ho⟩
          case measure => simp [intOf]; omega
    · have t1 : decide ((j : Int) < (x0.length : Int)) = false := decide_eq_false (by omega)
      clear hlr
      go_wp2_with fail
      go_loopw [5] (fun jv wr => ∃ j : Nat, jv = .int .i64 j ∧ j ≤ x1.length ∧ Only (fun _ => False) w wr) (fun jv _ => x1.length - (intOf jv).toNat)
      case atStart => exact ⟨0, rfl, by omega, hO⟩
      case round =>
        clear hO
        obtain ⟨j, rfl, hj, hO⟩ := hrel
        have hlr := (unhide HL).keep hO (fun h => h)
        have c1 := Has.cell hlr 7
        have lr := Has.lt hlr
        by_cases hjl : j < x1.length
        · have t1 : decide ((j : Int) < (x1.length : Int)) = true := decide_eq_true (by omega)
          have t1' : (j : Int) < (x1.length : Int) := by omega
          obtain ⟨gg, oo, cc, ek, hgg, q1⟩ := ((unhide R1).1.keep hO (fun _ _ h => h)).at j hjl
          obtain ⟨rfl, rfl⟩ : b1 = some ⟨gg, oo, none⟩ ∧ d1 = cc := by simpa using ek
          obtain ⟨g2, n2_, e2, hn2, hH⟩ := ((unhide R1).2 _ (List.getElem_mem hjl)).1.keep hO (fun _ _ h => h)
          rw [e2] at q1
          have HH := hide hH
          have HO := hide hO
          generalize x1[j] = xj at *
          clear hlr ek e2 hH
          go_wp2_with fail
          generalize wr = WQ at *
          go_loopw [6] (fun iv wr => ∃ i : Nat, iv = .int .i64 i ∧ i ≤ n2_ ∧ Only (fun _ => False) WQ wr) (fun iv _ => n2_ - (intOf iv).toNat)
          case atStart => exact ⟨0, rfl, by omega, Only.refl _ _⟩
          case round =>
            obtain ⟨i, rfl, hi, ho⟩ := hrel
            have hlr := ((unhide HL).keep (unhide HO) (fun h => h)).keep ho (fun h => h)
            have c1' := Has.cell hlr 7
            have lr' := Has.lt hlr
            have os := ho.size
            have q1' := (World.cell?_of_block (a := ⟨gg, oo + j, none⟩) (ho.block gg hgg (fun h => h))).trans q1
            have hgg' : gg < wr.heap.size := by omega
            by_cases hil : i < n2_
            · have u1 : decide ((i : Int) < (n2_ : Int)) = true := decide_eq_true (by omega)
              have u1' : (i : Int) < (n2_ : Int) := by omega
              have hHr := (unhide HH).keep ho (fun h => h)
              have hg2 := hHr.lt
              obtain ⟨p0, p1, p2⟩ := patH_at wr hHr i hil
              have Ho := hide ho
              clear hlr hHr ho
              go_wp2_with fail
              go_roundw
              case rel => exact ⟨i + 1, by go_num, by omega, (unhide Ho).alloc _⟩
              case measure => simp [intOf]; omega
            · have u1 : decide ((i : Int) < (n2_ : Int)) = false := decide_eq_false (by omega)
              have Ho := hide ((unhide HO).trans ho (fun _ _ h => h))
              clear hlr ho
              go_wp2_with fail
              go_roundw
              case rel => exact ⟨j + 1, by go_num, by omega, unhide Ho⟩
              case measure => simp [intOf]; omega
        · have t1 : decide ((j : Int) < (x1.length : Int)) = false := decide_eq_false (by omega)
          clear hlr
          go_wp2_with fail
          go_loopw [8] (fun jv wr => ∃ j : Nat, jv = .int .i64 j ∧ j ≤ x2.length ∧ Only (fun _ => False) w wr) (fun jv _ => x2.length - (intOf jv).toNat)
          case atStart => exact ⟨0, rfl, by omega, hO⟩
          case round =>
            clear hO
            obtain ⟨j, rfl, hj, hO⟩ := hrel
            have hlr := (unhide HL).keep hO (fun h => h)
            have c2 := Has.cell hlr 8
            have lr := Has.lt hlr
            by_cases hjl : j < x2.length
            · have t1 : decide ((j : Int) < (x2.length : Int)) = true := decide_eq_true (by omega)
              have t1' : (j : Int) < (x2.length : Int) := by omega
              obtain ⟨gg, oo, cc, ek, hgg, q2⟩ := ((unhide R2).1.keep hO (fun _ _ h => h)).at j hjl
              obtain ⟨rfl, rfl⟩ : b2 = some ⟨gg, oo, none⟩ ∧ d2 = cc := by simpa using ek
              obtain ⟨g2, n2_, e2, hn2, hH⟩ := ((unhide R2).2 _ (List.getElem_mem hjl)).1.keep hO (fun _ _ h => h)
              rw [e2] at q2
              have HH := hide hH
              have HO := hide hO
              generalize x2[j] = xj at *
              clear hlr ek e2 hH
              go_wp2_with fail
              generalize wr = WQ at *
              go_loopw [9] (fun iv wr => ∃ i : Nat, iv = .int .i64 i ∧ i ≤ n2_ ∧ Only (fun _ => False) WQ wr) (fun iv _ => n2_ - (intOf iv).toNat)
              case atStart => exact ⟨0, rfl, by omega, Only.refl _ _⟩
              case round =>
                obtain ⟨i, rfl, hi, ho⟩ := hrel
                have hlr := ((unhide HL).keep (unhide HO) (fun h => h)).keep ho (fun h => h)
                have c2' := Has.cell hlr 8
                have lr' := Has.lt hlr
                have os := ho.size
                have q2' := (World.cell?_of_block (a := ⟨gg, oo + j, none⟩) (ho.block gg hgg (fun h => h))).trans q2
                have hgg' : gg < wr.heap.size := by omega
                by_cases hil : i < n2_
                · have u1 : decide ((i : Int) < (n2_ : Int)) = true := decide_eq_true (by omega)
                  have u1' : (i : Int) < (n2_ : Int) := by omega
                  have hHr := (unhide HH).keep ho (fun h => h)
                  have hg2 := hHr.lt
                  obtain ⟨p0, p1, p2⟩ := (unhide HPF) wr hHr i hil
                  have Ho := hide ho
                  clear hlr hHr ho
                  go_wp2_with fail
                  go_roundw
                  case rel => exact ⟨i + 1, by go_num, by omega, (unhide Ho).alloc _⟩
                  case measure => simp [intOf]; omega
                · have u1 : decide ((i : Int) < (n2_ : Int)) = false := decide_eq_false (by omega)
                  have Ho := hide ((unhide HO).trans ho (fun _ _ h => h))
                  clear hlr ho
                  go_wp2_with fail
                  go_roundw
                  case rel => exact ⟨j + 1, by go_num, by omega, unhide Ho⟩
                  case measure => simp [intOf]; omega
            · have t1 : decide ((j : Int) < (x2.length : Int)) = false := decide_eq_false (by omega)
              clear hlr
              go_wp2_with fail
              go_loopw [11] (fun jv wr => ∃ j : Nat, jv = .int .i64 j ∧ j ≤ x3.length ∧ Only (fun _ => False) w wr) (fun jv _ => x3.length - (intOf jv).toNat)
              case atStart => exact ⟨0, rfl, by omega, hO⟩
              case round =>
                clear hO
                obtain ⟨j, rfl, hj, hO⟩ := hrel
                have hlr := (unhide HL).keep hO (fun h => h)
                have c3 := Has.cell hlr 9
                have lr := Has.lt hlr
                by_cases hjl : j < x3.length
                · have t1 : decide ((j : Int) < (x3.length : Int)) = true := decide_eq_true (by omega)
                  have t1' : (j : Int) < (x3.length : Int) := by omega
                  obtain ⟨gg, oo, cc, ek, hgg, q3⟩ := ((unhide R3).1.keep hO (fun _ _ h => h)).at j hjl
                  obtain ⟨rfl, rfl⟩ : b3 = some ⟨gg, oo, none⟩ ∧ d3 = cc := by simpa using ek
                  obtain ⟨g2, n2_, e2, hn2, hH⟩ := ((unhide R3).2 _ (List.getElem_mem hjl)).1.keep hO (fun _ _ h => h)
                  rw [e2] at q3
                  have HH := hide hH
                  have HO := hide hO
                  generalize x3[j] = xj at *
                  clear hlr ek e2 hH
                  go_wp2_with fail
                  generalize wr = WQ at *
                  go_loopw [12] (fun iv wr => ∃ i : Nat, iv = .int .i64 i ∧ i ≤ n2_ ∧ Only (fun _ => False) WQ wr) (fun iv _ => n2_ - (intOf iv).toNat)
                  case atStart => exact ⟨0, rfl, by omega, Only.refl _ _⟩
                  case round =>
                    obtain ⟨i, rfl, hi, ho⟩ := hrel
                    have hlr := ((unhide HL).keep (unhide HO) (fun h => h)).keep ho (fun h => h)
                    have c3' := Has.cell hlr 9
                    have lr' := Has.lt hlr
                    have os := ho.size
                    have q3' := (World.cell?_of_block (a := ⟨gg, oo + j, none⟩) (ho.block gg hgg (fun h => h))).trans q3
                    have hgg' : gg < wr.heap.size := by omega
                    by_cases hil : i < n2_
                    · have u1 : decide ((i : Int) < (n2_ : Int)) = true := decide_eq_true (by omega)
                      have u1' : (i : Int) < (n2_ : Int) := by omega
                      have hHr := (unhide HH).keep ho (fun h => h)
                      have hg2 := hHr.lt
                      obtain ⟨p0, p1, p2⟩ := (unhide HPC) wr hHr i hil
                      have Ho := hide ho
                      clear hlr hHr ho
                      go_wp2_with fail
                      go_roundw
                      case rel => exact ⟨i + 1, by go_num, by omega, (unhide Ho).alloc _⟩
                      case measure => simp [intOf]; omega
                    · have u1 : decide ((i : Int) < (n2_ : Int)) = false := decide_eq_false (by omega)
                      have Ho := hide ((unhide HO).trans ho (fun _ _ h => h))
                      clear hlr ho
                      go_wp2_with fail
                      go_roundw
                      case rel => exact ⟨j + 1, by go_num, by omega, unhide Ho⟩
                      case measure => simp [intOf]; omega
                · have t1 : decide ((j : Int) < (x3.length : Int)) = false := decide_eq_false (by omega)
                  clear hlr
                  go_wp2_with fail
                  go_ret
                  exact ⟨rfl, hO⟩
end Go.Proofs.Qxb6500416a
