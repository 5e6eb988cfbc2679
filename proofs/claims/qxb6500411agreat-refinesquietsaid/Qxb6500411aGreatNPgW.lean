/-
  OWN WORK. THE MODEL pagerm.Pager: FreePages, Begin, Alloc, Free, Put.
-/
import Derived.Test.Qxb6500411aGreatNPg
import Derived.Deep.RegionWith
import Derived.Deep.DeepCutAuto
namespace Go.Proofs.Qxb6500411aGreat
open Go.RowKit
set_option linter.unusedSimpArgs false
set_option linter.unusedVariables false

section
variable {w : World} {q : Nat} {uc : List Bool} {pc : List ByteArray} {um : List Bool} {pm : List ByteArray} {ub : List Bool} {pb : List ByteArray} {hist : Option (List Bool × List ByteArray)} {op : Bool} {F : Nat → Prop}

set_option maxRecDepth 100000 in
theorem nfreePages_any (h : MPAt w q uc pc um pm ub pb hist op F) :
    Calls Tryz.prog 80 #[.pointer (some ⟨q, 0, none⟩)] w fun e w' => e = .returned (.int .i64 (cnt (usedL uc) 72)) ∧ w = w' := by
  obtain ⟨⟨s0, s1, s2, hv, F0, F1, k1, ⟨⟨b0, b1, g1, g2, g3, f, f0, f1⟩, lu, lp, hi⟩, _⟩, _⟩ := h
  have c0 := k1.cell 0
  have c1 := g1.cell 0
  go_enter Tryz.func80, Tryz.ntmps80
  go_wp2_with fail
  go_loop [3, 4] (fun c v => ∃ k : Nat, 1 ≤ k ∧ k ≤ 72 ∧ v = .int .i64 k ∧ c = .int .i64 (cnt (usedL uc) k)) (fun _ v => (72 - intOf v).toNat)
  case atStart => exact ⟨1, by omega, by omega, rfl, rfl⟩
  case round =>
    obtain ⟨k, hk1, hk, rfl, rfl⟩ := hrel
    by_cases hk8 : k < 72
    · have p0 := g2.cell k
      rw [bools_get _ _ (by omega)] at p0
      have e1 : usedL uc k = uc[k] := by simp [usedL, List.getD_eq_getElem?_getD, lu, hk8]
      have hs := cnt_succ (usedL uc) k
      have hle := cnt_le (usedL uc) k
      rw [e1] at hs
      clear e1
      generalize uc[k] = u at *
      have hk' : (k : Int) < 72 := by omega
      generalize cnt (usedL uc) k = ck at *
      cases u with
      | true =>
        rw [if_neg (by simp)] at hs
        have Hs := hide hs
        clear hs
        go_wp2_with fail
        go_round
        case rel => exact ⟨k + 1, by omega, by omega, by go_num, by rw [unhide Hs]; rfl⟩
        case measure => simp [intOf]; omega
      | false =>
        rw [if_pos ⟨by omega, rfl⟩] at hs
        have Hs := hide hs
        clear hs
        go_wp2_with fail
        go_round
        case rel => exact ⟨k + 1, by omega, by omega, by go_num, by rw [unhide Hs]; go_num⟩
        case measure => simp [intOf]; omega
    · obtain rfl : k = 72 := by omega
      go_wp2_with fail
      go_ret
      exact ⟨rfl, rfl⟩

theorem nbegin_open (h : MPAt w q uc pc um pm ub pb hist true F) :
    Calls Tryz.prog 62 #[.pointer (some ⟨q, 0, none⟩)] w fun e w' => e = .returned (.int .i64 3) ∧ w = w' := by
  obtain ⟨⟨s0, s1, s2, hv, F0, F1, h1, _⟩, _⟩ := h
  have c := h1.cell 4
  go_enter Tryz.func62, Tryz.ntmps62
  go_wp2
  go_ret
  exact ⟨rfl, rfl⟩

/-- The open flag was turned. -/
theorem MPAt.setOp (h : MPAt w q uc pc um pm ub pb hist op F) (b : Bool) : MPAt (w.setCell ⟨q, 4, none⟩ (.bool b)) q uc pc um pm ub pb hist b F ∧ Only (fun k => k = q) w (w.setCell ⟨q, 4, none⟩ (.bool b)) ∧ w.cell? ⟨q, 4, none⟩ = some (.bool op) ∧ w.frozen? ⟨q, 4, none⟩ = false := by
  obtain ⟨⟨s0, s1, s2, hv, F0, F1, h1, h2, h3, h4, h5, fh, f, f0, f1⟩, hi⟩ := h
  have o := PAt.only1 (w := w) (p := q) 4 (.bool b)
  refine ⟨⟨⟨s0, s1, s2, hv, F0, F1, h1.setCell 4 (.bool b), h2.keep o (fun x hx => (f0 x hx).2.1), h3.keep o (fun x hx => (f1 x hx).2), h4.keep o (fun x hx => (f1 x hx).2), h5.keep o (fun x hx => (f1 x hx).2) (fun k hk => (fh k hk).2.1), fh, f, f0, f1⟩, fun k hk => by simpa using hi k hk⟩, o, ?_, h1.free 4⟩
  exact h1.cell 4

theorem nbegin_shut (h : MPAt w q uc pc um pm ub pb hist false F) :
    Calls Tryz.prog 62 #[.pointer (some ⟨q, 0, none⟩)] w fun e w' => e = .returned (.int .i64 0) ∧ MPAt w' q uc pc um pm ub pb hist true F ∧ Only F w w' := by
  obtain ⟨h2, o, c, z⟩ := h.setOp true
  have fq : F q := by obtain ⟨⟨s0, s1, s2, hv, F0, F1, h1, h2, h3, h4, h5, fh, f, f0, f1⟩, hi⟩ := h; exact f
  clear h
  go_enter Tryz.func62, Tryz.ntmps62
  go_wp2
  go_ret
  exact ⟨rfl, h2, o.mono (fun _ _ e => e ▸ fq)⟩

theorem nalloc_shut (h : MPAt w q uc pc um pm ub pb hist false F) :
    Calls Tryz.prog 68 #[.pointer (some ⟨q, 0, none⟩)] w fun e w' => e = .returned (.tuple #[.int .i64 0, .int .i64 2]) ∧ w = w' := by
  obtain ⟨⟨s0, s1, s2, hv, F0, F1, h1, _⟩, _⟩ := h
  have c := h1.cell 4
  go_enter Tryz.func68, Tryz.ntmps68
  go_wp2
  go_ret2
  exact ⟨rfl, rfl⟩

/-- The current state was turned in place. -/
theorem MPAt.turned (h : MPAt w q uc pc um pm ub pb hist op F) : ∃ s0 b0 b1, w.cell? ⟨q, 0, none⟩ = some (.pointer (some ⟨s0, 0, none⟩)) ∧ Has w s0 #[.slice (some ⟨b0, 0, none⟩) 72 72, .slice (some ⟨b1, 0, none⟩) 72 72] 83 ∧ Has w b0 (bools uc) 4 ∧ Has w b1 (strs pc) 57 ∧ b0 ≠ q ∧ b1 ≠ q ∧
    ∀ (w' : World) (uc' : List Bool) (pc' : List ByteArray), uc'.length = 72 → pc'.length = 72 → Has w' s0 #[.slice (some ⟨b0, 0, none⟩) 72 72, .slice (some ⟨b1, 0, none⟩) 72 72] 83 → Has w' b0 (bools uc') 4 → Has w' b1 (strs pc') 57 → Only (fun k => k = b0 ∨ k = b1) w w' → MPAt w' q uc' pc' um pm ub pb hist op F ∧ Only F w w' := by
  obtain ⟨⟨s0, s1, s2, hv, F0, F1, h1, ⟨⟨b0, b1, g1, g2, g3, e, e0, e1⟩, lu, lp, gi⟩, h3, h4, h5, fh, f, f0, f1⟩, hi⟩ := h
  refine ⟨s0, b0, b1, h1.cell 0, g1, g2, g3, (f0 b0 e0).2.1, (f0 b1 e1).2.1, ?_⟩
  intro w' uc' pc' lu' lp' k1 k2 k3 ho
  have hq : ¬ (q = b0 ∨ q = b1) := by
    rintro (h | h)
    · exact (f0 b0 e0).2.1 h.symm
    · exact (f0 b1 e1).2.1 h.symm
  have hF : ∀ x, F1 x → ¬ (x = b0 ∨ x = b1) := by
    rintro x hx (h | h)
    · exact (f0 b0 e0).2.2 (h ▸ hx)
    · exact (f0 b1 e1).2.2 (h ▸ hx)
  have hH : ∀ k, hv.ownBlock = some k → ¬ (k = b0 ∨ k = b1) := by
    rintro k hk (h | h)
    · exact (fh k hk).2.2.1 (h ▸ e0)
    · exact (fh k hk).2.2.1 (h ▸ e1)
  refine ⟨⟨⟨s0, s1, s2, hv, F0, F1, h1.keep ho hq, ⟨⟨b0, b1, k1, k2, k3, e, e0, e1⟩, lu', lp', fun x hx => Nat.lt_of_lt_of_le (gi x hx) ho.size⟩, h3.keep ho hF, h4.keep ho hF, h5.keep ho hF hH, fh, f, f0, f1⟩, fun x hx => Nat.lt_of_lt_of_le (hi x hx) ho.size⟩, ho.mono ?_⟩
  rintro x _ (h | h)
  · exact h ▸ (f0 b0 e0).1
  · exact h ▸ (f0 b1 e1).1
theorem MPAt.opc (h : MPAt w q uc pc um pm ub pb hist op F) : w.cell? ⟨q, 4, none⟩ = some (.bool op) := by
  obtain ⟨⟨s0, s1, s2, hv, F0, F1, h1, _⟩, _⟩ := h
  exact h1.cell 4

set_option maxRecDepth 100000 in
set_option maxHeartbeats 1000000 in
theorem nalloc_open (h : MPAt w q uc pc um pm ub pb hist true F) :
    Calls Tryz.prog 68 #[.pointer (some ⟨q, 0, none⟩)] w fun e w' =>
      (lowOf (usedL uc) = 0 ∧ e = .returned (.tuple #[.int .i64 0, .int .i64 6]) ∧ w = w') ∨
      (lowOf (usedL uc) ≠ 0 ∧ e = .returned (.tuple #[.int .i64 (lowOf (usedL uc)), .int .i64 0]) ∧ MPAt w' q (uc.set (lowOf (usedL uc)) true) (pc.set (lowOf (usedL uc)) zeroB) um pm ub pb hist true F ∧ Only F w w') := by
  have c4 := h.opc
  have lens := h.lens
  obtain ⟨s0, b0, b1, c0, g1, g2, g3, nq0, nq1, back⟩ := h.turned
  have Back := hide back
  clear back h
  have lu := lens.1
  have lp := lens.2.1
  have c1 := g1.cell 0
  have c2 := g1.cell 1
  go_enter Tryz.func68, Tryz.ntmps68
  go_wp2_with fail
  go_loop [4] (fun v => ∃ k : Nat, 1 ≤ k ∧ k ≤ 72 ∧ v = .int .i64 k ∧ ∀ j, 1 ≤ j → j < k → usedL uc j = true) (fun v => (72 - intOf v).toNat)
  case atStart => exact ⟨1, by omega, by omega, rfl, fun j h1 h2 => by omega⟩
  case round =>
    obtain ⟨k, hk1, hk, rfl, ha⟩ := hrel
    have Ha := hide ha
    clear ha
    by_cases hk8 : k < 72
    · have p0 := g2.cell k
      rw [bools_get _ _ (by omega)] at p0
      have p1 := g3.cell k
      rw [strs_get _ _ (by omega)] at p1
      have e1 : usedL uc k = uc[k] := by simp [usedL, List.getD_eq_getElem?_getD, lu, hk8]
      have E1 := hide e1
      clear e1
      generalize uc[k] = u at *
      generalize pc[k] = y at *
      have hk' : (k : Int) < 72 := by omega
      cases u with
      | false =>
        have z0 := g2.free k
        have z1 := g3.free k
        have n4 := g1.ne g2 (by decide)
        have n5 := g1.ne g3 (by decide)
        have n6 := g2.ne g3 (by decide)
        go_wp2_with fail
        go_ret2
        have hlo : lowOf (usedL uc) = k := lowOf_eq hk1 hk8 (unhide E1) (fun j h1 h2 => unhide Ha j h1 h2)
        rw [hlo]
        right
        have r2 := g2.setCell k (.bool true)
        rw [bools_set] at r2
        have r3 := (g3.setCell_other (p := ⟨b0, k, none⟩) n6.symm (.bool true)).setCell k (.string zeroB)
        rw [strs_set] at r3
        refine ⟨by omega, rfl, unhide Back _ _ _ (by simpa using lu) (by simpa using lp) ((g1.setCell_other (p := ⟨b0, k, none⟩) n4 (.bool true)).setCell_other (p := ⟨b1, k, none⟩) n5 (.string zeroB)) (r2.setCell_other (p := ⟨b1, k, none⟩) n6 (.string zeroB)) r3 ?_⟩
        exact ((Only.refl (fun k => k = b0 ∨ k = b1) w).setCell (p := ⟨b0, k, none⟩) (fun _ => .inl rfl) _).setCell (p := ⟨b1, k, none⟩) (fun _ => .inr rfl) _
      | true =>
        go_wp2_with fail
        go_round
        case rel =>
          refine ⟨k + 1, by omega, by omega, by go_num, fun j h1 h2 => ?_⟩
          by_cases hj : j = k
          · subst hj; exact unhide E1
          · exact unhide Ha j h1 (by omega)
        case measure => simp [intOf]; omega
    · obtain rfl : k = 72 := by omega
      go_wp2_with fail
      go_ret2
      left
      exact ⟨lowOf_zero (fun j h1 h2 => unhide Ha j h1 h2), rfl, rfl⟩

theorem nfree_shut (h : MPAt w q uc pc um pm ub pb hist false F) (n : Int) :
    Calls Tryz.prog 71 #[.pointer (some ⟨q, 0, none⟩), .int .i64 n] w fun e w' => e = .returned (.int .i64 2) ∧ w = w' := by
  have c4 := h.opc
  go_enter Tryz.func71, Tryz.ntmps71
  go_wp2
  go_ret
  exact ⟨rfl, rfl⟩
theorem nfree_bad (h : MPAt w q uc pc um pm ub pb hist true F) (n : Int) (hu : Calls Tryz.prog 59 #[.pointer (some ⟨q, 0, none⟩), .int .i64 n] w fun e w' => e = .returned (.bool false) ∧ w = w') :
    Calls Tryz.prog 71 #[.pointer (some ⟨q, 0, none⟩), .int .i64 n] w fun e w' => e = .returned (.int .i64 5) ∧ w = w' := by
  have c4 := h.opc
  have C1 := hide hu
  clear hu
  go_enter Tryz.func71, Tryz.ntmps71
  go_wp2_with fail
  refine (unhide C1).mono ?_
  rintro e w' ⟨rfl, rfl⟩
  go_wp2_with fail
  go_ret
  exact ⟨rfl, rfl⟩
set_option maxRecDepth 100000 in
theorem nfree_ok (h : MPAt w q uc pc um pm ub pb hist true F) (n : Nat) (h1 : 1 ≤ n) (hn : n < 72) (hu : usedL uc n = true) :
    Calls Tryz.prog 71 #[.pointer (some ⟨q, 0, none⟩), .int .i64 n] w fun e w' => e = .returned (.int .i64 0) ∧ MPAt w' q (uc.set n false) pc um pm ub pb hist true F ∧ Only F w w' := by
  have c4 := h.opc
  have C1 := nused_in h n h1 hn
  rw [hu] at C1
  have C1 := hide C1
  have lens := h.lens
  obtain ⟨s0, b0, b1, c0, g1, g2, g3, nq0, nq1, back⟩ := h.turned
  have Back := hide back
  clear back h
  have lu := lens.1
  have c1 := g1.cell 0
  have p0 := g2.cell n
  rw [bools_get _ _ (by omega)] at p0
  generalize uc[n] = u at p0
  have z0 := g2.free n
  have n4 := g1.ne g2 (by decide)
  have n6 := g2.ne g3 (by decide)
  have hn' : (n : Int) < 72 := by omega
  go_enter Tryz.func71, Tryz.ntmps71
  go_wp2_with fail
  refine (unhide C1).mono ?_
  rintro e w' ⟨rfl, rfl⟩
  go_wp2_with fail
  go_ret
  have r2 := g2.setCell n (.bool false)
  rw [bools_set] at r2
  exact ⟨rfl, unhide Back _ _ _ (by simpa using lu) lens.2.1 (g1.setCell_other (p := ⟨b0, n, none⟩) n4 (.bool false)) r2 (g3.setCell_other (p := ⟨b0, n, none⟩) n6.symm (.bool false)) ((Only.refl (fun k => k = b0 ∨ k = b1) w).setCell (p := ⟨b0, n, none⟩) (fun _ => .inl rfl) _)⟩

theorem nput_shut (h : MPAt w q uc pc um pm ub pb hist false F) (n : Int) (x : ByteArray) :
    Calls Tryz.prog 75 #[.pointer (some ⟨q, 0, none⟩), .int .i64 n, .string x] w fun e w' => e = .returned (.int .i64 2) ∧ w = w' := by
  have c4 := h.opc
  go_enter Tryz.func75, Tryz.ntmps75
  go_wp2
  go_ret
  exact ⟨rfl, rfl⟩
theorem nput_bad (h : MPAt w q uc pc um pm ub pb hist true F) (n : Int) (x : ByteArray) (hu : Calls Tryz.prog 59 #[.pointer (some ⟨q, 0, none⟩), .int .i64 n] w fun e w' => e = .returned (.bool false) ∧ w = w') :
    Calls Tryz.prog 75 #[.pointer (some ⟨q, 0, none⟩), .int .i64 n, .string x] w fun e w' => e = .returned (.int .i64 5) ∧ w = w' := by
  have c4 := h.opc
  have C1 := hide hu
  clear hu
  go_enter Tryz.func75, Tryz.ntmps75
  go_wp2_with fail
  refine (unhide C1).mono ?_
  rintro e w' ⟨rfl, rfl⟩
  go_wp2_with fail
  go_ret
  exact ⟨rfl, rfl⟩
set_option maxRecDepth 100000 in
set_option maxHeartbeats 1000000 in
theorem nput_ok (h : MPAt w q uc pc um pm ub pb hist true F) (n : Nat) (x : ByteArray) (hx : x.size ≤ maxLen) (h1 : 1 ≤ n) (hn : n < 72) (hu : usedL uc n = true) :
    Calls Tryz.prog 75 #[.pointer (some ⟨q, 0, none⟩), .int .i64 n, .string x] w fun e w' => e = .returned (.int .i64 0) ∧ MPAt w' q uc (pc.set n (blockOf x)) um pm ub pb hist true F ∧ Only F w w' := by
  have c4 := h.opc
  have C1 := nused_in h n h1 hn
  rw [hu] at C1
  have C1 := hide C1
  have lens := h.lens
  obtain ⟨s0, b0, b1, c0, g1, g2, g3, nq0, nq1, back⟩ := h.turned
  have Back := hide back
  clear back h
  have lp := lens.2.1
  have c1 := g1.cell 1
  have p0 := g3.cell n
  rw [strs_get _ _ (by omega)] at p0
  generalize pc[n] = u at p0
  have z0 := g3.free n
  have n4 := g1.ne g3 (by decide)
  have n6 := g2.ne g3 (by decide)
  have hn' : (n : Int) < 72 := by omega
  go_enter Tryz.func75, Tryz.ntmps75
  go_wp2_with fail
  refine (unhide C1).mono ?_
  rintro e w' ⟨rfl, rfl⟩
  go_wp2_with fail
  go_region_with (go_at_call 103; refine (blockOf_any x _ hx).mono ?_; rintro e w3 ⟨rfl, rfl⟩)
  all_goals
    go_wp2_with fail
    go_ret
    have r2 := g3.setCell n (.string (blockOf x))
    rw [strs_set] at r2
    exact ⟨rfl, unhide Back _ _ _ lens.1 (by simpa using lp) (g1.setCell_other (p := ⟨b1, n, none⟩) n4 (.string (blockOf x))).drew (g2.setCell_other (p := ⟨b1, n, none⟩) n6 (.string (blockOf x))).drew r2.drew ((Only.refl (fun k => k = b0 ∨ k = b1) w).setCell (p := ⟨b1, n, none⟩) (fun _ => .inr rfl) _).drew⟩
end
end Go.Proofs.Qxb6500411aGreat
