/-
  OWN WORK. QUERY's LAW: Play, OneStep, Fetched (written by tools/gen_ql12.py).
-/
import Derived.Test.Qxb6500412aGreatQL11
namespace Go.Proofs.Qxb6500412aGreat
open Go.RowKit Go.PlainAid
set_option linter.unusedSimpArgs false
set_option linter.unusedVariables false

section
variable {lo : Nat} {w w' w0 : World} {p : Gnd} {k g x : Nat} {M : Mu} {K : Nat → Prop} {last : Int} {k2 q2 : Nat} {H : Nat → Prop} {kb qb : Nat} {Hb E B : Nat → Prop} {kk : Nat} {R : Rs}
/-- An observer. -/
theorem WQ.idle (W : WQ lo w p k g x M K last k2 q2 M H kb qb M Hb E) (hrs : p.recs = []) (Kp : KpQ w kk R B) (hBE : ∀ b, B b ∨ b = kk → E b) (A : AQ p k g x k2 q2 M M K H last w w') (road : Nat) : SeP lo w p k g x K k2 q2 H kb qb M Hb E kk B M R last (.returned (.tuple #[.bool true, .bool false, .int .i64 last, .int .i64 road])) w' :=
  ⟨false, road, p, K, H, B, rfl, (W.alike A).sub (fun b hb => hb.elim id (fun c => hBE b (.inl c))), Kp.keep A.on (fun b hb => W.nS (hBE b hb)), fun b hb => .inl hb, rfl, .inl (by rw [hrs]; rfl), A.on.mono (fun b _ c => .inl (.inl (Gnd.S_A c)))⟩
theorem SeP.low {M' : Mu} {R' : Rs} {pl : Int} {e : Ending} (o : Only (fun _ => False) w0 w) (h : SeP lo w p k g x K k2 q2 H kb qb M Hb E kk B M' R' pl e w') : SeP lo w0 p k g x K k2 q2 H kb qb M Hb E kk B M' R' pl e w' := by
  obtain ⟨loud, road, p', K', H', B', h1, h2, h3, h4, h5, h6, h7⟩ := h
  exact ⟨loud, road, p', K', H', B', h1, h2, h3, fun b hb => (h4 b hb).imp id (fun c => Nat.le_trans o.size c), h5, h6, (o.mono (fun _ _ e => e.elim)).trans h7 (fun _ _ e => e)⟩
/-- What Play leaves. -/
def PyQ (lo : Nat) (w : World) (p : Gnd) (k g x : Nat) (K : Nat → Prop) (k2 q2 : Nat) (H : Nat → Prop) (kb qb : Nat) (Mb : Mu) (Hb E : Nat → Prop) (kk : Nat) (B : Nat → Prop) (e : Ending) (w' : World) : Prop := ∃ M' R' pl, SeP lo w p k g x K k2 q2 H kb qb Mb Hb E kk B M' R' pl e w'
set_option maxRecDepth 100000 in
set_option maxHeartbeats 16000000 in
theorem slplay_any (W : WQ lo w p k g x M K last k2 q2 M H kb qb M Hb E) (hbs : p.base = p.blk) (hrs : p.recs = []) (Kp : KpQ w kk R B) (hBE : ∀ b, B b ∨ b = kk → E b) (ok oa ob oc : Int) (os ot : ByteArray) : Calls Tryz.prog 25 #[.pointer (some ⟨k, 0, none⟩), .pointer (some ⟨k2, 0, none⟩), .agg #[.int .i64 ok, .int .i64 oa, .int .i64 ob, .int .i64 oc, .string os, .string ot], .int .i64 last, .pointer (some ⟨kk, 0, none⟩)] w (PyQ lo w p k g x K k2 q2 H kb qb M Hb E kk B) := by
  have o1 : Only (fun _ => False) w (w.alloc (.cells #[.int .i64 ok, .int .i64 oa, .int .i64 ob, .int .i64 oc, .string os, .string ot] 38)) := (Only.refl _ w).alloc _
  have N1 := Has.new w #[.int .i64 ok, .int .i64 oa, .int .i64 ob, .int .i64 oc, .string os, .string ot] 38
  have HW := hide (W.quiet o1)
  have HKp := hide (Kp.quiet o1)
  have HB := hide (And.intro hbs (And.intro hrs hBE))
  have HO := hide o1
  clear W Kp hbs hrs hBE o1
  go_enter Tryz.func25, Tryz.ntmps25
  go_upto_region 1 with fail
  generalize w.alloc (.cells #[.int .i64 ok, .int .i64 oa, .int .i64 ob, .int .i64 oc, .string os, .string ot] 38) = w1 at *
  have c0 : w1.cell? ⟨w.heap.size, 0, none⟩ = some (.int .i64 ok) := N1.cell 0
  have c1 : w1.cell? ⟨w.heap.size, 1, none⟩ = some (.int .i64 oa) := N1.cell 1
  have c4 : w1.cell? ⟨w.heap.size, 4, none⟩ = some (.string os) := N1.cell 4
  have cl := N1.lt
  have HN := hide N1
  clear N1
  generalize w.heap.size = G at *
  by_cases e1 : ok = 1
  · have d1 : (ok == 1) = true := by simpa using e1
    clear e1
    have C := hide (slsameExec_any (unhide HW) (unhide HB).1 (unhide HB).2.1 (unhide HKp) (unhide HB).2.2 oa os)
    go_wp2_with fail
    refine (unhide C).mono ?_
    intro e w2 h
    obtain ⟨loud, road, p', K', H', B', rfl, h⟩ := h
    have FF := hide (show PyQ lo w p k g x K k2 q2 H kb qb M Hb E kk B (.returned (.tuple #[.bool true, .bool loud, .int .i64 (plnQ M oa os last), .int .i64 road])) w2 from ⟨_, _, _, SeP.low (unhide HO) ⟨loud, road, p', K', H', B', rfl, h⟩⟩)
    generalize plnQ M oa os last = pl at *
    clear h C
    go_wp2_with fail
    refine bodyPost_ret (results_tmp4 rfl _ _ _) rfl ?_
    exact unhide FF
  have d1 : (ok == 1) = false := by simpa using e1
  by_cases e2 : ok = 2
  · have d2 : (ok == 2) = true := by simpa using e2
    clear e1 e2
    have C := slsameActive_any (unhide HW).qr (unhide HW).me oa
    rw [beq_self_eq_true] at C
    have C := hide C
    go_wp2_with fail
    refine (unhide C).mono ?_
    rintro e w2 ⟨rfl, rfl⟩
    have FF := hide (show PyQ lo w p k g x K k2 q2 H kb qb M Hb E kk B (.returned (.tuple #[.bool true, .bool false, .int .i64 last, .int .i64 0])) w1 from ⟨M, R, last, ((unhide HW).idle (unhide HB).2.1 (unhide HKp) (unhide HB).2.2 (unhide HW).aq 0).low (unhide HO)⟩)
    clear C
    go_wp2_with fail
    refine bodyPost_ret (results_tmp4 rfl _ _ _) rfl ?_
    exact unhide FF
  have d2 : (ok == 2) = false := by simpa using e2
  by_cases e3 : ok = 3
  · have d3 : (ok == 3) = true := by simpa using e3
    clear e1 e2 e3
    have C := slsameLockOf_any (unhide HW).qr (unhide HW).me oa os
    rw [beq_self_eq_true] at C
    have C := hide C
    go_wp2_with fail
    refine (unhide C).mono ?_
    rintro e w2 ⟨rfl, rfl⟩
    have FF := hide (show PyQ lo w p k g x K k2 q2 H kb qb M Hb E kk B (.returned (.tuple #[.bool true, .bool false, .int .i64 last, .int .i64 0])) w1 from ⟨M, R, last, ((unhide HW).idle (unhide HB).2.1 (unhide HKp) (unhide HB).2.2 (unhide HW).aq 0).low (unhide HO)⟩)
    clear C
    go_wp2_with fail
    refine bodyPost_ret (results_tmp4 rfl _ _ _) rfl ?_
    exact unhide FF
  have d3 : (ok == 3) = false := by simpa using e3
  by_cases e4 : ok = 4
  · have d4 : (ok == 4) = true := by simpa using e4
    clear e1 e2 e3 e4
    have C3 := smview_any (unhide HW).me oa os
    obtain ⟨V, hV⟩ : ∃ V, (anV M oa os).rows = V := ⟨_, rfl⟩
    obtain ⟨z, hz⟩ : ∃ V, (anV M oa os).e = V := ⟨_, rfl⟩
    rw [hV, hz] at C3
    have C3 := hide C3
    clear hV hz
    go_wp2_with fail
    refine (unhide C3).mono ?_
    rintro e w4 ⟨rv, Z, rfl, hZm, own, hr, hNv, o4⟩
    obtain ⟨ra, rc, rfl⟩ := ownsRow_shape own
    obtain ⟨rn, hrn⟩ : ∃ n, Z.length = n := ⟨_, rfl⟩
    rw [hrn]
    have c1 : w4.cell? ⟨G, 1, none⟩ = some (.int .i64 oa) := o4.cellS c1
    have c4 : w4.cell? ⟨G, 4, none⟩ = some (.string os) := o4.cellS c4
    have cl : G < w4.heap.size := Nat.lt_of_lt_of_le cl o4.size
    have HW := hide ((unhide HW).quiet o4)
    have HKp := hide ((unhide HKp).quiet o4)
    have HO := hide ((unhide HO).trans o4 (fun _ _ e => e))
    clear C3 hZm own hr hNv o4 hrn c0
    have C := hide (slsameView_any (unhide HW).aq (unhide HW).apq oa os)
    go_wp2_with fail
    refine (unhide C).mono ?_
    rintro e w2 ⟨b, rfl, hb, A2⟩
    obtain rfl : b = true := hb.mpr (by first | rfl | trivial)
    have FF := hide (show PyQ lo w p k g x K k2 q2 H kb qb M Hb E kk B (.returned (.tuple #[.bool true, .bool false, .int .i64 last, .int .i64 rn])) w2 from ⟨M, R, last, ((unhide HW).idle (unhide HB).2.1 (unhide HKp) (unhide HB).2.2 A2 rn).low (unhide HO)⟩)
    clear C A2 hb
    go_wp2_with fail
    refine bodyPost_ret (results_tmp4 rfl _ _ _) rfl ?_
    exact unhide FF
  have d4 : (ok == 4) = false := by simpa using e4
  by_cases e5 : ok = 5
  · have d5 : (ok == 5) = true := by simpa using e5
    clear e1 e2 e3 e4 e5
    have C := hide (slsameSchemaOf_any (unhide HW).aq (unhide HW).apq os)
    go_wp2_with fail
    refine (unhide C).mono ?_
    rintro e w2 ⟨b, rfl, hb, A2⟩
    obtain rfl : b = true := hb.mpr (by first | rfl | trivial)
    have FF := hide (show PyQ lo w p k g x K k2 q2 H kb qb M Hb E kk B (.returned (.tuple #[.bool true, .bool false, .int .i64 last, .int .i64 0])) w2 from ⟨M, R, last, ((unhide HW).idle (unhide HB).2.1 (unhide HKp) (unhide HB).2.2 A2 0).low (unhide HO)⟩)
    clear C A2 hb
    go_wp2_with fail
    refine bodyPost_ret (results_tmp4 rfl _ _ _) rfl ?_
    exact unhide FF
  have d5 : (ok == 5) = false := by simpa using e5
  by_cases e6 : ok = 6
  · have d6 : (ok == 6) = true := by simpa using e6
    clear e1 e2 e3 e4 e5 e6
    have C := hide (slsameTables_any (unhide HW).aq (unhide HW).apq)
    go_wp2_with fail
    refine (unhide C).mono ?_
    rintro e w2 ⟨b, rfl, hb, A2⟩
    obtain rfl : b = true := hb.mpr (by first | rfl | trivial)
    have FF := hide (show PyQ lo w p k g x K k2 q2 H kb qb M Hb E kk B (.returned (.tuple #[.bool true, .bool false, .int .i64 last, .int .i64 0])) w2 from ⟨M, R, last, ((unhide HW).idle (unhide HB).2.1 (unhide HKp) (unhide HB).2.2 A2 0).low (unhide HO)⟩)
    clear C A2 hb
    go_wp2_with fail
    refine bodyPost_ret (results_tmp4 rfl _ _ _) rfl ?_
    exact unhide FF
  have d6 : (ok == 6) = false := by simpa using e6
  by_cases e7 : ok = 7
  · have d7 : (ok == 7) = true := by simpa using e7
    clear e1 e2 e3 e4 e5 e6 e7
    have C := hide (sqchkE_any (unhide HW).qr (unhide HW).l0.1 (unhide HW).l0.2)
    go_wp2_with fail
    refine (unhide C).mono ?_
    rintro e w2 ⟨rfl, rfl⟩
    have FF := hide (show PyQ lo w p k g x K k2 q2 H kb qb M Hb E kk B (.returned (.tuple #[.bool true, .bool false, .int .i64 last, .int .i64 0])) w1 from ⟨M, R, last, ((unhide HW).idle (unhide HB).2.1 (unhide HKp) (unhide HB).2.2 (unhide HW).aq 0).low (unhide HO)⟩)
    clear C
    go_wp2_with fail
    refine bodyPost_ret (results_tmp4 rfl _ _ _) rfl ?_
    exact unhide FF
  have d7 : (ok == 7) = false := by simpa using e7
  by_cases e8 : ok = 8
  · have d8 : (ok == 8) = true := by simpa using e8
    clear e1 e2 e3 e4 e5 e6 e7 e8
    have C := hide (sqlast_any (unhide HW).qr)
    go_wp2_with fail
    refine (unhide C).mono ?_
    rintro e w2 ⟨rfl, rfl⟩
    have FF := hide (show PyQ lo w p k g x K k2 q2 H kb qb M Hb E kk B (.returned (.tuple #[.bool true, .bool false, .int .i64 last, .int .i64 0])) w1 from ⟨M, R, last, ((unhide HW).idle (unhide HB).2.1 (unhide HKp) (unhide HB).2.2 (unhide HW).aq 0).low (unhide HO)⟩)
    clear C
    go_wp2_with fail
    refine bodyPost_ret (results_tmp4 rfl _ _ _) rfl ?_
    simpa using unhide FF
  have d8 : (ok == 8) = false := by simpa using e8
  clear e1 e2 e3 e4 e5 e6 e7 e8
  have FF := hide (show PyQ lo w p k g x K k2 q2 H kb qb M Hb E kk B (.returned (.tuple #[.bool true, .bool false, .int .i64 last, .int .i64 0])) w1 from ⟨M, R, last, ((unhide HW).idle (unhide HB).2.1 (unhide HKp) (unhide HB).2.2 (unhide HW).aq 0).low (unhide HO)⟩)
  go_wp2_with fail
  refine bodyPost_ret (results_tmp4 rfl _ _ _) rfl ?_
  exact unhide FF
end
set_option maxRecDepth 100000 in
theorem sloneStep_any (n : Nat) (loud : Bool) (h : n = 0 ∨ (loud = true ∧ n ≤ 146)) (w : World) : Calls Tryz.prog 26 #[.int .i64 n, .bool loud] w fun e w' => e = .returned (.bool true) ∧ w = w' := by
  have CM : ∀ w, Calls Tryz.prog 75 #[] w fun e w' => e = .returned (.int .i64 146) ∧ w = w' := fun w => by
    go_enter Tryz.func75, Tryz.ntmps75
    go_wp2_with fail
    go_ret
    exact ⟨rfl, rfl⟩
  have CM := hide CM
  cases loud with
  | false =>
    have h0 : n = 0 := by
      rcases h with h | ⟨h, _⟩
      · exact h
      · cases h
    subst h0
    clear h CM
    go_enter Tryz.func26, Tryz.ntmps26
    go_wp2_with fail
    go_ret
    exact ⟨rfl, rfl⟩
  | true =>
    have b3 : decide ((n : Int) ≤ 146) = true := by
      refine decide_eq_true ?_
      rcases h with h | h <;> omega
    clear h
    go_enter Tryz.func26, Tryz.ntmps26
    go_wp2_with fail
    refine (unhide CM _).mono ?_
    rintro e w1 ⟨rfl, rfl⟩
    go_wp2_with fail
    go_ret
    exact ⟨by first | rfl | trivial, rfl⟩
set_option maxRecDepth 100000 in
theorem slfetched_any (d f : Nat) (w : World) : Calls Tryz.prog 27 #[jbV d f] w fun e w' => e = .returned (.int .i64 (-1)) ∧ Only (fun _ => False) w w' := by
  have o1 : Only (fun _ => False) w (w.alloc (.cells (jbC d f) 30)) := (Only.refl _ w).alloc _
  unfold jbC at o1
  unfold jbV jbC
  go_enter Tryz.func27, Tryz.ntmps27
  go_wp2
  go_ret
  exact ⟨rfl, o1⟩
end Go.Proofs.Qxb6500412aGreat
