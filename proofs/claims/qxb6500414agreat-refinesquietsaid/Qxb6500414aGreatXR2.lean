/-
  OWN WORK. THE TXN LAW: Alike, Bracket, OneStep.
-/
import Derived.Test.Qxb6500414aGreatXR1
import Derived.Test.Qxb6500414aGreatXB0
namespace Go.Proofs.Qxb6500414aGreat
open Go.RowKit Go.PlainAid
set_option linter.unusedSimpArgs false
set_option linter.unusedVariables false

section
variable {q : Gnd} {g x m : Nat} {M M2 : Mu} {K H : Nat → Prop} {U : Db} {hist : Option Db} {w0 w w' : World}
theorem AL.base (h : AL q g x m M M2 K H U hist w0 w) : AL q g x m M M2 K H U hist w w := ⟨h.rx, h.nx, Only.refl _ _⟩
theorem AL.join (h : AL q g x m M M2 K H U hist w0 w) (k : AL q g x m M M2 K H U hist w w') : AL q g x m M M2 K H U hist w0 w' := ⟨k.rx, k.nx, h.on.trans k.on (fun _ _ e => e)⟩
theorem Apt.up (h : Apt q x K H w0) (hs : w0.heap.size ≤ w.heap.size) : Apt q x K H w := ⟨h.sep, fun b hb => Nat.lt_of_lt_of_le (h.lr b hb) hs, fun b hb => Nat.lt_of_lt_of_le (h.lh b hb) hs⟩
set_option maxRecDepth 100000 in
set_option maxHeartbeats 8000000 in
theorem xlalike_any (A : AL q g x m M M2 K H U hist w0 w) (ap : Apt q x K H w0) (hd2 : M2.com.length ≤ 3) : Calls Tryz.prog 29 #[.pointer (some ⟨g, 0, none⟩), .pointer (some ⟨m, 0, none⟩)] w (AaP q g x m M M2 K H U hist w0 (Obs M M2)) := by
  have hl1 : (namesD M.com).length ≤ 3 := by unfold namesD; rw [List.length_map]; exact A.rx.dg.1.len
  have hl2 : (namesD M2.com).length ≤ 3 := by unfold namesD; rw [List.length_map]; exact hd2
  have C1 := xntables_any A.nx
  have HAP := hide ap
  have HA := hide A
  obtain ⟨N1, hN1⟩ : ∃ N, namesD M.com = N := ⟨_, rfl⟩
  obtain ⟨N2, hN2⟩ : ∃ N, namesD M2.com = N := ⟨_, rfl⟩
  rw [hN2] at C1 hl2
  rw [hN1] at hl1
  have HNN := hide (And.intro hN1 hN2)
  have C1 := hide C1
  clear A ap hN1 hN2 hd2
  go_enter Tryz.func29, Tryz.ntmps29
  go_wp2_with fail
  refine (unhide C1).mono ?_
  rintro e w1 ⟨nv, rfl, G1⟩
  have z0 := (unhide HA).on.size
  have HA1 := hide ((unhide HA).quiet G1.ho)
  have HG1 := hide (And.intro (show OwnN w1 nv N2 from G1.own) (show ∀ k, nv.ownBlock = some k → w0.heap.size ≤ k ∧ k < w1.heap.size from fun k hk => ⟨by have := G1.hb k hk; omega, ownsRow_lt G1.own k hk⟩))
  obtain ⟨na, nc, hnv⟩ := ownsRow_shape G1.own
  obtain ⟨n, hn⟩ : ∃ n, N2.length = n := ⟨_, rfl⟩
  rw [hn] at hnv hl2
  have HN := hide hn
  subst hnv
  clear C1 G1 hn
  have C2 := rtables_any (unhide HA1).rx
  rw [(unhide HNN).1] at C2
  have C2 := hide C2
  go_wp2_with fail
  refine (unhide C2).mono ?_
  rintro e w2 ⟨xv, rfl, OX, nX, r2, o2⟩
  have z1 := (unhide HA1).on.size
  have z2 := o2.size
  have HA2 := hide ((unhide HA1).real (unhide HAP) r2 o2)
  have O2 : OwnN w2 (.slice na n nc) N2 := ownsRow_keep (unhide HG1).1 o2 (fun k hk c => by have := ((unhide HG1).2 k hk).1; have := (unhide HAP).lr k (.inl (Gnd.S_A c)); omega)
  obtain ⟨R, hR⟩ : ∃ R : Bool, decide (N1 = N2) = R := ⟨_, rfl⟩
  have C3 := hide (sameNames_any OX O2 (by omega) R hR)
  have HR := hide hR
  have HX := hide (And.intro OX (And.intro (show ∀ k, xv.ownBlock = some k → w1.heap.size ≤ k from nX) O2))
  clear C2 r2 o2 OX nX O2 hR HA1
  go_wp2_with fail
  refine (unhide C3).mono ?_
  rintro e w3 ⟨rfl, o3⟩
  have HA3 := hide ((unhide HA2).quiet o3)
  have HX3 := hide (And.intro (show OwnN w3 xv N1 from ownsRow_keep (unhide HX).1 o3 (fun _ _ e => e)) (show OwnN w3 (.slice na n nc) N2 from ownsRow_keep (unhide HX).2.2 o3 (fun _ _ e => e)))
  clear C3 o3 HA2
  cases R with
  | false =>
    have FF := hide (show AaP q g x m M M2 K H U hist w0 (Obs M M2) (.returned (.bool false)) w3 from ⟨false, rfl, ⟨(fun e => by cases e), fun e => absurd (show N1 = N2 from by rw [← (unhide HNN).1, ← (unhide HNN).2]; exact e.1) (of_decide_eq_false (unhide HR))⟩, unhide HA3⟩)
    go_wp2_with fail
    go_ret
    exact unhide FF
  | true =>
  have HNE := hide (of_decide_eq_true (unhide HR))
  have C4 := hide (spoilNames_any (unhide HX3).1 (by omega))
  go_wp2_with fail
  refine (unhide C4).mono ?_
  rintro e w4 ⟨rfl, o4⟩
  have HA4 := hide ((unhide HA3).spoil (unhide HAP) o4 (fun k hk => by have := (unhide HX).2.1 k hk; omega))
  have HN4 := hide (show OwnN w4 (.slice na n nc) N2 from ownsRow_keep (unhide HX3).2 o4 (fun k hk c => by have := ((unhide HG1).2 k hk).2; have := (unhide HX).2.1 k c; omega))
  clear C4 o4 HA3 HX3 HX HR z0 z1 z2
  go_upto_region 7 with fail
  go_loopw [7, 8, 9] (fun iv _ _ wr => ∃ s : Int, iv = .int .i64 s ∧ -1 ≤ s ∧ s ≤ 5 ∧ (∀ r, -1 ≤ r → r < s → actA M r = actA M2 r) ∧ wr = w4) (fun iv _ _ _ => (5 - intOf iv).toNat)
  case atStart => exact ⟨-1, rfl, by omega, by omega, fun r h1 h2 => by omega, rfl⟩
  case round =>
    obtain ⟨s, rfl, hs1, hs5, hall, rfl⟩ := hrel
    have HAL := hide hall
    clear hall
    by_cases hs : s ≤ 4
    · have e1 : decide (s ≤ 4) = true := decide_eq_true hs
      have C5 := ractive_any (unhide HA4).rx s
      have C6 := xnactive_any (unhide HA4).nx s
      obtain ⟨l1, hl1⟩ : ∃ l, (decide (gdS s) && M.act s.toNat) = l := ⟨_, rfl⟩
      obtain ⟨l2, hl2⟩ : ∃ l, (decide (gdS s) && M2.act s.toNat) = l := ⟨_, rfl⟩
      rw [hl1] at C5
      rw [hl2] at C6
      have HL := hide (show actA M s = l1 ∧ actA M2 s = l2 from ⟨hl1, hl2⟩)
      have C5 := hide C5
      have C6 := hide C6
      clear hl1 hl2
      go_wp2_with fail
      refine (unhide C5).mono ?_
      rintro e w7 ⟨rfl, rfl⟩
      go_wp2_with fail
      refine (unhide C6).mono ?_
      rintro e w7 ⟨rfl, rfl⟩
      clear C5 C6
      by_cases hll : l1 = l2
      rotate_left
      · have d1 : (l1 != l2) = true := by simpa using hll
        have d2 : (l1 == l2) = false := by simpa using hll
        have d3 : (!l1 == l2) = true := by rw [d2]; rfl
        have FF := hide (show AaP q g x m M M2 K H U hist w0 (Obs M M2) (.returned (.bool false)) wr from ⟨false, rfl, ⟨(fun e => by cases e), fun e => absurd (by rw [← (unhide HL).1, ← (unhide HL).2]; exact e.2.1 s hs1 (by omega)) hll⟩, unhide HA4⟩)
        clear hll
        go_wp2_with fail
        go_ret
        exact unhide FF
      have d1 : (l1 != l2) = false := by simp [hll]
      have d2 : (l1 == l2) = true := by simp [hll]
      have d3 : (!l1 == l2) = false := by rw [d2]; rfl
      have HOS := hide (show ∀ r, -1 ≤ r → r < s + 1 → actA M r = actA M2 r from fun r h1 h2 => by
        by_cases c : r = s
        · subst c
          rw [(unhide HL).1, (unhide HL).2]; exact hll
        · exact unhide HAL r h1 (by omega))
      clear hll HL
      go_wp2_with fail
      go_roundw
      case rel => exact ⟨s + 1, by go_num, by omega, by omega, unhide HOS, by first | rfl | trivial⟩
      case measure => simp [intOf]; omega
    · obtain rfl : s = 5 := by omega
      have e1 : decide ((5 : Int) ≤ 4) = false := decide_eq_false hs
      have HAC := hide (show ∀ r : Int, -1 ≤ r → r < 5 → actA M r = actA M2 r from unhide HAL)
      clear hs hs5 HAL
      have C7 := hide (xlalikeAt_any (unhide HA4).base ((unhide HAP).up (unhide HA4).on.size) ⟨#[]⟩)
      have HNK := hide (show ∀ k, (Value.slice na n nc).ownBlock = some k → ¬ (q.S k ∨ k = m) from fun k hk c => by
        have h1 := ((unhide HG1).2 k hk).1
        rcases c with c | c
        · have := (unhide HAP).lr k (.inl (Gnd.S_A c)); omega
        · have := (unhide HAP).lh m (unhide HA4).nx.hm; omega)
      go_wp2_with fail
      refine (unhide C7).mono ?_
      rintro e w8 ⟨b, rfl, hb, A8⟩
      have HA8 := hide ((unhide HA4).join A8)
      have HN8 := hide (show OwnN w8 (.slice na n nc) N2 from ownsRow_keep (unhide HN4) A8.on (unhide HNK))
      have HB := hide hb
      clear C7 A8 hb
      cases b with
      | false =>
        have FF := hide (show AaP q g x m M M2 K H U hist w0 (Obs M M2) (.returned (.bool false)) w8 from ⟨false, rfl, ⟨(fun e => by cases e), fun e => (by have := (unhide HB).mpr e.2.2.1; cases this)⟩, unhide HA8⟩)
        go_wp2_with fail
        go_ret
        exact unhide FF
      | true =>
      have HB0 := hide ((unhide HB).mp rfl)
      clear HB
      go_upto_region 16 with fail
      go_loopw [10] (fun iv w9 => ∃ i : Nat, iv = .int .i64 i ∧ i ≤ n ∧ (∀ j nm, j < i → N2[j]? = some nm → ObsAt M M2 nm) ∧ AL q g x m M M2 K H U hist w0 w9 ∧ OwnN w9 (.slice na n nc) N2) (fun iv _ => n - (intOf iv).toNat)
      case atStart => exact ⟨0, rfl, Nat.zero_le _, fun j nm hj => (by omega), unhide HA8, unhide HN8⟩
      case round =>
        clear HA8 HN8
        obtain ⟨i, rfl, hi, hal, A9, O9⟩ := hrel
        have HAI := hide hal
        have HA9 := hide A9
        have HO9 := hide O9
        clear hal A9 O9
        by_cases hin : i < n
        · have e1 : decide ((i : Int) < (n : Int)) = true := decide_eq_true (by omega)
          have e1p : (i : Int) < (n : Int) := by omega
          obtain ⟨nm, hnm⟩ := getE (l := N2) (i := i) (by rw [unhide HN]; exact hin)
          obtain ⟨gn, cpn, hgs, cu⟩ := OwnN.at_ (unhide HO9) hnm
          obtain ⟨rfl, rfl⟩ : na = some ⟨gn, 0, none⟩ ∧ nc = cpn := by
            simp only [Value.slice.injEq] at hgs
            exact ⟨hgs.1, hgs.2.2⟩
          have C9 := hide (xlalikeAt_any (unhide HA9).base ((unhide HAP).up (unhide HA9).on.size) nm)
          have HNI := hide hnm
          clear hnm hgs
          go_wp2_with fail
          refine (unhide C9).mono ?_
          rintro e w10 ⟨b, rfl, hb, A10⟩
          have HA10 := hide ((unhide HA9).join A10)
          have HN10 := hide (show OwnN w10 (.slice (some ⟨gn, 0, none⟩) n nc) N2 from ownsRow_keep (unhide HO9) A10.on (unhide HNK))
          have HB := hide hb
          clear C9 A10 hb cu
          cases b with
          | false =>
            have FF := hide (show AaP q g x m M M2 K H U hist w0 (Obs M M2) (.returned (.bool false)) w10 from ⟨false, rfl, ⟨(fun e => by cases e), fun e => (by have := (unhide HB).mpr (e.2.2.2 nm (by rw [(unhide HNN).2]; exact List.mem_of_getElem? (unhide HNI))); cases this)⟩, unhide HA10⟩)
            go_wp2_with fail
            go_ret
            exact unhide FF
          | true =>
            have HA2 := hide (show ∀ j y, j < i + 1 → N2[j]? = some y → ObsAt M M2 y from fun j y hj hy => by
              by_cases c : j = i
              · subst c
                rw [unhide HNI] at hy
                cases hy
                exact (unhide HB).mp rfl
              · exact unhide HAI j y (by omega) hy)
            go_wp2_with fail
            go_roundw
            case rel => exact ⟨i + 1, by go_num, by omega, unhide HA2, unhide HA10, unhide HN10⟩
            case measure => simp [intOf]; omega
        · obtain rfl : i = n := by omega
          have e1 : decide ((i : Int) < (i : Int)) = false := decide_eq_false (by omega)
          have FF := hide (show AaP q g x m M M2 K H U hist w0 (Obs M M2) (.returned (.bool true)) wr from ⟨true, rfl, ⟨fun _ => ⟨by rw [(unhide HNN).1, (unhide HNN).2]; exact unhide HNE, unhide HAC, unhide HB0, fun nm hm => by
            rw [(unhide HNN).2] at hm
            obtain ⟨j, hj⟩ := List.getElem?_of_mem hm
            exact unhide HAI j nm (by have := (List.getElem?_eq_some_iff.mp hj).1; have := unhide HN; omega) hj⟩, fun _ => rfl⟩, unhide HA9⟩)
          go_wp2_with fail
          go_ret
          exact unhide FF
end
set_option maxRecDepth 100000 in
theorem xloneStep_any (n : Nat) (ok oa ob oc : Int) (os ot : ByteArray) (e : Int) (h : n = 0 ∨ (cmK ok ∧ e = 0 ∧ n ≤ 146)) (w : World) : Calls Tryz.prog 32 #[.int .i64 n, .agg #[.int .i64 ok, .int .i64 oa, .int .i64 ob, .int .i64 oc, .string os, .string ot], .int .i64 e] w fun e w' => e = .returned (.bool true) ∧ Only (fun _ => False) w w' := by
  have o0 : Only (fun _ => False) w (w.alloc (.cells #[.int .i64 ok, .int .i64 oa, .int .i64 ob, .int .i64 oc, .string os, .string ot] 44)) := (Only.refl _ w).alloc _
  have CM : ∀ w, Calls Tryz.prog 111 #[] w fun e w' => e = .returned (.int .i64 146) ∧ w = w' := fun w => by
    go_enter Tryz.func111, Tryz.ntmps111
    go_wp2_with fail
    go_ret
    exact ⟨rfl, rfl⟩
  have CM := hide CM
  have b3 : decide ((n : Int) ≤ 146) = true := by
    refine decide_eq_true ?_
    rcases h with h | h <;> omega
  by_cases hc : cmK ok ∧ e = 0
  · obtain ⟨hk, rfl⟩ := hc
    clear h
    rcases hk with rfl | rfl | rfl | rfl
    all_goals
      go_enter Tryz.func32, Tryz.ntmps32
      go_wp2_with fail
      refine (unhide CM _).mono ?_
      rintro e w1 ⟨rfl, rfl⟩
      go_wp2_with fail
      go_ret
      exact ⟨by first | rfl | trivial, o0⟩
  · have h0 : n = 0 := by
      rcases h with h | ⟨h1, h2, _⟩
      · exact h
      · exact absurd ⟨h1, h2⟩ hc
    subst h0
    clear h b3
    by_cases he : e = 0
    · subst he
      have d2 : (ok == 2) = false := ne_intO (fun c => hc ⟨.inl c, rfl⟩)
      have d4 : (ok == 4) = false := ne_intO (fun c => hc ⟨.inr (.inl c), rfl⟩)
      have d5 : (ok == 5) = false := ne_intO (fun c => hc ⟨.inr (.inr (.inl c)), rfl⟩)
      have d6 : (ok == 6) = false := ne_intO (fun c => hc ⟨.inr (.inr (.inr c)), rfl⟩)
      clear hc
      go_enter Tryz.func32, Tryz.ntmps32
      go_wp2_with fail
      go_ret
      exact ⟨by first | rfl | trivial, o0⟩
    · have d0 : (e == 0) = false := ne_intO he
      clear hc he
      go_enter Tryz.func32, Tryz.ntmps32
      go_wp2_with fail
      go_ret
      exact ⟨by first | rfl | trivial, o0⟩
set_option maxRecDepth 100000 in
theorem xlbracket_any {q : Gnd} {w : World} {g x : Nat} {M : Mu} {K : Nat → Prop} (d : Nat) (R : RX q w g x M K) : Calls Tryz.prog 27 #[jbV d x] w fun e w' => e = .returned (.bool true) ∧ Only (fun _ => False) w w' := by
  have o1 : Only (fun _ => False) w (w.alloc (.cells (jbC d x) 30)) := (Only.refl _ w).alloc _
  have R1 := R.quiet o1
  obtain ⟨X, S, T, hx, _⟩ := R1.ex
  have C1 := hide (sintxn_any hx.st)
  have xl := hx.st.has.lt
  clear R1 hx R
  unfold jbC at C1 o1 xl
  unfold jbV jbC
  go_enter Tryz.func27, Tryz.ntmps27
  go_wp2_with fail
  refine (unhide C1).mono ?_
  rintro e w1 ⟨rfl, rfl⟩
  go_wp2_with fail
  go_ret
  exact ⟨rfl, o1⟩
end Go.Proofs.Qxb6500414aGreat
