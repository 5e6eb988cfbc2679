/-
  OWN WORK. QUERY's LAW: AlikeAt, Check, Alike.
-/
import Derived.Test.Qxb6500412aGreatQL2
namespace Go.Proofs.Qxb6500412aGreat
open Go.RowKit Go.PlainAid
set_option linter.unusedSimpArgs false
set_option linter.unusedVariables false

section
variable {p : Gnd} {k g x k2 q2 : Nat} {M N : Mu} {K H : Nat → Prop} {last : Int} {w0 w w' : World}
set_option maxRecDepth 100000 in
set_option maxHeartbeats 4000000 in
theorem slalikeAt_any (A : AQ p k g x k2 q2 M N K H last w w) (ap : ApQ p x k k2 K H w) (nm : ByteArray) : Calls Tryz.prog 68 #[.pointer (some ⟨k, 0, none⟩), .pointer (some ⟨k2, 0, none⟩), .string nm] w (AaQ p k g x k2 q2 M N K H last w (ObsAt M N nm)) := by
  have C1 := hide (slsameSchemaOf_any A ap nm)
  have HAP := hide ap
  clear A ap
  go_enter Tryz.func68, Tryz.ntmps68
  go_wp2_with fail
  refine (unhide C1).mono ?_
  rintro e w1 ⟨b, rfl, hb, A1⟩
  have HA1 := hide A1
  have HB := hide hb
  clear C1 A1 hb
  cases b with
  | false =>
    have FF := hide (show AaQ p k g x k2 q2 M N K H last w (ObsAt M N nm) (.returned (.bool false)) w1 from ⟨false, rfl, ⟨(fun e => by cases e), fun e => (by have := (unhide HB).mpr e.1; cases this)⟩, unhide HA1⟩)
    go_wp2_with fail
    go_ret
    exact unhide FF
  | true =>
  have HSS := hide ((unhide HB).mp (by first | rfl | trivial))
  clear HB
  go_upto_region 4 with fail
  go_loopw [7] (fun iv wr => ∃ s : Int, iv = .int .i64 s ∧ -1 ≤ s ∧ s ≤ 5 ∧ (∀ r, -1 ≤ r → r < s → ObsS M N nm r) ∧ AQ p k g x k2 q2 M N K H last w wr) (fun iv _ => (5 - intOf iv).toNat)
  case atStart => exact ⟨-1, rfl, by omega, by omega, fun r h1 h2 => by omega, unhide HA1⟩
  case round =>
    clear HA1
    obtain ⟨s, rfl, hs1, hs5, hall, A5⟩ := hrel
    have HAL := hide hall
    have HA5 := hide A5
    clear hall A5
    by_cases hs : s ≤ 4
    · have e1 : decide (s ≤ 4) = true := decide_eq_true hs
      have C5 := slsameLockOf_any (unhide HA5).qr (unhide HA5).me s nm
      obtain ⟨l1, hl1⟩ : ∃ l, (if gdS s then M.lk s.toNat nm else 0) = l := ⟨_, rfl⟩
      obtain ⟨l2, hl2⟩ : ∃ l, (if gdS s then N.lk s.toNat nm else 0) = l := ⟨_, rfl⟩
      rw [hl1, hl2] at C5
      obtain ⟨bb, hbb⟩ : ∃ b : Bool, (l1 == l2) = b := ⟨_, rfl⟩
      rw [hbb] at C5
      have HL := hide (show (bb = true ↔ lkA M s nm = lkA N s nm) from by
        rw [← hbb]
        unfold lkA
        rw [hl1, hl2]
        exact beq_iff_eq)
      have C5 := hide C5
      have C7 := hide (slsameView_any (unhide HA5).base ((unhide HAP).up (unhide HA5).on.size) s nm)
      clear hl1 hl2 hbb
      go_wp2_with fail
      refine (unhide C5).mono ?_
      rintro e w7 ⟨rfl, rfl⟩
      clear C5
      cases bb with
      | false =>
        have FF := hide (show AaQ p k g x k2 q2 M N K H last w (ObsAt M N nm) (.returned (.bool false)) wr from ⟨false, rfl, ⟨(fun e => by cases e), fun e => (by have := (unhide HL).mpr (e.2 s hs1 (by omega)).1; cases this)⟩, unhide HA5⟩)
        go_wp2_with fail
        go_ret
        exact unhide FF
      | true =>
      go_wp2_with fail
      refine (unhide C7).mono ?_
      rintro e w8 ⟨b, rfl, hb, A8⟩
      have HA8 := hide ((unhide HA5).join A8)
      have HB8 := hide hb
      clear C7 A8 hb
      cases b with
      | false =>
        have FF := hide (show AaQ p k g x k2 q2 M N K H last w (ObsAt M N nm) (.returned (.bool false)) w8 from ⟨false, rfl, ⟨(fun e => by cases e), fun e => (by have := (unhide HB8).mpr (e.2 s hs1 (by omega)).2; cases this)⟩, unhide HA8⟩)
        go_wp2_with fail
        go_ret
        exact unhide FF
      | true =>
      have HOS := hide (show ∀ r, -1 ≤ r → r < s + 1 → ObsS M N nm r from fun r h1 h2 => by
        by_cases c : r = s
        · subst c
          exact ⟨(unhide HL).mp (by first | rfl | trivial), (unhide HB8).mp (by first | rfl | trivial)⟩
        · exact unhide HAL r h1 (by omega))
      go_wp2_with fail
      go_roundw
      case rel => exact ⟨s + 1, by go_num, by omega, by omega, unhide HOS, unhide HA8⟩
      case measure => simp [intOf]; omega
    · obtain rfl : s = 5 := by omega
      have FF := hide (show AaQ p k g x k2 q2 M N K H last w (ObsAt M N nm) (.returned (.bool true)) wr from ⟨true, rfl, ⟨fun _ => ⟨unhide HSS, fun r h1 h2 => unhide HAL r h1 h2⟩, fun _ => rfl⟩, unhide HA5⟩)
      clear hs hs5
      go_wp2_with fail
      go_ret
      exact unhide FF
set_option maxRecDepth 100000 in
theorem sqchkE_any (R : QR p w k g x M K last) (h0 : 0 ≤ last) (h4 : last ≤ 4) : Calls Tryz.prog 66 #[.pointer (some ⟨k, 0, none⟩)] w fun e w' => e = .returned (.bool true) ∧ w = w' := by
  have e0 : w.cell? ⟨k, 1, none⟩ = some (.int .i64 last) := R.has.cell 1
  have kl := R.has.lt
  have d1 : decide (last ≥ 0) = true := decide_eq_true h0
  have d2 : decide (last ≤ 4) = true := decide_eq_true h4
  have d3 : decide (0 ≤ last) = true := decide_eq_true h0
  clear R
  go_enter Tryz.func66, Tryz.ntmps66
  go_wp2_with fail
  go_ret
  exact ⟨rfl, rfl⟩
set_option maxRecDepth 100000 in
set_option maxHeartbeats 8000000 in
theorem slalike_any (A : AQ p k g x k2 q2 M N K H last w w) (ap : ApQ p x k k2 K H w) (h0 : 0 ≤ last) (h4 : last ≤ 4) (hd2 : N.com.length ≤ 3) : Calls Tryz.prog 23 #[.pointer (some ⟨k, 0, none⟩), .pointer (some ⟨k2, 0, none⟩)] w (AaQ p k g x k2 q2 M N K H last w (Obs M N)) := by
  have hl2 : (namesD N.com).length ≤ 3 := by unfold namesD; rw [List.length_map]; exact hd2
  have C1 := smtables_any A.me
  have HAP := hide ap
  have HA := hide A
  obtain ⟨N2, hN2⟩ : ∃ l, namesD N.com = l := ⟨_, rfl⟩
  rw [hN2] at C1 hl2
  have HNN := hide hN2
  have C1 := hide C1
  have HL4 := hide (And.intro h0 h4)
  clear A ap hN2 hd2 h0 h4
  go_enter Tryz.func23, Tryz.ntmps23
  go_wp2_with fail
  refine (unhide C1).mono ?_
  rintro e w1 ⟨nv, rfl, G1⟩
  have HA1 := hide ((unhide HA).quiet G1.ho)
  have HG1 := hide (And.intro (show OwnN w1 nv N2 from G1.own) (show ∀ k, nv.ownBlock = some k → w.heap.size ≤ k ∧ k < w1.heap.size from fun k hk => ⟨G1.hb k hk, ownsRow_lt G1.own k hk⟩))
  obtain ⟨na, nc, hnv⟩ := ownsRow_shape G1.own
  obtain ⟨n, hn⟩ : ∃ n, N2.length = n := ⟨_, rfl⟩
  rw [hn] at hnv hl2
  have HN := hide hn
  subst hnv
  clear C1 G1 hn
  have HNK := hide (show ∀ b, (Value.slice na n nc).ownBlock = some b → ¬ p.S b from fun b hk c => by
    have h1 := ((unhide HG1).2 b hk).1
    have := (unhide HAP).lr b (.inl (Gnd.S_A c))
    omega)
  have CK := hide (sqchkE_any (unhide HA1).qr (unhide HL4).1 (unhide HL4).2)
  have C2 := hide (slsameTables_any (unhide HA1).base ((unhide HAP).up (unhide HA1).on.size))
  go_wp2_with fail
  refine (unhide CK).mono ?_
  rintro e w2 ⟨rfl, rfl⟩
  clear CK
  go_wp2_with fail
  refine (unhide C2).mono ?_
  rintro e w3 ⟨b, rfl, hb, A3⟩
  have HA3 := hide ((unhide HA1).join A3)
  have HN3 := hide (show OwnN w3 (.slice na n nc) N2 from ownsRow_keep (unhide HG1).1 A3.on (unhide HNK))
  have HB := hide hb
  clear C2 A3 hb HA1
  cases b with
  | false =>
    have FF := hide (show AaQ p k g x k2 q2 M N K H last w (Obs M N) (.returned (.bool false)) w3 from ⟨false, rfl, ⟨(fun e => by cases e), fun e => (by have := (unhide HB).mpr e.1; cases this)⟩, unhide HA3⟩)
    go_wp2_with fail
    go_ret
    exact unhide FF
  | true =>
  have HNE := hide ((unhide HB).mp (by first | rfl | trivial))
  clear HB
  have C4 := hide (slalikeAt_any (unhide HA3).base ((unhide HAP).up (unhide HA3).on.size) ⟨#[]⟩)
  go_wp2_with fail
  refine (unhide C4).mono ?_
  rintro e w4 ⟨b, rfl, hb, A4⟩
  have HA4 := hide ((unhide HA3).join A4)
  have HN4 := hide (show OwnN w4 (.slice na n nc) N2 from ownsRow_keep (unhide HN3) A4.on (unhide HNK))
  have HB := hide hb
  clear C4 A4 hb HA3
  cases b with
  | false =>
    have FF := hide (show AaQ p k g x k2 q2 M N K H last w (Obs M N) (.returned (.bool false)) w4 from ⟨false, rfl, ⟨(fun e => by cases e), fun e => (by have := (unhide HB).mpr e.2.1; cases this)⟩, unhide HA4⟩)
    go_wp2_with fail
    go_ret
    exact unhide FF
  | true =>
  have HB0 := hide ((unhide HB).mp (by first | rfl | trivial))
  clear HB
  go_upto_region 9 with fail
  go_loopw [6] (fun iv wr => ∃ s : Int, iv = .int .i64 s ∧ -1 ≤ s ∧ s ≤ 5 ∧ (∀ r, -1 ≤ r → r < s → actA M r = actA N r) ∧ wr = w4) (fun iv _ => (5 - intOf iv).toNat)
  case atStart => exact ⟨-1, rfl, by omega, by omega, fun r h1 h2 => by omega, rfl⟩
  case round =>
    obtain ⟨s, rfl, hs1, hs5, hall, rfl⟩ := hrel
    have HAL := hide hall
    clear hall
    by_cases hs : s ≤ 4
    · have e1 : decide (s ≤ 4) = true := decide_eq_true hs
      have C5 := slsameActive_any (unhide HA4).qr (unhide HA4).me s
      obtain ⟨bb, hbb⟩ : ∃ b : Bool, ((decide (gdS s) && M.act s.toNat) == (decide (gdS s) && N.act s.toNat)) = b := ⟨_, rfl⟩
      rw [hbb] at C5
      have HL := hide (show (bb = true ↔ actA M s = actA N s) from by
        rw [← hbb]
        exact beq_iff_eq)
      have C5 := hide C5
      clear hbb
      go_wp2_with fail
      refine (unhide C5).mono ?_
      rintro e w7 ⟨rfl, rfl⟩
      clear C5
      cases bb with
      | false =>
        have FF := hide (show AaQ p k g x k2 q2 M N K H last w (Obs M N) (.returned (.bool false)) wr from ⟨false, rfl, ⟨(fun e => by cases e), fun e => (by have := (unhide HL).mpr (e.2.2.1 s hs1 (by omega)); cases this)⟩, unhide HA4⟩)
        go_wp2_with fail
        go_ret
        exact unhide FF
      | true =>
      have HOS := hide (show ∀ r, -1 ≤ r → r < s + 1 → actA M r = actA N r from fun r h1 h2 => by
        by_cases c : r = s
        · subst c
          exact (unhide HL).mp (by first | rfl | trivial)
        · exact unhide HAL r h1 (by omega))
      go_wp2_with fail
      go_roundw
      case rel => exact ⟨s + 1, by go_num, by omega, by omega, unhide HOS, by first | rfl | trivial⟩
      case measure => simp [intOf]; omega
    · obtain rfl : s = 5 := by omega
      have e1 : decide ((5 : Int) ≤ 4) = false := decide_eq_false hs
      have HAC := hide (show ∀ r : Int, -1 ≤ r → r < 5 → actA M r = actA N r from unhide HAL)
      clear hs hs5 HAL
      go_upto_region 14 with fail
      go_loopw [7] (fun iv w9 => ∃ i : Nat, iv = .int .i64 i ∧ i ≤ n ∧ (∀ j nm, j < i → N2[j]? = some nm → ObsAt M N nm) ∧ AQ p k g x k2 q2 M N K H last w w9 ∧ OwnN w9 (.slice na n nc) N2) (fun iv _ => n - (intOf iv).toNat)
      case atStart => exact ⟨0, rfl, Nat.zero_le _, fun j nm hj => (by omega), unhide HA4, unhide HN4⟩
      case round =>
        clear HA4 HN4
        obtain ⟨i, rfl, hi, hal, A9, O9⟩ := hrel
        have HAI := hide hal
        have HA9 := hide A9
        have HO9 := hide O9
        clear hal A9 O9
        by_cases hin : i < n
        · have e1 : decide ((i : Int) < (n : Int)) = true := decide_eq_true (by omega)
          have e1p : (i : Int) < (n : Int) := by omega
          obtain ⟨nm, hnm⟩ := getE (l := N2) (i := i) (by rw [unhide HN]; exact hin)
          obtain ⟨gn, cpn, hgs, cu⟩ := OwnN.at_ (unhide HO9) hnm
          obtain ⟨rfl, rfl⟩ : na = some ⟨gn, 0, none⟩ ∧ nc = cpn := by
            simp only [Value.slice.injEq] at hgs
            exact ⟨hgs.1, hgs.2.2⟩
          have C9 := hide (slalikeAt_any (unhide HA9).base ((unhide HAP).up (unhide HA9).on.size) nm)
          have HNI := hide hnm
          clear hnm hgs
          go_wp2_with fail
          refine (unhide C9).mono ?_
          rintro e w10 ⟨b, rfl, hb, A10⟩
          have HA10 := hide ((unhide HA9).join A10)
          have HN10 := hide (show OwnN w10 (.slice (some ⟨gn, 0, none⟩) n nc) N2 from ownsRow_keep (unhide HO9) A10.on (unhide HNK))
          have HB := hide hb
          clear C9 A10 hb cu
          cases b with
          | false =>
            have FF := hide (show AaQ p k g x k2 q2 M N K H last w (Obs M N) (.returned (.bool false)) w10 from ⟨false, rfl, ⟨(fun e => by cases e), fun e => (by have := (unhide HB).mpr (e.2.2.2 nm (by rw [unhide HNN]; exact List.mem_of_getElem? (unhide HNI))); cases this)⟩, unhide HA10⟩)
            go_wp2_with fail
            go_ret
            exact unhide FF
          | true =>
            have HA2 := hide (show ∀ j y, j < i + 1 → N2[j]? = some y → ObsAt M N y from fun j y hj hy => by
              by_cases c : j = i
              · subst c
                rw [unhide HNI] at hy
                cases hy
                exact (unhide HB).mp (by first | rfl | trivial)
              · exact unhide HAI j y (by omega) hy)
            go_wp2_with fail
            go_roundw
            case rel => exact ⟨i + 1, by go_num, by omega, unhide HA2, unhide HA10, unhide HN10⟩
            case measure => simp [intOf]; omega
        · obtain rfl : i = n := by omega
          have e1 : decide ((i : Int) < (i : Int)) = false := decide_eq_false (by omega)
          have FF := hide (show AaQ p k g x k2 q2 M N K H last w (Obs M N) (.returned (.bool true)) wr from ⟨true, rfl, ⟨fun _ => ⟨unhide HNE, unhide HB0, unhide HAC, fun nm hm => by
            rw [unhide HNN] at hm
            obtain ⟨j, hj⟩ := List.getElem?_of_mem hm
            exact unhide HAI j nm (by have := (List.getElem?_eq_some_iff.mp hj).1; have := unhide HN; omega) hj⟩, fun _ => rfl⟩, unhide HA9⟩)
          go_wp2_with fail
          go_ret
          exact unhide FF
end
end Go.Proofs.Qxb6500412aGreat
