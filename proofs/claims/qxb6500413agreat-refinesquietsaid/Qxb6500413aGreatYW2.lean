/-
  OWN WORK. THE TABLE LAW: SameShot.
-/
import Derived.Test.Qxb6500413aGreatYW1
import Derived.Test.Qxb6500413aGreatJW
import Derived.BigQuiet
namespace Go.Proofs.Qxb6500413aGreat
open Go.RowKit Go.PlainAid
set_option linter.unusedSimpArgs false
set_option linter.unusedVariables false

section
variable {w : World} {s t lo lo' : Nat} {op : Bool} {S : Vu}
theorem shG_use {es : Nat → Value} {n : Nat} (h : Has w s (tabV 17 (shG op S es 8)) 99) (hn : n < 8) : w.cell? ⟨s, 1 + n, none⟩ = some (.bool (Vz S (n : Int)).isSome) ∧ w.cell? ⟨s, 9 + n, none⟩ = some (es n) := by
  constructor
  · rw [h.cell, tabV_get _ _ _ (by omega)]
    unfold shG
    rw [if_neg (by omega), if_pos (by omega), if_pos (by omega), Nat.add_sub_cancel_left]
  · rw [h.cell, tabV_get _ _ _ (by omega)]
    unfold shG
    rw [if_neg (by omega), if_neg (by omega), Nat.add_sub_cancel_left]
set_option maxRecDepth 100000 in
set_option maxHeartbeats 8000000 in
theorem ysameShot_any (A : ShT w s op S lo) (B : ShT w t op S lo') : Calls Tryz.prog 24 #[.pointer (some ⟨s, 0, none⟩), .pointer (some ⟨t, 0, none⟩)] w fun e w' => e = .returned (.bool true) ∧ Only (fun _ => False) w w' := by
  obtain ⟨ea, a1, _, a3⟩ := A
  obtain ⟨eb, b1, _, b3⟩ := B
  have u0 := a1.cell 0
  have v0 := b1.cell 0
  rw [tabV_get _ _ _ (by omega)] at u0 v0
  simp [shG] at u0 v0
  have HH := hide (And.intro a1 (And.intro b1 (And.intro a3 b3)))
  have e0 : (op != op) = false := by simp
  clear a1 a3 b1 b3
  go_enter Tryz.func24, Tryz.ntmps24
  go_upto_region 1 with fail
  go_cut [15] (fun zv wx => zv = .bool false ∧ Only (fun _ => False) w wx)
  case first =>
    go_quiet (fail)
    go_wp2_with fail
    go_meet
    exact ⟨rfl, onlyQ _ _⟩
  case rest =>
  obtain ⟨rfl, o1⟩ := hcut
  generalize wc = w1 at *
  have HO1 := hide o1
  clear o1 u0 v0 e0
  go_upto_region 4 with fail
  go_loopw [5, 6] (fun hv iv wr => ∃ n : Nat, hv = .int .i64 n ∧ n ≤ 8 ∧ Only (fun _ => False) w wr) (fun hv _ _ => 8 - (intOf hv).toNat)
  case atStart => exact ⟨0, rfl, Nat.zero_le _, unhide HO1⟩
  case round =>
    obtain ⟨n, rfl, hn, oW⟩ := hrel
    by_cases h8 : n < 8
    · have a1 : decide ((n : Int) < 8) = true := decide_eq_true (by omega)
      have a2 : (n : Int) < 8 := by omega
      have K1 := (unhide HH).1.keep oW (fun e => e)
      have K2 := (unhide HH).2.1.keep oW (fun e => e)
      have O1 := ownsRow_keep ((unhide HH).2.2.1 n h8).1 oW (fun _ _ e => e)
      have O2 := ownsRow_keep ((unhide HH).2.2.2 n h8).1 oW (fun _ _ e => e)
      obtain ⟨p1, p2⟩ := shG_use K1 h8
      obtain ⟨q1, q2⟩ := shG_use K2 h8
      obtain ⟨xa, xc, hx⟩ := ownsRow_shape O1
      obtain ⟨ya, yc, hy⟩ := ownsRow_shape O2
      have hl := shE_len S n
      rw [hx] at p2 O1
      rw [hy] at q2 O2
      have HK := hide (And.intro K1 (And.intro K2 (And.intro O1 (And.intro O2 (And.intro oW (And.intro hx hy))))))
      obtain ⟨m, hm⟩ : ∃ m, (shE S n).length = m := ⟨_, rfl⟩
      rw [hm] at p2 q2 hl
      have HM := hide hm
      generalize (Vz S (n : Int)).isSome = bb at *
      have e1 : (bb != bb) = false := by simp
      have e2 : ((m : Int) != (m : Int)) = false := by simp
      have e2n : (m != m) = false := by simp
      clear K1 K2 O1 O2 oW hx hy hm
      go_upto_region 6 with fail
      go_cut [49] (fun zv wx => zv = .bool false ∧ Only (fun _ => False) wr wx)
      case first =>
        go_quiet (fail)
        go_wp2_with fail
        go_meet
        exact ⟨rfl, onlyQ _ _⟩
      case rest =>
      obtain ⟨rfl, o2⟩ := hcut
      generalize wc = w2 at *
      have HO2 := hide o2
      clear o2 p1 p2 q1 q2 e1 e2 e2n
      obtain ⟨wo, hwo⟩ : ∃ wo : World, wo = wr := ⟨_, rfl⟩
      rw [← hwo] at HK HO2
      clear hwo
      go_upto_region 9 with fail
      go_loopw [6] (fun iv wi => ∃ i : Nat, iv = .int .i64 i ∧ i ≤ m ∧ Only (fun _ => False) wo wi) (fun iv _ => m - (intOf iv).toNat)
      case atStart => exact ⟨0, rfl, Nat.zero_le _, unhide HO2⟩
      case round =>
        obtain ⟨i, rfl, hi, oI⟩ := hrel
        have K1 := (unhide HK).1.keep oI (fun e => e)
        have K2 := (unhide HK).2.1.keep oI (fun e => e)
        obtain ⟨p1, p2⟩ := shG_use K1 h8
        obtain ⟨q1, q2⟩ := shG_use K2 h8
        rw [(unhide HK).2.2.2.2.2.1, unhide HM] at p2
        rw [(unhide HK).2.2.2.2.2.2, unhide HM] at q2
        have HOI := hide ((unhide HK).2.2.2.2.1.trans oI (fun _ _ e => e))
        have HOI' := hide oI
        by_cases hi2 : i < m
        · have b1 : decide ((i : Int) < (m : Int)) = true := decide_eq_true (by omega)
          have b2 : (i : Int) < (m : Int) := by omega
          have O1 := ownsRow_keep (unhide HK).2.2.1 oI (fun _ _ e => e)
          have O2 := ownsRow_keep (unhide HK).2.2.2.1 oI (fun _ _ e => e)
          rw [unhide HM] at O1 O2
          obtain ⟨x, hx⟩ := getE (l := shE S n) (i := i) (by rw [unhide HM]; exact hi2)
          obtain ⟨x0, x1⟩ := kvcs_at (shE S n) i hx
          obtain ⟨g1, hg1⟩ : ∃ g, xa = some ⟨g, 0, none⟩ := by
            rcases O1.2 with ⟨_, e⟩ | ⟨g, _, _, he, _⟩
            · omega
            · simp only [Value.slice.injEq] at he
              exact ⟨g, he.1⟩
          obtain ⟨g2, hg2⟩ : ∃ g, ya = some ⟨g, 0, none⟩ := by
            rcases O2.2 with ⟨_, e⟩ | ⟨g, _, _, he, _⟩
            · omega
            · simp only [Value.slice.injEq] at he
              exact ⟨g, he.1⟩
          subst hg1
          subst hg2
          have k0 := World.ownsRow.cells O1 (g := g1) rfl _ _ x0
          have k1 := World.ownsRow.cells O1 (g := g1) rfl _ _ x1
          have l0 := World.ownsRow.cells O2 (g := g2) rfl _ _ x0
          have l1 := World.ownsRow.cells O2 (g := g2) rfl _ _ x1
          rw [addr_add] at k0 k1 l0 l1
          have s1 := sne_f (rfl : x.1 = x.1)
          have s1' := seq_t (rfl : x.1 = x.1)
          have s2 := sne_f (rfl : x.2 = x.2)
          have s2' := seq_t (rfl : x.2 = x.2)
          clear K1 K2 oI O1 O2 hx x0 x1 p1 q1
          go_upto_region 11 with fail
          go_cut [104] (fun zv wx => zv = .bool false ∧ Only (fun _ => False) wr wx)
          case first =>
            go_quiet (fail)
            go_wp2_with fail
            go_meet
            exact ⟨rfl, onlyQ _ _⟩
          case rest =>
          obtain ⟨rfl, o3⟩ := hcut
          have HO3 := hide ((unhide HOI').trans o3 (fun _ _ e => e))
          clear o3 k0 k1 l0 l1 s1 s1' s2 s2' p2 q2
          go_wp2_with fail
          go_roundw
          case rel => exact ⟨i + 1, by go_num, by omega, unhide HO3⟩
          case measure => simp [intOf]; omega
        · obtain rfl : i = m := by omega
          have b1 : decide ((i : Int) < (i : Int)) = false := by simp
          clear K1 K2 oI p1 q1
          go_wp2_with fail
          go_roundw
          case rel => exact ⟨n + 1, by go_num, by omega, unhide HOI⟩
          case measure => simp [intOf]; omega
    · obtain rfl : n = 8 := by omega
      have a1 : decide (((8 : Nat) : Int) < 8) = false := decide_eq_false (by omega)
      have HO := hide oW
      clear oW
      go_wp2_with fail
      go_ret
      exact ⟨rfl, unhide HO⟩
end
end Go.Proofs.Qxb6500413aGreat
