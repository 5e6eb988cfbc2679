/-
  OWN WORK. THE B-TREE LAW: Created.
-/
import Derived.Test.Qxb6500410aGreatBKd
namespace Go.Proofs.Qxb6500410aGreat
open Go.RowKit Go.PlainAid
set_option linter.unusedSimpArgs false
set_option linter.unusedVariables false

section
variable {lo : Nat} {w w' : World} {kb : Nat} {q : Gnd} {op : Bool} {S C P : Vu} {n b v : Gho} {N : Int}
theorem lowS_is {S : Vu} {i : Nat} (h : lowS S = some i) : i < 8 ∧ S i = none ∧ ∀ j, j < i → S j ≠ none := by
  unfold lowS at h
  have h1 := List.find?_some h
  have h2 := List.mem_of_find?_eq_some h
  refine ⟨List.mem_range.mp h2, by simpa using h1, fun j hj => ?_⟩
  rw [List.find?_range_eq_some] at h
  have := h.2.2 j hj
  intro c
  rw [c] at this
  simp at this
theorem lowS_no {S : Vu} (h : lowS S = none) : ∀ j, j < 8 → S j ≠ none := fun j hj => by
  unfold lowS at h
  have := List.find?_eq_none.mp h j (List.mem_range.mpr hj)
  intro c
  rw [c] at this
  simp at this
set_option maxRecDepth 100000 in
set_option maxHeartbeats 4000000 in
theorem created_any (J : KJ lo w kb q op S C P n b v N) : Calls Tryz.prog 44 #[.pointer (some ⟨kb, 0, none⟩)] w fun e w' => e = .returned (.bool true) ∧ KP lo w kb q P v N w' := by
  have c2 := J.k.c2
  cases op with
  | false =>
    have C1 := hide (vcreate_shut J.fv)
    go_enter Tryz.func44, Tryz.ntmps44
    go_wp2_with fail
    refine (unhide C1).mono ?_
    rintro e w1 ⟨rfl, A1, o1⟩
    have J1 := J.forest o1 A1
    have HP := hide (J1.same (J.oS o1))
    have c6 := J1.k.c6
    clear A1 o1 C1 J1
    go_wp2_with fail
    go_ret
    exact ⟨by rfl, unhide HP⟩
  | true =>
    have C1 := vcreate_open J.fv
    cases hz : lowS S with
    | none =>
      have hd : newS S = (S, -1, 6) := by unfold newS; rw [hz]
      rw [hd] at C1
      have C1 := hide C1
      have HN := lowS_no hz
      have HT : Hid (∀ j, j < 8 → n.T j = true) := hide (fun j hj => by
        rw [J.rn.tr j hj]
        cases hs : S j with
        | none => exact absurd hs (HN j hj)
        | some l => rfl)
      go_enter Tryz.func44, Tryz.ntmps44
      go_wp2_with fail
      refine (unhide C1).mono ?_
      rintro e w1 ⟨rfl, A1, o1⟩
      have J1 := J.forest o1 A1
      have HP := hide (J1.same (J.oS o1))
      have c6 := J1.k.c6
      have c3 := J1.k.c3
      have g0 := GhAt.c0 J1.k.gn
      clear A1 o1 C1 hd hz HN
      go_upto_region 5 with fail
      go_loop [5] (fun jv => ∃ i : Nat, jv = .int .i64 i ∧ i ≤ 8) (fun jv => 9 - (intOf jv).toNat)
      case atStart => exact ⟨0, rfl, by omega⟩
      case round =>
        obtain ⟨i, rfl, hi⟩ := hrel
        by_cases c : i < 8
        · have n1 : decide ((i : Int) < 8) = true := decide_eq_true (by omega)
          have n1p : (i : Int) < 8 := by omega
          have g1 := GhAt.t J1.k.gn i c
          rw [unhide HT i c] at g1
          go_wp2_with fail
          exact ⟨⟨i + 1, by go_num, by omega⟩, by simp [intOf]; omega⟩
        · have n1 : decide ((i : Int) < 8) = false := decide_eq_false (by omega)
          have n1p : ¬ ((i : Int) < 8) := by omega
          have i8 : i = 8 := by omega
          subst i8
          go_wp2_with fail
          go_ret
          exact ⟨by rfl, unhide HP⟩
    | some m =>
      obtain ⟨m8, mS, ml⟩ := lowS_is hz
      have hd : newS S = (updV S m (some []), (m : Int), 0) := by unfold newS; rw [hz]
      rw [hd] at C1
      have C1 := hide C1
      have HT : Hid ((∀ j, j < m → n.T j = true) ∧ n.T m = false) := hide ⟨(fun j hj => by
        rw [J.rn.tr j (by omega)]
        cases hs : S j with
        | none => exact absurd hs (ml j hj)
        | some l => rfl), by rw [J.rn.tr m m8, mS]; rfl⟩
      go_enter Tryz.func44, Tryz.ntmps44
      go_wp2_with fail
      refine (unhide C1).mono ?_
      rintro e w1 ⟨rfl, A1, o1⟩
      have K1 := J.k.forest o1
      have c6 := K1.c6
      have c3 := K1.c3
      have g0 := GhAt.c0 K1.gn
      have O1 := hide (J.oS o1)
      have HA := hide A1
      clear A1 o1 C1 hd hz ml
      go_upto_region 5 with fail
      go_loop [5] (fun jv => ∃ i : Nat, jv = .int .i64 i ∧ i ≤ m) (fun jv => 9 - (intOf jv).toNat)
      case atStart => exact ⟨0, rfl, by omega⟩
      case round =>
        obtain ⟨i, rfl, hi⟩ := hrel
        have n1 : decide ((i : Int) < 8) = true := decide_eq_true (by omega)
        have n1p : (i : Int) < 8 := by omega
        have g1 := GhAt.t K1.gn i (by omega)
        by_cases c : i < m
        · rw [(unhide HT).1 i c] at g1
          go_wp2_with fail
          exact ⟨⟨i + 1, by go_num, by omega⟩, by simp [intOf]; omega⟩
        · have im : i = m := by omega
          subst im
          rw [(unhide HT).2] at g1
          have gf := K1.gn.tr.free i
          have n8 : ((i : Int) == 8) = false := by simp; omega
          have e1 : ((i : Int) == (i : Int)) = true := by simp
          obtain ⟨K2, o2⟩ := K1.setT (unhide HA).Alt m8 true
          have hnT : ∀ y, q.A y → ¬ y = n.tb := fun y hy e => (K1.dn y (by rw [e]; exact .inr (.inl rfl))).1 hy
          have A2 := K1.fvK (unhide HA) o2 hnT
          have HP := hide (KJ.same (q := q) ⟨K2, A2, J.rn.create m8 mS, fun c => (by cases c), J.cf⟩ ((unhide O1).trans o2 (fun y _ e => by rw [e]; exact (K1.dn n.tb (.inr (.inl rfl))).2.2.2.2)))
          clear K2 o2 A2
          go_wp2_with fail
          go_ret
          exact ⟨by rfl, unhide HP⟩
end
end Go.Proofs.Qxb6500410aGreat
