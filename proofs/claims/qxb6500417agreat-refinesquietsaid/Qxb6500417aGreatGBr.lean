/-
  OWN WORK. THE GRAPH: GoodName, where, SetHead.
-/
import Derived.Test.Qxb6500417aGreatGObs2
namespace Go.Proofs.Qxb6500417aGreat
open Go.RowKit Go.PlainAid
set_option linter.unusedSimpArgs false
set_option linter.unusedVariables false

def goodC (c : UInt8) : Bool := (decide (97 ≤ c.toNat) && decide (c.toNat ≤ 122)) || (decide (48 ≤ c.toNat) && decide (c.toNat ≤ 57))
theorem goodN_eq (s : ByteArray) : goodN s = (decide (1 ≤ s.size ∧ s.size ≤ 6) && (ls s).all goodC) := rfl
set_option maxRecDepth 100000 in
set_option maxHeartbeats 4000000 in
theorem goodName_any (s : ByteArray) (w : World) :
    Calls Tryz.prog 137 #[.string s] w fun e w' => e = .returned (.bool (goodN s)) ∧ w = w' := by
  have hb := get_bt s
  have hll := ls_len s
  by_cases h1 : s.size < 1
  · have a1 : decide ((s.size : Int) < 1) = true := decide_eq_true (by omega)
    have a1n : decide (s.size < 1) = true := decide_eq_true h1
    have hR : goodN s = false := by rw [goodN_eq, decide_eq_false (by omega)]; rfl
    rw [hR]
    clear hR
    go_enter Tryz.func137, Tryz.ntmps137
    go_wp2_with fail
    go_ret
    exact ⟨rfl, rfl⟩
  · have a1 : decide ((s.size : Int) < 1) = false := decide_eq_false (by omega)
    have a1n : decide (s.size < 1) = false := decide_eq_false h1
    by_cases h6 : 6 < s.size
    · have a2 : decide ((6 : Int) < (s.size : Int)) = true := decide_eq_true (by omega)
      have a2n : decide (6 < s.size) = true := decide_eq_true h6
      have hR : goodN s = false := by rw [goodN_eq, decide_eq_false (by omega)]; rfl
      rw [hR]
      clear hR
      go_enter Tryz.func137, Tryz.ntmps137
      go_wp2_with fail
      go_ret
      exact ⟨rfl, rfl⟩
    · have a2 : decide ((6 : Int) < (s.size : Int)) = false := decide_eq_false (by omega)
      have a2n : decide (6 < s.size) = false := decide_eq_false h6
      have hR : goodN s = ((ls s).drop 0).all goodC := by rw [goodN_eq, decide_eq_true (by omega)]; simp
      obtain ⟨R, hRR⟩ : ∃ R, goodN s = R := ⟨_, rfl⟩
      rw [hRR] at hR ⊢
      have HR := hide hR
      have Hll := hide hll
      clear hR hRR hll
      go_enter Tryz.func137, Tryz.ntmps137
      go_wp2_with fail
      go_loop [3] (fun iv => ∃ i : Nat, i ≤ s.size ∧ iv = .int .i64 i ∧ R = ((ls s).drop i).all goodC) (fun iv => s.size - (intOf iv).toNat)
      case atStart => exact ⟨0, by omega, rfl, unhide HR⟩
      case round =>
        clear HR
        obtain ⟨i, hi, rfl, hr⟩ := hrel
        by_cases hil : i < s.size
        · obtain ⟨c, hc, hd⟩ := ls_at s i hil
          have b1 : decide ((i : Int) < (s.size : Int)) = true := decide_eq_true (by omega)
          have b1n : decide (i < s.size) = true := decide_eq_true hil
          have b2 : (i : Int) < (s.size : Int) := by omega
          rw [hd, List.all_cons] at hr
          have Hr := hide hr
          clear hr hd
          have hcl : c.toNat < 256 := c.toNat_lt
          unfold goodC at Hr
          generalize c.toNat = cn at *
          by_cases g1 : 97 ≤ cn
          · have d1 : decide ((97 : Int) ≤ (cn : Int)) = true := decide_eq_true (by omega)
            have d1n : decide (97 ≤ cn) = true := decide_eq_true g1
            by_cases g2 : cn ≤ 122
            · have d2 : decide ((cn : Int) ≤ 122) = true := decide_eq_true (by omega)
              have d2n : decide (cn ≤ 122) = true := decide_eq_true g2
              have hr2 : R = ((ls s).drop (i + 1)).all goodC := by
                rw [unhide Hr, d1n, d2n]; rfl
              have Hr2 := hide hr2
              clear hr2 Hr
              go_wp2_with fail
              go_round
              case rel => exact ⟨i + 1, by omega, by go_num, unhide Hr2⟩
              case measure => simp [intOf]; omega
            · have d2 : decide ((cn : Int) ≤ 122) = false := decide_eq_false (by omega)
              have d3 : decide ((48 : Int) ≤ (cn : Int)) = true := decide_eq_true (by omega)
              have d4 : decide ((cn : Int) ≤ 57) = false := decide_eq_false (by omega)
              have hr2 : R = false := by
                rw [unhide Hr, decide_eq_false g2, decide_eq_false (by omega : ¬ cn ≤ 57)]; simp
              have Hr2 := hide hr2
              clear hr2 Hr
              go_wp2_with fail
              go_ret
              rw [unhide Hr2]
              exact ⟨rfl, rfl⟩
          · have d1 : decide ((97 : Int) ≤ (cn : Int)) = false := decide_eq_false (by omega)
            by_cases g3 : 48 ≤ cn
            · have d3 : decide ((48 : Int) ≤ (cn : Int)) = true := decide_eq_true (by omega)
              by_cases g4 : cn ≤ 57
              · have d4 : decide ((cn : Int) ≤ 57) = true := decide_eq_true (by omega)
                have hr2 : R = ((ls s).drop (i + 1)).all goodC := by
                  rw [unhide Hr, decide_eq_true g3, decide_eq_true g4]; simp; rfl
                have Hr2 := hide hr2
                clear hr2 Hr
                go_wp2_with fail
                go_round
                case rel => exact ⟨i + 1, by omega, by go_num, unhide Hr2⟩
                case measure => simp [intOf]; omega
              · have d4 : decide ((cn : Int) ≤ 57) = false := decide_eq_false (by omega)
                have hr2 : R = false := by
                  rw [unhide Hr, decide_eq_false g1, decide_eq_false g4]; simp
                have Hr2 := hide hr2
                clear hr2 Hr
                go_wp2_with fail
                go_ret
                rw [unhide Hr2]
                exact ⟨rfl, rfl⟩
            · have d3 : decide ((48 : Int) ≤ (cn : Int)) = false := decide_eq_false (by omega)
              have hr2 : R = false := by
                rw [unhide Hr, decide_eq_false g1, decide_eq_false g3]; simp
              have Hr2 := hide hr2
              clear hr2 Hr
              go_wp2_with fail
              go_ret
              rw [unhide Hr2]
              exact ⟨rfl, rfl⟩
        · have b1 : decide ((i : Int) < (s.size : Int)) = false := decide_eq_false (by omega)
          have b1n : decide (i < s.size) = false := decide_eq_false hil
          have hr2 : R = true := by
            rw [hr, List.drop_of_length_le (by rw [unhide Hll]; omega)]; rfl
          have Hr2 := hide hr2
          clear hr hr2
          go_wp2_with fail
          go_ret
          rw [unhide Hr2]
          exact ⟨rfl, rfl⟩
/-- Where the name stands, or would stand. -/
structure WhP (T : Gt) (name : ByteArray) (p : Nat) : Prop where
  le : p ≤ T.nb
  lo : ∀ k, k < p → ltS (T.b k).name name = true
  hi : p < T.nb → ltS (T.b p).name name = false
def hitP (T : Gt) (name : ByteArray) (p : Nat) : Bool := decide (p < T.nb) && decide ((T.b p).name = name)
section
variable {w : World} {g t : Nat} {T : Gt}
set_option maxRecDepth 100000 in
set_option maxHeartbeats 4000000 in
theorem gwhere_any (h : GH w g t T) (h4 : T.nb ≤ 4) (name : ByteArray) :
    Calls Tryz.prog 147 #[.pointer (some ⟨g, 0, none⟩), .string name] w fun e w' => ∃ p, WhP T name p ∧ e = .returned (.tuple #[.int .i64 (p : Nat), .bool (hitP T name p)]) ∧ Only (fun _ => False) w w' := by
  have H0 := hide h
  have cn := h.nb_.1
  clear h
  go_enter Tryz.func147, Tryz.ntmps147
  go_wp2_with fail
  go_loop [6] (fun iv => ∃ i : Nat, iv = .int .i64 i ∧ i ≤ T.nb ∧ (∀ k, k < i → ltS (T.b k).name name = true)) (fun iv => T.nb - (intOf iv).toNat)
  case atStart => exact ⟨0, rfl, by omega, fun k hk => by omega⟩
  case round =>
    obtain ⟨i, rfl, hi, hlo⟩ := hrel
    by_cases hil : i < T.nb
    · have a1 : decide ((i : Int) < (T.nb : Int)) = true := decide_eq_true (by omega)
      have a1n : decide (i < T.nb) = true := decide_eq_true hil
      have a2 : (i : Int) < 4 := by omega
      have c2 := ((unhide H0).brn i (by omega)).1
      cases hlt : ltS (T.b i).name name with
      | true =>
        have Hlo : Hid (∀ k, k < i + 1 → ltS (T.b k).name name = true) := hide (fun k hk => by
          by_cases e : k = i
          · rw [e]; exact hlt
          · exact hlo k (by omega))
        unfold ltS at hlt
        clear hlo
        generalize (T.b i).name = nm at *
        go_wp2_with fail
        go_round
        case rel => exact ⟨i + 1, by go_num, by omega, unhide Hlo⟩
        case measure => simp [intOf]; omega
      | false =>
        have hW : WhP T name i := ⟨by omega, hlo, fun _ => hlt⟩
        have HW := hide hW
        unfold ltS at hlt
        by_cases heq : (T.b i).name = name
        · have hh : hitP T name i = true := by unfold hitP; rw [decide_eq_true hil, decide_eq_true heq]; rfl
          have Hh := hide hh
          have b5 : ((T.b i).name.toList == name.toList) = true := by rw [heq]; exact str_eq name
          clear hW hlo hh heq
          generalize (T.b i).name = nm at *
          go_wp2_with fail
          go_upto_region 4 with fail
          go_quiet (fail)
          go_wp2_with fail
          go_ret2
          exact ⟨i, unhide HW, by rw [unhide Hh]; rfl, (Only.refl _ w).drewO nq⟩
        · have hh : hitP T name i = false := by unfold hitP; rw [decide_eq_false heq]; simp
          have Hh := hide hh
          have b5 : ((T.b i).name.toList == name.toList) = false := str_ne heq
          clear hW hlo hh heq
          generalize (T.b i).name = nm at *
          go_wp2_with fail
          go_upto_region 4 with fail
          go_quiet (fail)
          go_wp2_with fail
          go_ret2
          exact ⟨i, unhide HW, by rw [unhide Hh]; rfl, (Only.refl _ w).drewO nq⟩
    · have a1 : decide ((i : Int) < (T.nb : Int)) = false := decide_eq_false (by omega)
      have a1n : decide (i < T.nb) = false := decide_eq_false hil
      have HW : Hid (WhP T name i) := hide ⟨by omega, hlo, fun h => absurd h hil⟩
      have hh : hitP T name i = false := by unfold hitP; rw [decide_eq_false hil]; rfl
      have Hh := hide hh
      clear hlo hh
      go_wp2_with fail
      go_upto_region 4 with fail
      go_quiet (fail)
      go_wp2_with fail
      go_ret2
      exact ⟨i, unhide HW, by rw [unhide Hh]; rfl, (Only.refl _ w).drewO nq⟩
end
end Go.Proofs.Qxb6500417aGreat
