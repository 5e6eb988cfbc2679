/-
  OWN WORK. TABLE: the checks of names, columns, rows and values.
-/
import Derived.Test.Qxb6500412aGreatEFl2
import Derived.Deep.QuietTactic
import Derived.BigQuiet
namespace Go.Proofs.Qxb6500412aGreat
open Go.RowKit Go.PlainAid
set_option linter.unusedSimpArgs false
set_option linter.unusedVariables false

theorem onlyQ {B : Nat → Prop} (w : World) (n : Nat) : Only B w (w.drewN n) := by
  induction n with
  | zero => exact Only.refl _ _
  | succ n ih => exact ih.drew
/-- A schema. -/
abbrev schA (nm : ByteArray) (cv : Value) (pk ix : Int) : Value := .agg #[.string nm, cv, .int .i64 pk, .int .i64 ix]
theorem eGoodName_any (s : ByteArray) (w : World) : Calls Tryz.prog 233 #[.string s] w fun e w' => e = .returned (.bool (decide (gdN s))) ∧ w = w' := by
  by_cases h1 : 1 ≤ s.size
  · have a1 : decide ((s.size : Int) ≥ 1) = true := decide_eq_true (by omega)
    have a1' : decide ((1 : Int) ≤ (s.size : Int)) = true := decide_eq_true (by omega)
    by_cases h2 : s.size ≤ 6
    · have a2 : decide ((s.size : Int) ≤ 6) = true := decide_eq_true (by omega)
      have HE := hide (decide_eq_true (show gdN s from ⟨h1, h2⟩))
      go_enter Tryz.func233, Tryz.ntmps233
      go_wp2_with fail
      go_ret
      exact ⟨by rw [unhide HE]; rfl, rfl⟩
    · have a2 : decide ((s.size : Int) ≤ 6) = false := decide_eq_false (by omega)
      have HE := hide (decide_eq_false (show ¬ gdN s from fun c => h2 c.2))
      go_enter Tryz.func233, Tryz.ntmps233
      go_wp2_with fail
      go_ret
      exact ⟨by rw [unhide HE]; rfl, rfl⟩
  · have a1 : decide ((s.size : Int) ≥ 1) = false := decide_eq_false (by omega)
    have a1' : decide ((1 : Int) ≤ (s.size : Int)) = false := decide_eq_false (by omega)
    have HE := hide (decide_eq_false (show ¬ gdN s from fun c => h1 c.1))
    go_enter Tryz.func233, Tryz.ntmps233
    go_wp2_with fail
    go_ret
    exact ⟨by rw [unhide HE]; rfl, rfl⟩
theorem nodup_take_succ {α : Type} {l : List α} {i : Nat} {x : α} (hx : l[i]? = some x) : (l.take (i + 1)).Nodup ↔ (l.take i).Nodup ∧ ∀ j y, j < i → l[j]? = some y → y ≠ x := by
  obtain ⟨hi, rfl⟩ := List.getElem?_eq_some_iff.mp hx
  rw [List.take_succ_eq_append_getElem hi, List.nodup_append]
  constructor
  · rintro ⟨h1, _, h3⟩
    refine ⟨h1, fun j y hj hy e => h3 y ?_ _ (by simp) e⟩
    rw [List.mem_take_iff_getElem]
    obtain ⟨hj2, rfl⟩ := List.getElem?_eq_some_iff.mp hy
    exact ⟨j, by omega, rfl⟩
  · rintro ⟨h1, h2⟩
    refine ⟨h1, by simp, fun a ha b hb e => ?_⟩
    simp at hb
    subst hb
    rw [List.mem_take_iff_getElem] at ha
    obtain ⟨j, hj, rfl⟩ := ha
    exact h2 j _ (by omega) (List.getElem?_eq_getElem (by omega)) e
set_option maxRecDepth 100000 in
set_option maxHeartbeats 4000000 in
theorem eGoodCols_any {w : World} {cv : Value} {c : List Cl} (hc : OwnC w cv c) (pk : Int) : Calls Tryz.prog 234 #[cv, .int .i64 pk] w fun e w' => e = .returned (.bool (decide (GdC c pk))) ∧ Only (fun _ => False) w w' := by
  obtain ⟨a, cap, rfl⟩ := hc.shape
  have HC := hide hc
  clear hc
  by_cases h1 : 1 ≤ c.length
  case neg =>
    have a1 : decide ((c.length : Int) < 1) = true := decide_eq_true (by omega)
    have HE := hide (decide_eq_false (show ¬ GdC c pk from fun d => h1 d.1.1))
    go_enter Tryz.func234, Tryz.ntmps234
    go_wp2_with fail
    go_ret
    exact ⟨by rw [unhide HE]; rfl, Only.refl _ _⟩
  have a1 : decide ((c.length : Int) < 1) = false := decide_eq_false (by omega)
  by_cases h2 : c.length ≤ 3
  case neg =>
    have a2 : decide ((c.length : Int) > 3) = true := decide_eq_true (by omega)
    have a2' : decide ((3 : Int) < (c.length : Int)) = true := decide_eq_true (by omega)
    have HE := hide (decide_eq_false (show ¬ GdC c pk from fun d => h2 d.1.2.1))
    go_enter Tryz.func234, Tryz.ntmps234
    go_wp2_with fail
    go_ret
    exact ⟨by rw [unhide HE]; rfl, Only.refl _ _⟩
  have a2 : decide ((c.length : Int) > 3) = false := decide_eq_false (by omega)
  have a2' : decide ((3 : Int) < (c.length : Int)) = false := decide_eq_false (by omega)
  by_cases h3 : 0 ≤ pk
  case neg =>
    have a3 : decide (pk < 0) = true := decide_eq_true (by omega)
    have HE := hide (decide_eq_false (show ¬ GdC c pk from fun d => h3 d.1.2.2.1))
    go_enter Tryz.func234, Tryz.ntmps234
    go_wp2_with fail
    go_ret
    exact ⟨by rw [unhide HE]; rfl, Only.refl _ _⟩
  have a3 : decide (pk < 0) = false := decide_eq_false (by omega)
  by_cases h4 : pk < (c.length : Int)
  case neg =>
    have a4 : decide (pk ≥ (c.length : Int)) = true := decide_eq_true (by omega)
    have a4' : decide ((c.length : Int) ≤ pk) = true := decide_eq_true (by omega)
    have HE := hide (decide_eq_false (show ¬ GdC c pk from fun d => h4 d.1.2.2.2))
    go_enter Tryz.func234, Tryz.ntmps234
    go_wp2_with fail
    go_ret
    exact ⟨by rw [unhide HE]; rfl, Only.refl _ _⟩
  have a4 : decide (pk ≥ (c.length : Int)) = false := decide_eq_false (by omega)
  have a4' : decide ((c.length : Int) ≤ pk) = false := decide_eq_false (by omega)
  have H0 := hide (show (1 ≤ c.length ∧ c.length ≤ 3 ∧ 0 ≤ pk ∧ pk < (c.length : Int)) from ⟨h1, h2, h3, h4⟩)
  go_enter Tryz.func234, Tryz.ntmps234
  go_upto_region 4 with fail
  go_loopw [5] (fun jv wr => ∃ i : Nat, jv = .int .i64 i ∧ i ≤ c.length ∧ (∀ x ∈ c.take i, gdN x.1) ∧ ((c.map (·.1)).take i).Nodup ∧ Only (fun _ => False) w wr) (fun jv _ => 4 - (intOf jv).toNat)
  case atStart => exact ⟨0, rfl, Nat.zero_le _, by simp, by simp, Only.refl _ _⟩
  case round =>
    obtain ⟨i, rfl, hi, hg, hn, oW⟩ := hrel
    have HO := hide oW
    clear oW
    by_cases hi2 : i < c.length
    · have b1 : decide ((i : Int) < (c.length : Int)) = true := decide_eq_true (by omega)
      have b1p : (i : Int) < (c.length : Int) := by omega
      obtain ⟨x, hx⟩ := getE hi2
      obtain ⟨g, ha, e0, e1⟩ := ((unhide HC).keep (unhide HO) (fun _ _ e => e)).at_ hx
      subst ha
      have C1 := hide (eGoodName_any x.1 wr)
      have hxm : x ∈ c := List.mem_of_getElem? hx
      have hmx : (c.map (·.1))[i]? = some x.1 := by simp [hx]
      have HX := hide (And.intro hx (And.intro hmx (And.intro hg hn)))
      clear hx hmx hg hn
      by_cases hgx : gdN x.1
      case neg =>
        have HE := hide (decide_eq_false (show ¬ GdC c pk from fun d => hgx (d.2.1 x hxm)))
        go_wp2_with fail
        refine (unhide C1).mono ?_
        rintro e w1 ⟨rfl, rfl⟩
        rw [decide_eq_false hgx]
        go_wp2_with fail
        go_ret
        exact ⟨by rw [unhide HE]; rfl, unhide HO⟩
      go_wp2_with fail
      refine (unhide C1).mono ?_
      rintro e w1 ⟨rfl, rfl⟩
      rw [decide_eq_true hgx]
      go_upto_region 9 with fail
      go_loopw [6] (fun jv wr => ∃ j : Nat, jv = .int .i64 j ∧ j ≤ i ∧ (∀ j' y, j' < j → (c.map (·.1))[j']? = some y → y ≠ x.1) ∧ Only (fun _ => False) w wr) (fun jv _ => 4 - (intOf jv).toNat)
      case atStart => exact ⟨0, rfl, Nat.zero_le _, fun _ _ h => absurd h (Nat.not_lt_zero _), unhide HO⟩
      case round =>
        clear HO
        obtain ⟨j, rfl, hj, hne, oW⟩ := hrel
        have HO := hide oW
        clear oW
        by_cases hj2 : j < i
        · have d1 : decide ((j : Int) < (i : Int)) = true := decide_eq_true (by omega)
          have d1p : (j : Int) < (c.length : Int) := by omega
          obtain ⟨y, hy⟩ := getE (l := c) (i := j) (by omega)
          obtain ⟨g2, ha, f0, f1⟩ := ((unhide HC).keep (unhide HO) (fun _ _ e => e)).at_ hy
          obtain rfl : g = g2 := by simpa using ha
          have e0 := (((unhide HC).keep (unhide HO) (fun _ _ e => e)).at_ (unhide HX).1)
          obtain ⟨g3, ha3, e0, _⟩ := e0
          obtain rfl : g = g3 := by simpa using ha3
          have hmy : (c.map (·.1))[j]? = some y.1 := by simp [hy]
          by_cases hyx : y.1 = x.1
          · have d2 := seq_t hyx
            have HE := hide (decide_eq_false (show ¬ GdC c pk from fun d => by
              have := (nodup_take_succ (unhide HX).2.1).mp ((List.take_sublist _ _).nodup d.2.2)
              exact this.2 j y.1 hj2 hmy hyx))
            rw [hyx] at f0
            have e1 := (unhide HE)
            clear hy hmy hne ha d2 ha3 e1
            go_wp2_with fail
            go_region
            all_goals
              go_wp2_with fail
              go_ret
              exact ⟨by rw [unhide HE]; rfl, (unhide HO).drew⟩
          · have d2 := seq_f hyx
            have HN := hide (show ∀ j' y, j' < j + 1 → (c.map (·.1))[j']? = some y → y ≠ x.1 from fun j' z hj' hz => by
              by_cases e : j' = j
              · subst e
                rw [hmy] at hz
                cases hz
                exact hyx
              · exact hne j' z (by omega) hz)
            clear hy hmy hne ha hyx ha3
            go_wp2_with fail
            go_region
            all_goals
              go_wp2_with fail
              exact ⟨⟨j + 1, by go_num, by omega, unhide HN, (unhide HO).drew⟩, by simp [intOf]; omega⟩
        · obtain rfl : j = i := by omega
          have d1 : decide ((j : Int) < (j : Int)) = false := by simp
          have HN := hide (And.intro (show ∀ y ∈ c.take (j + 1), gdN y.1 from fun y (hy : y ∈ c.take (j + 1)) => by
            obtain ⟨hj3, ex⟩ := List.getElem?_eq_some_iff.mp (unhide HX).1
            rw [List.take_succ_eq_append_getElem hj3] at hy
            rcases List.mem_append.mp hy with hy2 | hy2
            · exact (unhide HX).2.2.1 y hy2
            · rw [List.mem_singleton.mp hy2, ex]; exact hgx) ((nodup_take_succ (unhide HX).2.1).mpr ⟨(unhide HX).2.2.2, hne⟩))
          clear hne
          go_wp2_with fail
          exact ⟨⟨j + 1, by go_num, by omega, (unhide HN).1, (unhide HN).2, unhide HO⟩, by simp [intOf]; omega⟩
    · obtain rfl : i = c.length := by omega
      have b1 : decide ((c.length : Int) < (c.length : Int)) = false := by simp
      rw [List.take_length] at hg
      rw [List.take_of_length_le (by simp)] at hn
      have HE := hide (decide_eq_true (show GdC c pk from ⟨unhide H0, hg, hn⟩))
      go_wp2_with fail
      go_ret
      exact ⟨by rw [unhide HE]; rfl, unhide HO⟩
theorem Tryz.sizeESch : (Tryz.prog.info? 79).map (·.size) = some 4 := by kernel_rfl
set_option maxRecDepth 100000 in
theorem eCheckVal_any {w : World} {cv : Value} {c : List Cl} (hc : OwnC w cv c) (nm : ByteArray) (pk ix : Int) (k : Nat) {x : Cl} (hk : c[k]? = some x) (v : Vl) : Calls Tryz.prog 296 #[schA nm cv pk ix, .int .i64 k, vlA v] w fun e w' => e = .returned (.int .i64 (chkVal x v)) ∧ Only (fun _ => False) w w' := by
  obtain ⟨a, cap, rfl⟩ := hc.shape
  have o0 : Only (fun _ => False) w ((w.alloc (.cells #[.string nm, .slice a c.length cap, .int .i64 pk, .int .i64 ix] 79)).alloc (.cells #[.bool v.str, .int .i64 v.i, .string v.s] 152)) := ((Only.refl _ w).alloc _).alloc _
  have hc2 := hc.keep o0 (fun _ _ e => e)
  obtain ⟨g, rfl, e0, e1⟩ := hc2.at_ hk
  have hkl : k < c.length := (List.getElem?_eq_some_iff.mp hk).1
  have hkI : (k : Int) < (c.length : Int) := by omega
  have HO := hide o0
  clear hc hc2 o0 hk hkl
  unfold vlA schA chkVal
  obtain ⟨vs, vi, ss⟩ := v
  obtain ⟨xn, xs⟩ := x
  simp only at *
  by_cases h1 : vs = xs
  · rw [if_pos h1]
    have b1 : (vs != xs) = false := by rw [h1]; simp
    by_cases h2 : ss.size ≤ 7
    · rw [if_pos h2]
      have b2 : decide ((ss.size : Int) > 7) = false := decide_eq_false (by omega)
      have b2' : decide ((7 : Int) < (ss.size : Int)) = false := decide_eq_false (by omega)
      subst h1
      go_enter Tryz.func296, Tryz.ntmps296
      go_wp2_with fail
      go_region
      all_goals
        go_wp2_with fail
        go_ret
        exact ⟨rfl, (unhide HO).drew⟩
    · rw [if_neg h2]
      have b2 : decide ((ss.size : Int) > 7) = true := decide_eq_true (by omega)
      have b2' : decide ((7 : Int) < (ss.size : Int)) = true := decide_eq_true (by omega)
      subst h1
      go_enter Tryz.func296, Tryz.ntmps296
      go_wp2_with fail
      go_region
      all_goals
        go_wp2_with fail
        go_ret
        exact ⟨rfl, (unhide HO).drew⟩
  · rw [if_neg h1]
    cases vs <;> cases xs <;> first | exact absurd rfl h1 | skip
    all_goals
      go_enter Tryz.func296, Tryz.ntmps296
      go_wp2_with fail
      go_region
      go_wp2_with fail
      go_ret
      exact ⟨rfl, (unhide HO).drew⟩
set_option maxRecDepth 100000 in
set_option maxHeartbeats 4000000 in
theorem eCheckRow_any {w : World} {cv rv : Value} {c : List Cl} {r : List Vl} (hc : OwnC w cv c) (hr : OwnV w rv r) (hr4 : r.length ≤ 200) (nm : ByteArray) (pk ix : Int) : Calls Tryz.prog 298 #[schA nm cv pk ix, rv] w fun e w' => e = .returned (.int .i64 (chkRow c r)) ∧ Only (fun _ => False) w w' := by
  obtain ⟨a, cap, rfl⟩ := hc.shape
  obtain ⟨ra, rcap, rfl⟩ := hr.shape
  have o0 : Only (fun _ => False) w (w.alloc (.cells #[.string nm, .slice a c.length cap, .int .i64 pk, .int .i64 ix] 79)) := (Only.refl _ w).alloc _
  have N0 := Has.new w #[.string nm, .slice a c.length cap, .int .i64 pk, .int .i64 ix] 79
  have HH := hide (And.intro hc (And.intro hr (And.intro N0 o0)))
  clear hc hr N0 o0
  unfold schA
  by_cases hl : r.length = c.length
  case neg =>
    have b1 : ((r.length : Int) != (c.length : Int)) = true := by simp; omega
    have HE := hide (show chkRow c r = 15 from by unfold chkRow; rw [if_neg (fun e => hl (by have := congrArg List.length e; simpa using this))])
    go_enter Tryz.func298, Tryz.ntmps298
    go_wp2_with fail
    go_ret
    exact ⟨by rw [unhide HE]; rfl, (unhide HH).2.2.2⟩
  have b1 : ((r.length : Int) != (c.length : Int)) = false := by rw [hl]; simp
  have HL := hide hl
  clear hl
  go_enter Tryz.func298, Tryz.ntmps298
  go_upto_region 4 with fail
  go_loopw [5] (fun jv wr => ∃ i : Nat, jv = .int .i64 i ∧ i ≤ r.length ∧ (r.map (·.str)).take i = (c.map (·.2)).take i ∧ Only (fun _ => False) (w.alloc (.cells #[.string nm, .slice a c.length cap, .int .i64 pk, .int .i64 ix] 79)) wr) (fun jv _ => r.length - (intOf jv).toNat)
  case atStart => exact ⟨0, rfl, Nat.zero_le _, by simp, Only.refl _ _⟩
  case round =>
    obtain ⟨i, rfl, hi, hg, oW⟩ := hrel
    have HO := hide ((unhide HH).2.2.2.trans oW (fun _ _ e => e))
    have HO1 := hide oW
    have N1 := (unhide HH).2.2.1.keep oW (fun e => e)
    clear oW
    by_cases hi2 : i < r.length
    · have d1 : decide ((i : Int) < (r.length : Int)) = true := decide_eq_true (by omega)
      have d1p : (i : Int) < (r.length : Int) := by omega
      have d1q : (i : Int) < (c.length : Int) := by have := unhide HL; omega
      obtain ⟨x, hx⟩ := getE hi2
      obtain ⟨y, hy⟩ := getE (l := c) (i := i) (by have := unhide HL; omega)
      obtain ⟨g, ha, e0, e1, e2⟩ := ((unhide HH).2.1.keep (unhide HO) (fun _ _ e => e)).at_ hx
      obtain ⟨g2, ha2, f0, f1⟩ := ((unhide HH).1.keep (unhide HO) (fun _ _ e => e)).at_ hy
      subst ha ha2
      have z1 := N1.cell 1
      simp at z1
      have m1 : (r.map (·.str))[i]? = some x.str := by simp [hx]
      have m2 : (c.map (·.2))[i]? = some y.2 := by simp [hy]
      have HM := hide (And.intro m1 (And.intro m2 hg))
      clear hx hy N1 m1 m2 hg
      by_cases hxy : x.str = y.2
      · have b2 : (x.str != y.2) = false := by rw [hxy]; simp
        have b2' : (y.2 != y.2) = false := by simp
        have HN := hide (show (r.map (·.str)).take (i + 1) = (c.map (·.2)).take (i + 1) from by
          rw [List.take_add_one, List.take_add_one, (unhide HM).1, (unhide HM).2.1, (unhide HM).2.2, hxy])
        rw [hxy] at e0
        clear hxy
        go_wp2_with fail
        go_quiet (fail)
        go_wp2_with fail
        go_roundw
        case rel => exact ⟨i + 1, by go_num, by omega, unhide HN, (unhide HO1).trans (onlyQ _ _) (fun _ _ h => h)⟩
        case measure => simp [intOf]; omega
      · have b2 : (x.str != y.2) = true := by simpa using hxy
        have HE := hide (show chkRow c r = 15 from by
          unfold chkRow
          rw [if_neg (fun e => hxy (by
            have h1 := (unhide HM).1
            rw [e, (unhide HM).2.1] at h1
            exact (Option.some.inj h1).symm))])
        obtain ⟨xs, xi, xS⟩ := x
        obtain ⟨yn, ys⟩ := y
        simp only at *
        cases xs <;> cases ys <;> first | exact absurd rfl hxy | skip
        all_goals
          clear hxy b2
          go_wp2_with fail
          go_quiet (fail)
          go_wp2_with fail
          go_ret
          exact ⟨by rw [unhide HE]; rfl, (unhide HO).trans (onlyQ _ _) (fun _ _ h => h)⟩
    · obtain rfl : i = r.length := by omega
      have d1 : decide ((r.length : Int) < (r.length : Int)) = false := by simp
      have HT := hide (show r.map (·.str) = c.map (·.2) from by
        have h1 : (r.map (·.str)).take r.length = r.map (·.str) := List.take_of_length_le (by simp)
        have h2 : (c.map (·.2)).take r.length = c.map (·.2) := List.take_of_length_le (by have := unhide HL; simp; omega)
        rw [← h1, ← h2]
        exact hg)
      clear hg N1
      go_upto_region 9 with fail
      go_loop [6] (fun jv => ∃ i : Nat, jv = .int .i64 i ∧ i ≤ r.length ∧ ∀ v ∈ r.take i, v.s.size ≤ 7) (fun jv => r.length - (intOf jv).toNat)
      case atStart => exact ⟨0, rfl, Nat.zero_le _, by simp⟩
      case round =>
        obtain ⟨i, rfl, hi, hg⟩ := hrel
        by_cases hi2 : i < r.length
        · have d1 : decide ((i : Int) < (r.length : Int)) = true := decide_eq_true (by omega)
          have d1p : (i : Int) < (r.length : Int) := by omega
          obtain ⟨x, hx⟩ := getE hi2
          obtain ⟨g, ha, e0, e1, e2⟩ := ((unhide HH).2.1.keep (unhide HO) (fun _ _ e => e)).at_ hx
          subst ha
          have hxm : x ∈ r := List.mem_of_getElem? hx
          by_cases h7 : x.s.size ≤ 7
          · have b2 : decide ((x.s.size : Int) > 7) = false := decide_eq_false (by omega)
            have b2' : decide ((7 : Int) < (x.s.size : Int)) = false := decide_eq_false (by omega)
            have HN := hide (show ∀ v ∈ r.take (i + 1), v.s.size ≤ 7 from fun v (hv : v ∈ r.take (i + 1)) => by
              obtain ⟨hj3, ex⟩ := List.getElem?_eq_some_iff.mp hx
              rw [List.take_succ_eq_append_getElem hj3] at hv
              rcases List.mem_append.mp hv with hv2 | hv2
              · exact hg v hv2
              · rw [List.mem_singleton.mp hv2, ex]; exact h7)
            clear hx hg
            go_wp2_with fail
            exact ⟨⟨i + 1, by go_num, by omega, unhide HN⟩, by simp [intOf]; omega⟩
          · have b2 : decide ((x.s.size : Int) > 7) = true := decide_eq_true (by omega)
            have b2' : decide ((7 : Int) < (x.s.size : Int)) = true := decide_eq_true (by omega)
            have HE := hide (show chkRow c r = 16 from by
              unfold chkRow
              rw [if_pos (unhide HT), if_neg (fun e => h7 (e x hxm))])
            clear hx hg
            go_wp2_with fail
            go_ret
            exact ⟨by rw [unhide HE]; rfl, unhide HO⟩
        · obtain rfl : i = r.length := by omega
          have d1 : decide ((r.length : Int) < (r.length : Int)) = false := by simp
          have HE := hide (show chkRow c r = 0 from by
            unfold chkRow
            rw [if_pos (unhide HT), if_pos (by rw [List.take_length] at hg; exact hg)])
          clear hg
          go_wp2_with fail
          go_ret
          exact ⟨by rw [unhide HE]; rfl, unhide HO⟩
end Go.Proofs.Qxb6500412aGreat
