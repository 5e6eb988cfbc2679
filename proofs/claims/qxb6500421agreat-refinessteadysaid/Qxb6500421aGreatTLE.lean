/-
  OWN WORK. THE TREE LAW: SameEntries, SameInts.
-/
import Derived.Test.Qxb6500421aGreatUSam
import Derived.Test.Qxb6500421aGreatTL0
namespace Go.Proofs.Qxb6500421aGreat
open Go.RowKit Go.PlainAid
set_option linter.unusedSimpArgs false
set_option linter.unusedVariables false

set_option maxRecDepth 100000 in
set_option maxHeartbeats 1000000 in
theorem tlsameE_any {w : World} (v u : Value) (x y : List En) (hx : EntsIn w v x) (hy : EntsIn w u y) (hlen : x.length ≤ 4611686018427387904) :
    Calls Tryz.prog 68 #[v, u] w fun e w' => e = .returned (.bool (decide (x = y))) ∧ Only (fun _ => False) w w' := by
  obtain ⟨va, vc, rfl, hxc⟩ := hx
  obtain ⟨ua, uc, rfl, hyc⟩ := hy
  by_cases hl : x.length = y.length
  · have Hxc := hide hxc
    have Hyc := hide hyc
    clear hxc hyc
    obtain ⟨n, hn⟩ : ∃ n, n = x.length := ⟨_, rfl⟩
    rw [← hl, ← hn]
    rw [← hn] at hlen hl
    have Hnx := hide hn.symm
    have Hl := hide hl
    have n1 : ((n : Int) != (n : Int)) = false := by simp
    clear hn hl
    go_enter Tryz.func68, Tryz.ntmps68
    go_wp2_with fail
    go_loopw [5] (fun iv wr => ∃ i : Nat, i ≤ n ∧ iv = .int .i64 i ∧ (∀ j (h1 : j < x.length) (h2 : j < y.length), j < i → x[j] = y[j]) ∧ Only (fun _ => False) w wr) (fun iv _ => n - (intOf iv).toNat)
    case atStart => exact ⟨0, by omega, rfl, fun j _ _ hj => by omega, Only.refl _ _⟩
    case round =>
      obtain ⟨i, hi, rfl, ha, ho⟩ := hrel
      have Ha := hide ha
      clear ha
      have hX := unhide Hnx
      have hY := unhide Hl
      by_cases hin : i < n
      · have hix : i < x.length := by omega
        have hiy : i < y.length := by omega
        obtain ⟨gx, rfl, hcx⟩ := unhide Hxc (by omega)
        obtain ⟨gy, rfl, hcy⟩ := unhide Hyc (by omega)
        obtain ⟨x0, x1, x2⟩ := hcx i hix
        obtain ⟨y0, y1, y2⟩ := hcy i hiy
        have gxl : gx < w.heap.size := World.block_lt_of_cell? w _ x0
        have gyl : gy < w.heap.size := World.block_lt_of_cell? w _ y0
        have bx := ho.block gx gxl (fun h => h)
        have by_ := ho.block gy gyl (fun h => h)
        rw [← World.cell?_of_block bx] at x0 x1 x2
        rw [← World.cell?_of_block by_] at y0 y1 y2
        have a1 : decide ((i : Int) < (n : Int)) = true := by simp; omega
        have a2 : (i : Int) < (n : Int) := by omega
        clear bx by_ hcx hcy hX hY
        have Hnext : Hid (x[i] = y[i] → ∀ j (h1 : j < x.length) (h2 : j < y.length), j < i + 1 → x[j] = y[j]) := hide (fun hxy j h1 h2 hj => by
          by_cases e : j = i
          · subst e; exact hxy
          · exact unhide Ha j h1 h2 (by omega))
        have Hfail : Hid (x[i] ≠ y[i] → decide (x = y) = false) := hide (fun hxy => by
          apply decide_eq_false
          intro e
          exact hxy (by simp [e]))
        generalize x[i] = p at *
        generalize y[i] = q at *
        obtain ⟨p0, p1, p2⟩ := p
        obtain ⟨q0, q1, q2⟩ := q
        simp only at x0 x1 x2 y0 y1 y2
        by_cases h0 : p0 = q0
        · subst h0
          have d0 : ((sb p0).toList == (sb p0).toList) = true := by simp
          by_cases h1 : p1 = q1
          · subst h1
            have d1 : ((p1 : Int) != (p1 : Int)) = false := by simp
            by_cases h2 : p2 = q2
            · subst h2
              have d2 : ((p2 : Int) != (p2 : Int)) = false := by simp
              have HN := hide (unhide Hnext rfl)
              clear Hnext Hfail
              generalize sb p0 = P0 at *
              go_upto_region 6 with fail
              go_quiet (fail)
              go_wp2_with fail
              go_roundw
              case rel => exact ⟨i + 1, by omega, by go_num, unhide HN, ho.drewO _⟩
              case measure => simp [intOf]; omega
            · have d2 : ((p2 : Int) != (q2 : Int)) = true := by simpa using h2
              have HF := hide (unhide Hfail (fun e => h2 (congrArg En.mode e)))
              clear Hnext Hfail
              generalize sb p0 = P0 at *
              go_upto_region 6 with fail
              go_quiet (fail)
              go_wp2_with fail
              go_ret
              rw [unhide HF]
              exact ⟨rfl, ho.drewO _⟩
          · have d1 : ((p1 : Int) != (q1 : Int)) = true := by simpa using h1
            have HF := hide (unhide Hfail (fun e => h1 (congrArg En.id e)))
            clear Hnext Hfail
            generalize sb p0 = P0 at *
            go_upto_region 6 with fail
            go_quiet (fail)
            go_wp2_with fail
            go_ret
            rw [unhide HF]
            exact ⟨rfl, ho.drewO _⟩
        · have d0 : ((sb p0).toList == (sb q0).toList) = false := by
            cases hh : ((sb p0).toList == (sb q0).toList) with
            | false => rfl
            | true =>
              exfalso
              apply h0
              have h5 : (sb p0).toList = (sb q0).toList := by simpa using hh
              rw [ls_toList, ls_toList, ls_sb, ls_sb] at h5
              exact h5
          have HF := hide (unhide Hfail (fun e => h0 (congrArg En.path e)))
          clear Hnext Hfail h0
          generalize sb p0 = P0 at *
          generalize sb q0 = Q0 at *
          go_upto_region 6 with fail
          go_quiet (fail)
          go_wp2_with fail
          go_ret
          rw [unhide HF]
          exact ⟨rfl, ho.drewO _⟩
      · obtain rfl : i = n := by omega
        have heq : decide (x = y) = true := by
          apply decide_eq_true
          apply List.ext_getElem (by omega)
          intro j h1 h2
          exact unhide Ha j h1 h2 (by omega)
        have Heq := hide heq
        have a1 : decide ((i : Int) < (i : Int)) = false := by simp
        have a1' : ¬ i < i := by omega
        clear heq hX hY
        go_wp2_with fail
        go_ret
        rw [unhide Heq]
        exact ⟨rfl, ho⟩
  · have hne : decide (x = y) = false := by
      apply decide_eq_false
      intro e; rw [e] at hl; exact hl rfl
    rw [hne]
    clear hxc hyc
    generalize x.length = n at *
    generalize y.length = k at *
    have n1 : ((n : Int) != (k : Int)) = true := by simp; omega
    go_enter Tryz.func68, Tryz.ntmps68
    go_wp2_with fail
    go_ret
    exact ⟨rfl, Only.refl _ _⟩
set_option maxRecDepth 100000 in
set_option maxHeartbeats 1000000 in
theorem tlsameI_any {w : World} (v u : Value) (x y : List Int) (hx : IntsIn w v x) (hy : IntsIn w u y) (hlen : x.length ≤ 4611686018427387904) :
    Calls Tryz.prog 71 #[v, u] w fun e w' => e = .returned (.bool (decide (x = y))) ∧ Only (fun _ => False) w w' := by
  obtain ⟨va, vc, rfl, hxc⟩ := hx
  obtain ⟨ua, uc, rfl, hyc⟩ := hy
  by_cases hl : x.length = y.length
  · have Hxc := hide hxc
    have Hyc := hide hyc
    clear hxc hyc
    obtain ⟨n, hn⟩ : ∃ n, n = x.length := ⟨_, rfl⟩
    rw [← hl, ← hn]
    rw [← hn] at hlen hl
    have Hnx := hide hn.symm
    have Hl := hide hl
    have n1 : ((n : Int) != (n : Int)) = false := by simp
    clear hn hl
    go_enter Tryz.func71, Tryz.ntmps71
    go_wp2_with fail
    go_loopw [5] (fun iv wr => ∃ i : Nat, i ≤ n ∧ iv = .int .i64 i ∧ (∀ j (h1 : j < x.length) (h2 : j < y.length), j < i → x[j] = y[j]) ∧ Only (fun _ => False) w wr) (fun iv _ => n - (intOf iv).toNat)
    case atStart => exact ⟨0, by omega, rfl, fun j _ _ hj => by omega, Only.refl _ _⟩
    case round =>
      obtain ⟨i, hi, rfl, ha, ho⟩ := hrel
      have Ha := hide ha
      clear ha
      have hX := unhide Hnx
      have hY := unhide Hl
      by_cases hin : i < n
      · have hix : i < x.length := by omega
        have hiy : i < y.length := by omega
        obtain ⟨gx, rfl, hcx⟩ := unhide Hxc (by omega)
        obtain ⟨gy, rfl, hcy⟩ := unhide Hyc (by omega)
        have x0 := hcx i hix
        have y0 := hcy i hiy
        have gxl : gx < w.heap.size := World.block_lt_of_cell? w _ x0
        have gyl : gy < w.heap.size := World.block_lt_of_cell? w _ y0
        have bx := ho.block gx gxl (fun h => h)
        have by_ := ho.block gy gyl (fun h => h)
        rw [← World.cell?_of_block bx] at x0
        rw [← World.cell?_of_block by_] at y0
        have a1 : decide ((i : Int) < (n : Int)) = true := by simp; omega
        have a2 : (i : Int) < (n : Int) := by omega
        clear bx by_ hcx hcy hX hY
        have Hnext : Hid (x[i] = y[i] → ∀ j (h1 : j < x.length) (h2 : j < y.length), j < i + 1 → x[j] = y[j]) := hide (fun hxy j h1 h2 hj => by
          by_cases e : j = i
          · subst e; exact hxy
          · exact unhide Ha j h1 h2 (by omega))
        have Hfail : Hid (x[i] ≠ y[i] → decide (x = y) = false) := hide (fun hxy => by
          apply decide_eq_false
          intro e
          exact hxy (by simp [e]))
        generalize x[i] = p at *
        generalize y[i] = q at *
        by_cases h2 : p = q
        · subst h2
          have d2 : ((p : Int) != (p : Int)) = false := by simp
          have HN := hide (unhide Hnext rfl)
          clear Hnext Hfail
          go_upto_region 6 with fail
          go_quiet (fail)
          go_wp2_with fail
          go_roundw
          case rel => exact ⟨i + 1, by omega, by go_num, unhide HN, ho.drewO _⟩
          case measure => simp [intOf]; omega
        · have d2 : ((p : Int) != (q : Int)) = true := by simpa using h2
          have HF := hide (unhide Hfail h2)
          clear Hnext Hfail
          go_upto_region 6 with fail
          go_quiet (fail)
          go_wp2_with fail
          go_ret
          rw [unhide HF]
          exact ⟨rfl, ho.drewO _⟩
      · obtain rfl : i = n := by omega
        have heq : decide (x = y) = true := by
          apply decide_eq_true
          apply List.ext_getElem (by omega)
          intro j h1 h2
          exact unhide Ha j h1 h2 (by omega)
        have Heq := hide heq
        have a1 : decide ((i : Int) < (i : Int)) = false := by simp
        have a1' : ¬ i < i := by omega
        clear heq hX hY
        go_wp2_with fail
        go_ret
        rw [unhide Heq]
        exact ⟨rfl, ho⟩
  · have hne : decide (x = y) = false := by
      apply decide_eq_false
      intro e; rw [e] at hl; exact hl rfl
    rw [hne]
    clear hxc hyc
    generalize x.length = n at *
    generalize y.length = k at *
    have n1 : ((n : Int) != (k : Int)) = true := by simp; omega
    go_enter Tryz.func71, Tryz.ntmps71
    go_wp2_with fail
    go_ret
    exact ⟨rfl, Only.refl _ _⟩
end Go.Proofs.Qxb6500421aGreat
