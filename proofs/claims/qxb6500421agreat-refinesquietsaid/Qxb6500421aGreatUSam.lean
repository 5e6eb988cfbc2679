/-
  OWN WORK. THE TREE MODEL: listings compared.
-/
import Derived.Test.Qxb6500421aGreatUMem
import Derived.Laws.StructEq
namespace Go.Proofs.Qxb6500421aGreat
open Go.RowKit Go.PlainAid
set_option linter.unusedSimpArgs false
set_option linter.unusedVariables false


theorem Tryz.eqEntry (a d : ByteArray) (b c e f : Int) (w : World) : (Op.equalIn 10000 67 (.agg #[.string a, .int .i64 b, .int .i64 c]) (.agg #[.string d, .int .i64 e, .int .i64 f])).run Tryz.prog w = .ok (a.toList == d.toList && (b == e && c == f)) w := by
  have hS : Tryz.prog.underlying 67 = some (.struct (Tryz.prog.fieldsOf 67)) := by kernel_rfl
  have hp : Tryz.prog.stoodInHeld 67 = false := by kernel_rfl
  have u3 := Tryz.underlying3
  have u9 := Tryz.underlying9
  rw [show (10000 : Nat) = 9999 + 1 from rfl, run_equalIn_agg w 9999 67 _ _ hS hp]
  simp only [Program.fieldsOf, Tryz.underlying67]
  go_simp
  by_cases h1 : a.toList = d.toList <;> by_cases h2 : b = e <;> by_cases h3 : c = f <;> simp [h1, h2, h3]
theorem en_ext {a b : En} (h1 : sb a.path = sb b.path) (h2 : a.id = b.id) (h3 : a.mode = b.mode) : a = b := by
  obtain ⟨a1, a2, a3⟩ := a
  obtain ⟨b1, b2, b3⟩ := b
  have := congrArg ls h1
  rw [ls_sb, ls_sb] at this
  simp only at this h2 h3
  rw [this, h2, h3]
set_option maxRecDepth 100000 in
set_option maxHeartbeats 1000000 in
theorem usameList_any {w : World} (v u : Value) (x y : List En) (hx : EntsIn w v x) (hy : EntsIn w u y) (hlen : x.length ≤ 4611686018427387904) :
    Calls Tryz.prog 116 #[v, u] w fun e w' => e = .returned (.bool (decide (x = y))) ∧ Only (fun _ => False) w w' := by
  obtain ⟨va, vc, rfl, hxc⟩ := hx
  obtain ⟨ua, uc, rfl, hyc⟩ := hy
  by_cases hl : x.length = y.length
  · have Hxc := hide hxc
    have Hyc := hide hyc
    have hgd : Tryz.prog.eqGuardType Tryz.prog.depth 67 = false := by kernel_rfl
    have hEq := Tryz.eqEntry
    clear hxc hyc
    obtain ⟨n, hn⟩ : ∃ n, n = x.length := ⟨_, rfl⟩
    rw [← hl, ← hn]
    rw [← hn] at hlen hl
    have Hnx := hide hn.symm
    have Hl := hide hl
    have n1 : ((n : Int) != (n : Int)) = false := by simp
    clear hn hl
    go_enter Tryz.func116, Tryz.ntmps116
    go_wp2_with fail
    go_loopw [5] (fun iv wr => ∃ i : Nat, i ≤ n ∧ iv = .int .i64 i ∧ (∀ j (h1 : j < x.length) (h2 : j < y.length), j < i → x[j] = y[j]) ∧ Only (fun _ => False) w wr) (fun iv _ => n - (intOf iv).toNat)
    case atStart => exact ⟨0, by omega, rfl, fun j _ _ hj => by omega, Only.refl _ _⟩
    case round =>
      obtain ⟨i, hi, rfl, ha, ho⟩ := hrel
      have Ha := hide ha
      clear ha
      have hX := unhide Hnx
      have hY := unhide Hl
      by_cases hin : i < n
      · have hix : i < x.length := by omega
        have hiy : i < y.length := by omega
        obtain ⟨gx, rfl, hcx⟩ := unhide Hxc (by omega)
        obtain ⟨gy, rfl, hcy⟩ := unhide Hyc (by omega)
        obtain ⟨x0, x1, x2⟩ := hcx i hix
        obtain ⟨y0, y1, y2⟩ := hcy i hiy
        have gxl : gx < w.heap.size := World.block_lt_of_cell? w _ x0
        have gyl : gy < w.heap.size := World.block_lt_of_cell? w _ y0
        have bx := ho.block gx gxl (fun h => h)
        have by_ := ho.block gy gyl (fun h => h)
        rw [← World.cell?_of_block bx] at x0 x1 x2
        rw [← World.cell?_of_block by_] at y0 y1 y2
        have a1 : decide ((i : Int) < (n : Int)) = true := by simp; omega
        have a2 : (i : Int) < (n : Int) := by omega
        clear bx by_ hcx hcy hX hY
        have hcmp : (x[i] = y[i]) ↔ ((sb x[i].path).toList == (sb y[i].path).toList && (x[i].id == y[i].id && x[i].mode == y[i].mode)) = true := by
          constructor
          · intro e; rw [e]; simp
          · intro e
            simp only [Bool.and_eq_true, beq_iff_eq] at e
            refine en_ext (ls_inj ?_) e.2.1 e.2.2
            have := e.1
            rw [← ls_toList, ← ls_toList]
            exact this
        have hE := Tryz.eqEntry (sb x[i].path) (sb y[i].path) x[i].id x[i].mode y[i].id y[i].mode
        by_cases hxy : x[i] = y[i]
        · rw [hcmp.1 hxy] at hE
          have Hxy := hide hxy
          clear hxy hcmp hEq
          generalize sb x[i].path = p0 at *
          generalize x[i].id = p1 at *
          generalize x[i].mode = p2 at *
          generalize sb y[i].path = q0 at *
          generalize y[i].id = q1 at *
          generalize y[i].mode = q2 at *
          go_upto_region 6 with fail
          go_region
          all_goals
            go_wp2_with fail
            go_roundw
            case rel =>
              refine ⟨i + 1, by omega, by go_num, fun j h1 h2 hj => ?_, ho.drewO _⟩
              by_cases e : j = i
              · subst e; exact unhide Hxy
              · exact unhide Ha j h1 h2 (by omega)
            case measure => simp [intOf]; omega
        · have hf : ((sb x[i].path).toList == (sb y[i].path).toList && (x[i].id == y[i].id && x[i].mode == y[i].mode)) = false := by
            cases hq : ((sb x[i].path).toList == (sb y[i].path).toList && (x[i].id == y[i].id && x[i].mode == y[i].mode)) with
            | false => rfl
            | true => exact absurd (hcmp.2 hq) hxy
          rw [hf] at hE
          have hne : decide (x = y) = false := by
            apply decide_eq_false
            intro e
            exact hxy (by simp [e])
          have Hne := hide hne
          clear hne hxy hcmp hf hEq
          generalize sb x[i].path = p0 at *
          generalize x[i].id = p1 at *
          generalize x[i].mode = p2 at *
          generalize sb y[i].path = q0 at *
          generalize y[i].id = q1 at *
          generalize y[i].mode = q2 at *
          go_upto_region 6 with fail
          go_region
          all_goals
            go_wp2_with fail
            go_ret
            rw [unhide Hne]
            exact ⟨rfl, ho.drewO _⟩
      · obtain rfl : i = n := by omega
        have heq : decide (x = y) = true := by
          apply decide_eq_true
          apply List.ext_getElem (by omega)
          intro j h1 h2
          exact unhide Ha j h1 h2 (by omega)
        have Heq := hide heq
        have a1 : decide ((i : Int) < (i : Int)) = false := by simp
        have a1' : ¬ i < i := by omega
        clear heq hX hY
        go_wp2_with fail
        go_ret
        rw [unhide Heq]
        exact ⟨rfl, ho⟩
  · have hne : decide (x = y) = false := by
      apply decide_eq_false
      intro e; rw [e] at hl; exact hl rfl
    rw [hne]
    clear hxc hyc
    generalize x.length = n at *
    generalize y.length = k at *
    have n1 : ((n : Int) != (k : Int)) = true := by simp; omega
    go_enter Tryz.func116, Tryz.ntmps116
    go_wp2_with fail
    go_ret
    exact ⟨rfl, Only.refl _ _⟩
end Go.Proofs.Qxb6500421aGreat
