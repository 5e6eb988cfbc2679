/-
  OWN WORK. THE GRAPH LAW: spoilInts, spoilFiles, spoilRefs; sameInts, sameRefs, SameFiles (written by tools/gen_gl1.py).
-/
import Derived.Test.Qxb6500417aGreatHMd11
import Derived.Test.Qxb6500417aGreatHMd10
import Derived.Laws.StructEq
namespace Go.Proofs.Qxb6500417aGreat
open Go.RowKit Go.PlainAid
set_option linter.unusedSimpArgs false
set_option linter.unusedVariables false

set_option maxRecDepth 100000 in
set_option maxHeartbeats 1000000 in
theorem glspoilI_any {w : World} {v : Value} {l : List Int} (h : OwnI w v l) :
    Calls Tryz.prog 74 #[v] w fun e w' => e = .returned (.tuple #[]) ∧ Only (fun k => v.ownBlock = some k) w w' := by
  rcases h.2 with ⟨rfl, _⟩ | ⟨g, cap, cur, rfl, _, hg, hn, hcap, hsz, _⟩
  · go_enter Tryz.func74, Tryz.ntmps74
    go_wp2_with fail
    go_loopw [2] (fun iv wr => iv = .int .i64 0 ∧ w = wr) (fun _ _ => 0)
    case atStart => exact ⟨rfl, rfl⟩
    case round =>
      obtain ⟨rfl, rfl⟩ := hrel
      go_wp2_with fail
      go_end0
      exact ⟨rfl, Only.refl _ _⟩
  · have hh : Has w g cur 3 := hg
    have hgl := hh.lt
    have hmax : cap ≤ 9223372036854775807 := Nat.le_trans hcap (by unfold maxLen; omega)
    have s0 : (0 : Int) ≤ (cap : Int) := by omega
    have s1 : (cap : Int) ≤ (cap : Int) := by omega
    have HH := hide hh
    clear hg h hh
    go_enter Tryz.func74, Tryz.ntmps74
    go_wp2_with fail
    go_loopw [2] (fun iv wr => ∃ (i : Nat) (cur' : Array Value), iv = .int .i64 i ∧ i ≤ cap ∧ Has wr g cur' 3 ∧ cur'.size = cap * 1 ∧ Only (fun k => k = g) w wr) (fun iv _ => cap - (intOf iv).toNat)
    case atStart => exact ⟨0, cur, rfl, by omega, unhide HH, hsz, Only.refl _ _⟩
    case round =>
      clear HH
      obtain ⟨i, cur', rfl, hi, hH, hs, ho⟩ := hrel
      have hgr := hH.lt
      by_cases hil : i < cap
      · have a1 : decide ((i : Int) < (cap : Int)) = true := by simp; omega
        have a2 : (i : Int) < (cap : Int) := by omega
        obtain ⟨v0, q0⟩ : ∃ v0, cur'[i]? = some v0 := ⟨_, Array.getElem?_eq_getElem (by omega)⟩
        have c0 := hH.cell (i)
        rw [q0] at c0
        have z0 := hH.free (i)
        have H3 := hide (hH.setCell (i) (.int .i64 (-7)))
        have HO := hide (ho.setCell (p := ⟨g, i, none⟩) (fun _ => rfl) (.int .i64 (-7)))
        have hs2 : (cur'.setIfInBounds (i) (.int .i64 (-7))).size = cap * 1 := by simpa using hs
        clear q0 hH ho
        go_wp2_with fail
        go_roundw
        case rel => exact ⟨i + 1, _, by go_num, by omega, unhide H3, hs2, unhide HO⟩
        case measure => simp [intOf]; omega
      · have a1 : decide ((i : Int) < (cap : Int)) = false := by simp; omega
        have a1' : ¬ (i : Int) < (cap : Int) := by omega
        go_wp2_with fail
        go_end0
        exact ⟨rfl, ho.mono (fun k _ hk => by rw [hk]; rfl)⟩
set_option maxRecDepth 100000 in
set_option maxHeartbeats 1000000 in
theorem glspoilF_any {w : World} {v : Value} {l : List Fl} (h : OwnF w v l) :
    Calls Tryz.prog 87 #[v] w fun e w' => e = .returned (.tuple #[]) ∧ Only (fun k => v.ownBlock = some k) w w' := by
  rcases h.2 with ⟨rfl, _⟩ | ⟨g, cap, cur, rfl, _, hg, hn, hcap, hsz, _⟩
  · go_enter Tryz.func87, Tryz.ntmps87
    go_wp2_with fail
    go_loopw [2] (fun iv wr => iv = .int .i64 0 ∧ w = wr) (fun _ _ => 0)
    case atStart => exact ⟨rfl, rfl⟩
    case round =>
      obtain ⟨rfl, rfl⟩ := hrel
      go_wp2_with fail
      go_end0
      exact ⟨rfl, Only.refl _ _⟩
  · have hh : Has w g cur 78 := hg
    have hgl := hh.lt
    have hmax : cap ≤ 9223372036854775807 := Nat.le_trans hcap (by unfold maxLen; omega)
    have s0 : (0 : Int) ≤ (cap : Int) := by omega
    have s1 : (cap : Int) ≤ (cap : Int) := by omega
    have HH := hide hh
    clear hg h hh
    go_enter Tryz.func87, Tryz.ntmps87
    go_wp2_with fail
    go_loopw [2] (fun iv wr => ∃ (i : Nat) (cur' : Array Value), iv = .int .i64 i ∧ i ≤ cap ∧ Has wr g cur' 78 ∧ cur'.size = cap * 3 ∧ Only (fun k => k = g) w wr) (fun iv _ => cap - (intOf iv).toNat)
    case atStart => exact ⟨0, cur, rfl, by omega, unhide HH, hsz, Only.refl _ _⟩
    case round =>
      clear HH
      obtain ⟨i, cur', rfl, hi, hH, hs, ho⟩ := hrel
      have hgr := hH.lt
      by_cases hil : i < cap
      · have a1 : decide ((i : Int) < (cap : Int)) = true := by simp; omega
        have a2 : (i : Int) < (cap : Int) := by omega
        obtain ⟨v0, q0⟩ : ∃ v0, cur'[i * 3]? = some v0 := ⟨_, Array.getElem?_eq_getElem (by omega)⟩
        obtain ⟨v1, q1⟩ : ∃ v0, cur'[i * 3 + 1]? = some v0 := ⟨_, Array.getElem?_eq_getElem (by omega)⟩
        obtain ⟨v2, q2⟩ : ∃ v0, cur'[i * 3 + 2]? = some v0 := ⟨_, Array.getElem?_eq_getElem (by omega)⟩
        have c0 := hH.cell (i * 3)
        rw [q0] at c0
        have z0 := hH.free (i * 3)
        have c1 := hH.cell (i * 3 + 1)
        rw [q1] at c1
        have z1 := hH.free (i * 3 + 1)
        have c2 := hH.cell (i * 3 + 2)
        rw [q2] at c2
        have z2 := hH.free (i * 3 + 2)
        have H3 := hide (((hH.setCell (i * 3) (.string ⟨#[33]⟩)).setCell (i * 3 + 1) (.string ⟨#[33]⟩)).setCell (i * 3 + 2) (.int .i64 (-7)))
        have HO := hide (((ho.setCell (p := ⟨g, i * 3, none⟩) (fun _ => rfl) (.string ⟨#[33]⟩)).setCell (p := ⟨g, i * 3 + 1, none⟩) (fun _ => rfl) (.string ⟨#[33]⟩)).setCell (p := ⟨g, i * 3 + 2, none⟩) (fun _ => rfl) (.int .i64 (-7)))
        have hs2 : (((cur'.setIfInBounds (i * 3) (.string ⟨#[33]⟩)).setIfInBounds (i * 3 + 1) (.string ⟨#[33]⟩)).setIfInBounds (i * 3 + 2) (.int .i64 (-7))).size = cap * 3 := by simpa using hs
        clear q0 q1 q2 hH ho
        go_wp2_with fail
        go_roundw
        case rel => exact ⟨i + 1, _, by go_num, by omega, unhide H3, hs2, unhide HO⟩
        case measure => simp [intOf]; omega
      · have a1 : decide ((i : Int) < (cap : Int)) = false := by simp; omega
        have a1' : ¬ (i : Int) < (cap : Int) := by omega
        go_wp2_with fail
        go_end0
        exact ⟨rfl, ho.mono (fun k _ hk => by rw [hk]; rfl)⟩
set_option maxRecDepth 100000 in
set_option maxHeartbeats 1000000 in
theorem glspoilR_any {w : World} {v : Value} {l : List Rf} (h : OwnRf w v l) :
    Calls Tryz.prog 81 #[v] w fun e w' => e = .returned (.tuple #[]) ∧ Only (fun k => v.ownBlock = some k) w w' := by
  rcases h.2 with ⟨rfl, _⟩ | ⟨g, cap, cur, rfl, _, hg, hn, hcap, hsz, _⟩
  · go_enter Tryz.func81, Tryz.ntmps81
    go_wp2_with fail
    go_loopw [2] (fun iv wr => iv = .int .i64 0 ∧ w = wr) (fun _ _ => 0)
    case atStart => exact ⟨rfl, rfl⟩
    case round =>
      obtain ⟨rfl, rfl⟩ := hrel
      go_wp2_with fail
      go_end0
      exact ⟨rfl, Only.refl _ _⟩
  · have hh : Has w g cur 158 := hg
    have hgl := hh.lt
    have hmax : cap ≤ 9223372036854775807 := Nat.le_trans hcap (by unfold maxLen; omega)
    have s0 : (0 : Int) ≤ (cap : Int) := by omega
    have s1 : (cap : Int) ≤ (cap : Int) := by omega
    have HH := hide hh
    clear hg h hh
    go_enter Tryz.func81, Tryz.ntmps81
    go_wp2_with fail
    go_loopw [2] (fun iv wr => ∃ (i : Nat) (cur' : Array Value), iv = .int .i64 i ∧ i ≤ cap ∧ Has wr g cur' 158 ∧ cur'.size = cap * 2 ∧ Only (fun k => k = g) w wr) (fun iv _ => cap - (intOf iv).toNat)
    case atStart => exact ⟨0, cur, rfl, by omega, unhide HH, hsz, Only.refl _ _⟩
    case round =>
      clear HH
      obtain ⟨i, cur', rfl, hi, hH, hs, ho⟩ := hrel
      have hgr := hH.lt
      by_cases hil : i < cap
      · have a1 : decide ((i : Int) < (cap : Int)) = true := by simp; omega
        have a2 : (i : Int) < (cap : Int) := by omega
        obtain ⟨v0, q0⟩ : ∃ v0, cur'[i * 2]? = some v0 := ⟨_, Array.getElem?_eq_getElem (by omega)⟩
        obtain ⟨v1, q1⟩ : ∃ v0, cur'[i * 2 + 1]? = some v0 := ⟨_, Array.getElem?_eq_getElem (by omega)⟩
        have c0 := hH.cell (i * 2)
        rw [q0] at c0
        have z0 := hH.free (i * 2)
        have c1 := hH.cell (i * 2 + 1)
        rw [q1] at c1
        have z1 := hH.free (i * 2 + 1)
        have H3 := hide ((hH.setCell (i * 2) (.string ⟨#[33]⟩)).setCell (i * 2 + 1) (.int .i64 (-7)))
        have HO := hide ((ho.setCell (p := ⟨g, i * 2, none⟩) (fun _ => rfl) (.string ⟨#[33]⟩)).setCell (p := ⟨g, i * 2 + 1, none⟩) (fun _ => rfl) (.int .i64 (-7)))
        have hs2 : ((cur'.setIfInBounds (i * 2) (.string ⟨#[33]⟩)).setIfInBounds (i * 2 + 1) (.int .i64 (-7))).size = cap * 2 := by simpa using hs
        clear q0 q1 hH ho
        go_wp2_with fail
        go_roundw
        case rel => exact ⟨i + 1, _, by go_num, by omega, unhide H3, hs2, unhide HO⟩
        case measure => simp [intOf]; omega
      · have a1 : decide ((i : Int) < (cap : Int)) = false := by simp; omega
        have a1' : ¬ (i : Int) < (cap : Int) := by omega
        go_wp2_with fail
        go_end0
        exact ⟨rfl, ho.mono (fun k _ hk => by rw [hk]; rfl)⟩
theorem list_eq_of {α : Type} {x y : List α} (hl : x.length = y.length) (h : ∀ j (h1 : j < x.length), x[j] = y[j]'(by omega)) : x = y := List.ext_getElem hl (fun j h1 h2 => h j h1)
set_option maxRecDepth 100000 in
set_option maxHeartbeats 4000000 in
theorem glsameI_any {w : World} {v u : Value} {x y : List Int} (hx : IntsIn w v x) (hy : IntsIn w u y) (hlen : x.length ≤ 100000) (hlen2 : y.length ≤ 100000) :
    Calls Tryz.prog 73 #[v, u] w fun e w' => ∃ b : Bool, e = .returned (.bool b) ∧ (b = true ↔ x = y) ∧ Only (fun _ => False) w w' := by
  have HX := hide hx
  have HY := hide hy
  obtain ⟨va, vc, rfl⟩ := hx.shape
  obtain ⟨ua, uc, rfl⟩ := hy.shape
  clear hx hy
  by_cases hl : x.length = y.length
  · obtain ⟨n, hn⟩ : ∃ n, y.length = n := ⟨_, rfl⟩
    have hxn : x.length = n := hl.trans hn
    have hlen3 : n ≤ 100000 := by omega
    rw [hn, hxn]
    have Hn := hide hn
    have Hxn := hide hxn
    have n0 : ((n : Int) != (n : Int)) = false := by simp
    have n0' : ((n : Int) == (n : Int)) = true := by simp
    clear hl hn hxn hlen hlen2
    go_enter Tryz.func73, Tryz.ntmps73
    go_wp2_with fail
    go_loopw [5] (fun iv wr => ∃ i : Nat, iv = .int .i64 i ∧ i ≤ n ∧ (∀ j (h1 : j < x.length) (h2 : j < y.length), j < i → x[j] = y[j]) ∧ Only (fun _ => False) w wr) (fun iv _ => n - (intOf iv).toNat)
    case atStart => exact ⟨0, rfl, by omega, fun j _ _ hj => by omega, Only.refl _ _⟩
    case round =>
      obtain ⟨i, rfl, hi, heq, ho⟩ := hrel
      by_cases hil : i < n
      · have hix : i < x.length := by have := unhide Hxn; omega
        have hiy : i < y.length := by have := unhide Hn; omega
        obtain ⟨g, _, he, hgl, c0⟩ := ((unhide HX).keep ho (fun _ _ h => h)).cellAt hix
        obtain ⟨k, _, he', hkl, d0⟩ := ((unhide HY).keep ho (fun _ _ h => h)).cellAt hiy
        rw [unhide Hxn] at he
        rw [unhide Hn] at he'
        obtain ⟨rfl, rfl⟩ := slice_eq he
        obtain ⟨rfl, rfl⟩ := slice_eq he'
        have a1 : decide ((i : Int) < (n : Int)) = true := decide_eq_true (by omega)
        have a1n : decide (i < n) = true := decide_eq_true hil
        have a2 : (i : Int) < (n : Int) := by omega
        have HO := hide ho
        have hne : x[i] ≠ y[i] → ¬ x = y := fun hh e => hh (by simp [e])
        have hnx : x[i] = y[i] → ∀ j (h1 : j < x.length) (h2 : j < y.length), j < i + 1 → x[j] = y[j] := fun hh j h1 h2 hj => by
          by_cases e : j = i
          · subst e; exact hh
          · exact heq j h1 h2 (by omega)
        have Hne := hide hne
        have Hnx := hide hnx
        clear ho heq he he' hne hnx
        generalize x[i] = f at *
        generalize y[i] = f' at *
        by_cases hf : f = f'
        · have Hnx2 := hide (unhide Hnx hf)
          subst hf
          have e0 : (f != f) = false := by simp
          have e0' : (f == f) = true := by simp
          clear Hne Hnx
          go_upto_region 6 with fail
          go_quiet (fail)
          go_wp2_with fail
          go_roundw
          case rel => exact ⟨i + 1, by go_num, by omega, unhide Hnx2, (unhide HO).trans (onlyDN _ _) (fun _ _ h => h)⟩
          case measure => simp [intOf]; omega
        · have Hno := hide (unhide Hne hf)
          clear Hne Hnx
          have hc0 : ¬ (f = f') := hf
          have e0 : (f != f') = true := by simpa using hf
          have e0' : (f == f') = false := ne_intO hf
          clear hc0 hf
          go_upto_region 6 with fail
          go_quiet (fail)
          go_wp2_with fail
          go_ret
          exact ⟨false, rfl, ⟨fun e => Bool.noConfusion e, fun e => absurd e (unhide Hno)⟩, (unhide HO).trans (onlyDN _ _) (fun _ _ h => h)⟩
      · have a1 : decide ((i : Int) < (n : Int)) = false := decide_eq_false (by omega)
        have a1n : decide (i < n) = false := decide_eq_false hil
        have hxy : x = y := by
          have h1 := unhide Hn
          have h2 := unhide Hxn
          exact List.ext_getElem (by omega) (fun j q1 q2 => heq j q1 q2 (by omega))
        have Hxy := hide hxy
        clear heq hxy
        go_wp2_with fail
        go_ret
        exact ⟨true, rfl, ⟨fun _ => unhide Hxy, fun _ => rfl⟩, ho⟩
  · have hno : ¬ x = y := fun e => hl (by rw [e])
    have n0 : ((x.length : Int) != (y.length : Int)) = true := by simp; omega
    have n0' : ((x.length : Int) == (y.length : Int)) = false := ne_intO (by omega)
    have n1 : (x.length == y.length) = false := by simpa using hl
    have Hno := hide hno
    clear hno hl
    go_enter Tryz.func73, Tryz.ntmps73
    go_wp2_with fail
    go_ret
    exact ⟨false, rfl, ⟨fun e => Bool.noConfusion e, fun e => absurd e (unhide Hno)⟩, Only.refl _ _⟩
set_option maxRecDepth 100000 in
set_option maxHeartbeats 4000000 in
theorem glsameR_any {w : World} {v u : Value} {x y : List Rf} (hx : RefsIn w v x) (hy : RefsIn w u y) (hlen : x.length ≤ 100000) (hlen2 : y.length ≤ 100000) :
    Calls Tryz.prog 80 #[v, u] w fun e w' => ∃ b : Bool, e = .returned (.bool b) ∧ (b = true ↔ x = y) ∧ Only (fun _ => False) w w' := by
  have HX := hide hx
  have HY := hide hy
  obtain ⟨va, vc, rfl⟩ := hx.shape
  obtain ⟨ua, uc, rfl⟩ := hy.shape
  clear hx hy
  by_cases hl : x.length = y.length
  · obtain ⟨n, hn⟩ : ∃ n, y.length = n := ⟨_, rfl⟩
    have hxn : x.length = n := hl.trans hn
    have hlen3 : n ≤ 100000 := by omega
    rw [hn, hxn]
    have Hn := hide hn
    have Hxn := hide hxn
    have n0 : ((n : Int) != (n : Int)) = false := by simp
    have n0' : ((n : Int) == (n : Int)) = true := by simp
    clear hl hn hxn hlen hlen2
    go_enter Tryz.func80, Tryz.ntmps80
    go_wp2_with fail
    go_loopw [5] (fun iv wr => ∃ i : Nat, iv = .int .i64 i ∧ i ≤ n ∧ (∀ j (h1 : j < x.length) (h2 : j < y.length), j < i → x[j] = y[j]) ∧ Only (fun _ => False) w wr) (fun iv _ => n - (intOf iv).toNat)
    case atStart => exact ⟨0, rfl, by omega, fun j _ _ hj => by omega, Only.refl _ _⟩
    case round =>
      obtain ⟨i, rfl, hi, heq, ho⟩ := hrel
      by_cases hil : i < n
      · have hix : i < x.length := by have := unhide Hxn; omega
        have hiy : i < y.length := by have := unhide Hn; omega
        obtain ⟨g, _, he, hgl, c0, c1⟩ := ((unhide HX).keep ho (fun _ _ h => h)).cellAt hix
        obtain ⟨k, _, he', hkl, d0, d1⟩ := ((unhide HY).keep ho (fun _ _ h => h)).cellAt hiy
        rw [unhide Hxn] at he
        rw [unhide Hn] at he'
        obtain ⟨rfl, rfl⟩ := slice_eq he
        obtain ⟨rfl, rfl⟩ := slice_eq he'
        have a1 : decide ((i : Int) < (n : Int)) = true := decide_eq_true (by omega)
        have a1n : decide (i < n) = true := decide_eq_true hil
        have a2 : (i : Int) < (n : Int) := by omega
        have HO := hide ho
        have hne : x[i] ≠ y[i] → ¬ x = y := fun hh e => hh (by simp [e])
        have hnx : x[i] = y[i] → ∀ j (h1 : j < x.length) (h2 : j < y.length), j < i + 1 → x[j] = y[j] := fun hh j h1 h2 hj => by
          by_cases e : j = i
          · subst e; exact hh
          · exact heq j h1 h2 (by omega)
        have Hne := hide hne
        have Hnx := hide hnx
        clear ho heq he he' hne hnx
        generalize x[i] = f at *
        generalize y[i] = f' at *
        by_cases hf : f = f'
        · have Hnx2 := hide (unhide Hnx hf)
          subst hf
          have e0 := str_eq f.name
          have e1 : ((f.seq : Int) != (f.seq : Int)) = false := by simp
          clear Hne Hnx
          go_upto_region 6 with fail
          go_quiet (fail)
          go_wp2_with fail
          go_roundw
          case rel => exact ⟨i + 1, by go_num, by omega, unhide Hnx2, (unhide HO).trans (onlyDN _ _) (fun _ _ h => h)⟩
          case measure => simp [intOf]; omega
        · have Hno := hide (unhide Hne hf)
          clear Hne Hnx
          by_cases hc0 : f.name = f'.name
          rotate_left
          · have e0 := str_ne hc0
            clear hc0 hf
            go_upto_region 6 with fail
            go_quiet (fail)
            go_wp2_with fail
            go_ret
            exact ⟨false, rfl, ⟨fun e => Bool.noConfusion e, fun e => absurd e (unhide Hno)⟩, (unhide HO).trans (onlyDN _ _) (fun _ _ h => h)⟩
          rw [← hc0] at d0
          have e0 := str_eq f.name
          have hc1 : ¬ ((f.seq : Int) = (f'.seq : Int)) := fun e => hf (by cases f; cases f'; simp only at hc0 e; have e2 := Int.ofNat.inj e; rw [hc0, e2])
          have e1 : ((f.seq : Int) != (f'.seq : Int)) = true := by simpa using hc1
          clear hc1 hf
          go_upto_region 6 with fail
          go_quiet (fail)
          go_wp2_with fail
          go_ret
          exact ⟨false, rfl, ⟨fun e => Bool.noConfusion e, fun e => absurd e (unhide Hno)⟩, (unhide HO).trans (onlyDN _ _) (fun _ _ h => h)⟩
      · have a1 : decide ((i : Int) < (n : Int)) = false := decide_eq_false (by omega)
        have a1n : decide (i < n) = false := decide_eq_false hil
        have hxy : x = y := by
          have h1 := unhide Hn
          have h2 := unhide Hxn
          exact List.ext_getElem (by omega) (fun j q1 q2 => heq j q1 q2 (by omega))
        have Hxy := hide hxy
        clear heq hxy
        go_wp2_with fail
        go_ret
        exact ⟨true, rfl, ⟨fun _ => unhide Hxy, fun _ => rfl⟩, ho⟩
  · have hno : ¬ x = y := fun e => hl (by rw [e])
    have n0 : ((x.length : Int) != (y.length : Int)) = true := by simp; omega
    have n0' : ((x.length : Int) == (y.length : Int)) = false := ne_intO (by omega)
    have n1 : (x.length == y.length) = false := by simpa using hl
    have Hno := hide hno
    clear hno hl
    go_enter Tryz.func80, Tryz.ntmps80
    go_wp2_with fail
    go_ret
    exact ⟨false, rfl, ⟨fun e => Bool.noConfusion e, fun e => absurd e (unhide Hno)⟩, Only.refl _ _⟩
set_option maxRecDepth 100000 in
set_option maxHeartbeats 4000000 in
theorem glsameF_any {w : World} {v u : Value} {x y : List Fl} (hx : FilesIn w v x) (hy : FilesIn w u y) (hlen : x.length ≤ 100000) (hlen2 : y.length ≤ 100000) :
    Calls Tryz.prog 86 #[v, u] w fun e w' => ∃ b : Bool, e = .returned (.bool b) ∧ (b = true ↔ x = y) ∧ Only (fun _ => False) w w' := by
  have HX := hide hx
  have HY := hide hy
  obtain ⟨va, vc, rfl⟩ := hx.shape
  obtain ⟨ua, uc, rfl⟩ := hy.shape
  clear hx hy
  by_cases hl : x.length = y.length
  · obtain ⟨n, hn⟩ : ∃ n, y.length = n := ⟨_, rfl⟩
    have hxn : x.length = n := hl.trans hn
    have hlen3 : n ≤ 100000 := by omega
    rw [hn, hxn]
    have Hn := hide hn
    have Hxn := hide hxn
    have n0 : ((n : Int) != (n : Int)) = false := by simp
    have n0' : ((n : Int) == (n : Int)) = true := by simp
    clear hl hn hxn hlen hlen2
    go_enter Tryz.func86, Tryz.ntmps86
    go_wp2_with fail
    go_loopw [5] (fun iv wr => ∃ i : Nat, iv = .int .i64 i ∧ i ≤ n ∧ (∀ j (h1 : j < x.length) (h2 : j < y.length), j < i → x[j] = y[j]) ∧ Only (fun _ => False) w wr) (fun iv _ => n - (intOf iv).toNat)
    case atStart => exact ⟨0, rfl, by omega, fun j _ _ hj => by omega, Only.refl _ _⟩
    case round =>
      obtain ⟨i, rfl, hi, heq, ho⟩ := hrel
      by_cases hil : i < n
      · have hix : i < x.length := by have := unhide Hxn; omega
        have hiy : i < y.length := by have := unhide Hn; omega
        obtain ⟨g, _, he, hgl, c0, c1, c2⟩ := ((unhide HX).keep ho (fun _ _ h => h)).cellAt hix
        obtain ⟨k, _, he', hkl, d0, d1, d2⟩ := ((unhide HY).keep ho (fun _ _ h => h)).cellAt hiy
        rw [unhide Hxn] at he
        rw [unhide Hn] at he'
        obtain ⟨rfl, rfl⟩ := slice_eq he
        obtain ⟨rfl, rfl⟩ := slice_eq he'
        have a1 : decide ((i : Int) < (n : Int)) = true := decide_eq_true (by omega)
        have a1n : decide (i < n) = true := decide_eq_true hil
        have a2 : (i : Int) < (n : Int) := by omega
        have HO := hide ho
        have hne : x[i] ≠ y[i] → ¬ x = y := fun hh e => hh (by simp [e])
        have hnx : x[i] = y[i] → ∀ j (h1 : j < x.length) (h2 : j < y.length), j < i + 1 → x[j] = y[j] := fun hh j h1 h2 hj => by
          by_cases e : j = i
          · subst e; exact hh
          · exact heq j h1 h2 (by omega)
        have Hne := hide hne
        have Hnx := hide hnx
        clear ho heq he he' hne hnx
        generalize x[i] = f at *
        generalize y[i] = f' at *
        by_cases hf : f = f'
        · have Hnx2 := hide (unhide Hnx hf)
          subst hf
          have e0 := str_eq f.path
          have e1 := str_eq f.data
          have e2 : (f.mode == f.mode) = true := by simp
          clear Hne Hnx
          go_upto_region 6 with fail
          go_quiet (fail)
          go_wp2_with fail
          go_roundw
          case rel => exact ⟨i + 1, by go_num, by omega, unhide Hnx2, (unhide HO).trans (onlyDN _ _) (fun _ _ h => h)⟩
          case measure => simp [intOf]; omega
        · have Hno := hide (unhide Hne hf)
          clear Hne Hnx
          by_cases hc0 : f.path = f'.path
          rotate_left
          · have e0 := str_ne hc0
            clear hc0 hf
            go_upto_region 6 with fail
            go_quiet (fail)
            go_wp2_with fail
            go_ret
            exact ⟨false, rfl, ⟨fun e => Bool.noConfusion e, fun e => absurd e (unhide Hno)⟩, (unhide HO).trans (onlyDN _ _) (fun _ _ h => h)⟩
          rw [← hc0] at d0
          have e0 := str_eq f.path
          by_cases hc1 : f.data = f'.data
          rotate_left
          · have e1 := str_ne hc1
            clear hc1 hf
            go_upto_region 6 with fail
            go_quiet (fail)
            go_wp2_with fail
            go_ret
            exact ⟨false, rfl, ⟨fun e => Bool.noConfusion e, fun e => absurd e (unhide Hno)⟩, (unhide HO).trans (onlyDN _ _) (fun _ _ h => h)⟩
          rw [← hc1] at d1
          have e1 := str_eq f.data
          have hc2 : ¬ (f.mode = f'.mode) := fun e => hf (by cases f; cases f'; simp only at hc0 hc1 e; rw [hc0, hc1, e])
          have e2 : (f.mode == f'.mode) = false := ne_intO hc2
          clear hc2 hf
          go_upto_region 6 with fail
          go_quiet (fail)
          go_wp2_with fail
          go_ret
          exact ⟨false, rfl, ⟨fun e => Bool.noConfusion e, fun e => absurd e (unhide Hno)⟩, (unhide HO).trans (onlyDN _ _) (fun _ _ h => h)⟩
      · have a1 : decide ((i : Int) < (n : Int)) = false := decide_eq_false (by omega)
        have a1n : decide (i < n) = false := decide_eq_false hil
        have hxy : x = y := by
          have h1 := unhide Hn
          have h2 := unhide Hxn
          exact List.ext_getElem (by omega) (fun j q1 q2 => heq j q1 q2 (by omega))
        have Hxy := hide hxy
        clear heq hxy
        go_wp2_with fail
        go_ret
        exact ⟨true, rfl, ⟨fun _ => unhide Hxy, fun _ => rfl⟩, ho⟩
  · have hno : ¬ x = y := fun e => hl (by rw [e])
    have n0 : ((x.length : Int) != (y.length : Int)) = true := by simp; omega
    have n0' : ((x.length : Int) == (y.length : Int)) = false := ne_intO (by omega)
    have n1 : (x.length == y.length) = false := by simpa using hl
    have Hno := hide hno
    clear hno hl
    go_enter Tryz.func86, Tryz.ntmps86
    go_wp2_with fail
    go_ret
    exact ⟨false, rfl, ⟨fun e => Bool.noConfusion e, fun e => absurd e (unhide Hno)⟩, Only.refl _ _⟩
end Go.Proofs.Qxb6500417aGreat
