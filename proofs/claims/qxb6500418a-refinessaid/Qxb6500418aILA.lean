/-
  OWN WORK. THE LAW OF THE INDEX: SameFile, SameFiles, SameChanges, the scribble.
-/
import Derived.Test.Qxb6500418aIStatOf
namespace Go.Proofs.Qxb6500418a
open Go.RowKit Go.PlainAid
set_option linter.unusedSimpArgs false
set_option linter.unusedVariables false

set_option maxRecDepth 100000 in
theorem sameFile_eq (f : Fl) (w : World) :
    Calls Try.prog 26 #[.agg #[.string f.path, .string f.data, .int .i64 f.mode], .agg #[.string f.path, .string f.data, .int .i64 f.mode]] w fun e w' => e = .returned (.bool true) ∧ Only (fun _ => False) w w' := by
  have r0 := Has.new w #[.string f.path, .string f.data, .int .i64 f.mode] 40
  have a1 := str_eq f.path
  have a2 := str_eq f.data
  have a3 : (f.mode == f.mode) = true := by simp
  have o := ((Only.refl (fun _ => False) w).alloc (.cells #[.string f.path, .string f.data, .int .i64 f.mode] 40)).alloc (.cells #[.string f.path, .string f.data, .int .i64 f.mode] 40)
  have HO := hide o
  clear o
  go_enter Try.func26, Try.ntmps26
  go_wp2_with fail
  go_ret
  exact ⟨rfl, unhide HO⟩
set_option maxRecDepth 100000 in
set_option maxHeartbeats 1000000 in
theorem sameFiles_eq {w : World} (v u : Value) (l : List Fl) (hv : FilesIn w v l) (hu : FilesIn w u l) (hlen : l.length ≤ 1000) :
    Calls Try.prog 35 #[v, u] w fun e w' => e = .returned (.bool true) ∧ Only (fun _ => False) w w' := by
  obtain ⟨a, capa, rfl, hca⟩ := hv
  obtain ⟨b, capb, rfl, hcb⟩ := hu
  have HA := hide hca
  have HB := hide hcb
  have a0 : ((l.length : Int) != (l.length : Int)) = false := by simp
  clear hca hcb
  go_enter Try.func35, Try.ntmps35
  go_wp2_with fail
  go_loopw [5] (fun iv wr => ∃ i : Nat, i ≤ l.length ∧ iv = .int .i64 i ∧ Only (fun _ => False) w wr) (fun iv _ => l.length - (intOf iv).toNat)
  case atStart => exact ⟨0, by omega, rfl, Only.refl _ _⟩
  case round =>
    obtain ⟨i, hi, rfl, ho⟩ := hrel
    by_cases hil : i < l.length
    · obtain ⟨g, rfl, hg, c0, c1, c2⟩ := files_at (unhide HA) ho i hil
      obtain ⟨g', rfl, hg', d0, d1, d2⟩ := files_at (unhide HB) ho i hil
      have a1 : decide ((i : Int) < (l.length : Int)) = true := by simp; omega
      have a2 : (i : Int) < (l.length : Int) := by omega
      have C := hide (fun W => sameFile_eq l[i] W)
      have HO := hide ho
      have hoq : Only (fun _ => False) wr wr := Only.refl _ _
      clear ho
      generalize l[i] = f at *
      go_upto_region 6 with fail
      go_region_with (go_at_call 26; refine ((unhide C) _).mono ?_; rintro e w2 ⟨rfl, ho2⟩; have ho3 := (hoq.drew).trans ho2 (fun _ _ h => h))
      all_goals
        go_wp2_with fail
        go_roundw
        case rel => exact ⟨i + 1, by omega, by go_num, (unhide HO).trans ho3 (fun _ _ h => h)⟩
        case measure => simp [intOf]; omega
    · have a1 : decide ((i : Int) < (l.length : Int)) = false := by simp; omega
      have a1' : ¬ (i : Int) < (l.length : Int) := by omega
      go_wp2_with fail
      go_ret
      exact ⟨rfl, ho⟩
theorem chgs_at {w W : World} {a : Option Addr} {l : List Chg} (hc : 0 < l.length → ∃ g, a = some ⟨g, 0, none⟩ ∧ ∀ i (h : i < l.length), w.cell? ⟨g, i * 3, none⟩ = some (.string l[i].path) ∧ w.cell? ⟨g, i * 3 + 1, none⟩ = some (.int .i64 (l[i].staged : Int)) ∧ w.cell? ⟨g, i * 3 + 2, none⟩ = some (.int .i64 (l[i].work : Int))) (ho : Only (fun _ => False) w W) (j : Nat) (hj : j < l.length) :
    ∃ g, a = some ⟨g, 0, none⟩ ∧ g < W.heap.size ∧ W.cell? ⟨g, j * 3, none⟩ = some (.string l[j].path) ∧ W.cell? ⟨g, j * 3 + 1, none⟩ = some (.int .i64 (l[j].staged : Int)) ∧ W.cell? ⟨g, j * 3 + 2, none⟩ = some (.int .i64 (l[j].work : Int)) := by
  obtain ⟨g, rfl, h⟩ := hc (by omega)
  obtain ⟨c0, c1, c2⟩ := h j hj
  have hgl : g < w.heap.size := World.block_lt_of_cell? w _ c0
  have hbk := ho.block g hgl (fun h => h)
  rw [← World.cell?_of_block hbk] at c0 c1 c2
  exact ⟨g, rfl, Nat.lt_of_lt_of_le hgl ho.size, c0, c1, c2⟩
set_option maxRecDepth 100000 in
set_option maxHeartbeats 1000000 in
theorem sameChanges_eq {w : World} (v u : Value) (l : List Chg) (hv : ChgsIn w v l) (hu : ChgsIn w u l) (hlen : l.length ≤ 1000) :
    Calls Try.prog 33 #[v, u] w fun e w' => e = .returned (.bool true) ∧ Only (fun _ => False) w w' := by
  obtain ⟨a, capa, rfl, hca⟩ := hv
  obtain ⟨b, capb, rfl, hcb⟩ := hu
  have HA := hide hca
  have HB := hide hcb
  have a0 : ((l.length : Int) != (l.length : Int)) = false := by simp
  clear hca hcb
  go_enter Try.func33, Try.ntmps33
  go_wp2_with fail
  go_loopw [5] (fun iv wr => ∃ i : Nat, i ≤ l.length ∧ iv = .int .i64 i ∧ Only (fun _ => False) w wr) (fun iv _ => l.length - (intOf iv).toNat)
  case atStart => exact ⟨0, by omega, rfl, Only.refl _ _⟩
  case round =>
    obtain ⟨i, hi, rfl, ho⟩ := hrel
    by_cases hil : i < l.length
    · obtain ⟨g, rfl, hg, c0, c1, c2⟩ := chgs_at (unhide HA) ho i hil
      obtain ⟨g', rfl, hg', d0, d1, d2⟩ := chgs_at (unhide HB) ho i hil
      have a1 : decide ((i : Int) < (l.length : Int)) = true := by simp; omega
      have a2 : (i : Int) < (l.length : Int) := by omega
      have e0 : (l[i].path.toList == l[i].path.toList) = true := by simp
      have e1 : ((l[i].staged : Int) != (l[i].staged : Int)) = false := by simp
      have e2 : ((l[i].work : Int) != (l[i].work : Int)) = false := by simp
      have HO := hide ho
      clear ho
      generalize l[i] = f at *
      go_wp2_with fail
      go_quiet (fail)
      have hoq := (Only.refl (fun _ => False) wr).drewO nq
      generalize wr.drewN nq = W1 at *
      go_wp2_with fail
      go_roundw
      case rel => exact ⟨i + 1, by omega, by go_num, (unhide HO).trans hoq (fun _ _ h => h)⟩
      case measure => simp [intOf]; omega
    · have a1 : decide ((i : Int) < (l.length : Int)) = false := by simp; omega
      have a1' : ¬ (i : Int) < (l.length : Int) := by omega
      go_wp2_with fail
      go_ret
      exact ⟨rfl, ho⟩
set_option maxRecDepth 100000 in
set_option maxHeartbeats 1000000 in
theorem spoilFiles_any {w : World} {v : Value} {l : List Fl} (h : OwnF w v l) :
    Calls Try.prog 29 #[v] w fun e w' => e = .returned (.tuple #[]) ∧ Only (fun k => v.ownBlock = some k) w w' := by
  rcases h.2 with ⟨rfl, _⟩ | ⟨g, cap, cur, rfl, _, hg, hn, hcap, hsz, _⟩
  · go_enter Try.func29, Try.ntmps29
    go_wp2_with fail
    go_loopw [2] (fun iv wr => iv = .int .i64 0 ∧ w = wr) (fun _ _ => 0)
    case atStart => exact ⟨rfl, rfl⟩
    case round =>
      obtain ⟨rfl, rfl⟩ := hrel
      go_wp2_with fail
      go_end0
      exact ⟨rfl, Only.refl _ _⟩
  · have hh : Has w g cur 40 := hg
    have hgl := hh.lt
    have hmax : cap ≤ 9223372036854775807 := Nat.le_trans hcap (by unfold maxLen; omega)
    have s0 : (0 : Int) ≤ (cap : Int) := by omega
    have s1 : (cap : Int) ≤ (cap : Int) := by omega
    have HH := hide hh
    clear hg h hh
    go_enter Try.func29, Try.ntmps29
    go_wp2_with fail
    go_loopw [2] (fun iv wr => ∃ (i : Nat) (cur' : Array Value), iv = .int .i64 i ∧ i ≤ cap ∧ Has wr g cur' 40 ∧ cur'.size = cap * 3 ∧ Only (fun k => k = g) w wr) (fun iv _ => cap - (intOf iv).toNat)
    case atStart => exact ⟨0, cur, rfl, by omega, unhide HH, hsz, Only.refl _ _⟩
    case round =>
      clear HH
      obtain ⟨i, cur', rfl, hi, hH, hs, ho⟩ := hrel
      have hgr := hH.lt
      by_cases hil : i < cap
      · have a1 : decide ((i : Int) < (cap : Int)) = true := by simp; omega
        have a2 : (i : Int) < (cap : Int) := by omega
        obtain ⟨v0, q0⟩ : ∃ v0, cur'[i * 3]? = some v0 := ⟨_, Array.getElem?_eq_getElem (by omega)⟩
        obtain ⟨v1, q1⟩ : ∃ v0, cur'[i * 3 + 1]? = some v0 := ⟨_, Array.getElem?_eq_getElem (by omega)⟩
        obtain ⟨v2, q2⟩ : ∃ v0, cur'[i * 3 + 2]? = some v0 := ⟨_, Array.getElem?_eq_getElem (by omega)⟩
        have c0 := hH.cell (i * 3)
        have c1 := hH.cell (i * 3 + 1)
        have c2 := hH.cell (i * 3 + 2)
        rw [q0] at c0
        rw [q1] at c1
        rw [q2] at c2
        have z0 := hH.free (i * 3)
        have z1 := hH.free (i * 3 + 1)
        have z2 := hH.free (i * 3 + 2)
        have H3 := hide (((hH.setCell (i * 3) (.string ⟨#[33]⟩)).setCell (i * 3 + 1) (.string ⟨#[33]⟩)).setCell (i * 3 + 2) (.int .i64 (-1)))
        have HO := hide (((ho.setCell (p := ⟨g, i * 3, none⟩) (fun _ => rfl) (.string ⟨#[33]⟩)).setCell (p := ⟨g, i * 3 + 1, none⟩) (fun _ => rfl) (.string ⟨#[33]⟩)).setCell (p := ⟨g, i * 3 + 2, none⟩) (fun _ => rfl) (.int .i64 (-1)))
        have hs2 : (((cur'.setIfInBounds (i * 3) (.string ⟨#[33]⟩)).setIfInBounds (i * 3 + 1) (.string ⟨#[33]⟩)).setIfInBounds (i * 3 + 2) (.int .i64 (-1))).size = cap * 3 := by simpa using hs
        clear q0 q1 q2 hH ho
        go_wp2_with fail
        go_roundw
        case rel => exact ⟨i + 1, _, by go_num, by omega, unhide H3, hs2, unhide HO⟩
        case measure => simp [intOf]; omega
      · have a1 : decide ((i : Int) < (cap : Int)) = false := by simp; omega
        have a1' : ¬ (i : Int) < (cap : Int) := by omega
        go_wp2_with fail
        go_end0
        exact ⟨rfl, ho.mono (fun k _ hk => by rw [hk]; rfl)⟩
set_option maxRecDepth 100000 in
set_option maxHeartbeats 1000000 in
theorem spoilChanges_any {w : World} {v : Value} {l : List Chg} (h : OwnC w v l) :
    Calls Try.prog 34 #[v] w fun e w' => e = .returned (.tuple #[]) ∧ Only (fun k => v.ownBlock = some k) w w' := by
  rcases h.2 with ⟨rfl, _⟩ | ⟨g, cap, cur, rfl, _, hg, hn, hcap, hsz, _⟩
  · go_enter Try.func34, Try.ntmps34
    go_wp2_with fail
    go_loopw [2] (fun iv wr => iv = .int .i64 0 ∧ w = wr) (fun _ _ => 0)
    case atStart => exact ⟨rfl, rfl⟩
    case round =>
      obtain ⟨rfl, rfl⟩ := hrel
      go_wp2_with fail
      go_end0
      exact ⟨rfl, Only.refl _ _⟩
  · have hh : Has w g cur 89 := hg
    have hgl := hh.lt
    have hmax : cap ≤ 9223372036854775807 := Nat.le_trans hcap (by unfold maxLen; omega)
    have s0 : (0 : Int) ≤ (cap : Int) := by omega
    have s1 : (cap : Int) ≤ (cap : Int) := by omega
    have HH := hide hh
    clear hg h hh
    go_enter Try.func34, Try.ntmps34
    go_wp2_with fail
    go_loopw [2] (fun iv wr => ∃ (i : Nat) (cur' : Array Value), iv = .int .i64 i ∧ i ≤ cap ∧ Has wr g cur' 89 ∧ cur'.size = cap * 3 ∧ Only (fun k => k = g) w wr) (fun iv _ => cap - (intOf iv).toNat)
    case atStart => exact ⟨0, cur, rfl, by omega, unhide HH, hsz, Only.refl _ _⟩
    case round =>
      clear HH
      obtain ⟨i, cur', rfl, hi, hH, hs, ho⟩ := hrel
      have hgr := hH.lt
      by_cases hil : i < cap
      · have a1 : decide ((i : Int) < (cap : Int)) = true := by simp; omega
        have a2 : (i : Int) < (cap : Int) := by omega
        obtain ⟨v0, q0⟩ : ∃ v0, cur'[i * 3]? = some v0 := ⟨_, Array.getElem?_eq_getElem (by omega)⟩
        obtain ⟨v1, q1⟩ : ∃ v0, cur'[i * 3 + 1]? = some v0 := ⟨_, Array.getElem?_eq_getElem (by omega)⟩
        obtain ⟨v2, q2⟩ : ∃ v0, cur'[i * 3 + 2]? = some v0 := ⟨_, Array.getElem?_eq_getElem (by omega)⟩
        have c0 := hH.cell (i * 3)
        have c1 := hH.cell (i * 3 + 1)
        have c2 := hH.cell (i * 3 + 2)
        rw [q0] at c0
        rw [q1] at c1
        rw [q2] at c2
        have z0 := hH.free (i * 3)
        have z1 := hH.free (i * 3 + 1)
        have z2 := hH.free (i * 3 + 2)
        have H3 := hide (((hH.setCell (i * 3) (.string ⟨#[33]⟩)).setCell (i * 3 + 1) (.int .i64 (-1))).setCell (i * 3 + 2) (.int .i64 (-1)))
        have HO := hide (((ho.setCell (p := ⟨g, i * 3, none⟩) (fun _ => rfl) (.string ⟨#[33]⟩)).setCell (p := ⟨g, i * 3 + 1, none⟩) (fun _ => rfl) (.int .i64 (-1))).setCell (p := ⟨g, i * 3 + 2, none⟩) (fun _ => rfl) (.int .i64 (-1)))
        have hs2 : (((cur'.setIfInBounds (i * 3) (.string ⟨#[33]⟩)).setIfInBounds (i * 3 + 1) (.int .i64 (-1))).setIfInBounds (i * 3 + 2) (.int .i64 (-1))).size = cap * 3 := by simpa using hs
        clear q0 q1 q2 hH ho
        go_wp2_with fail
        go_roundw
        case rel => exact ⟨i + 1, _, by go_num, by omega, unhide H3, hs2, unhide HO⟩
        case measure => simp [intOf]; omega
      · have a1 : decide ((i : Int) < (cap : Int)) = false := by simp; omega
        have a1' : ¬ (i : Int) < (cap : Int) := by omega
        go_wp2_with fail
        go_end0
        exact ⟨rfl, ho.mono (fun k _ hk => by rw [hk]; rfl)⟩
end Go.Proofs.Qxb6500418a
