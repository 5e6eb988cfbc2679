/-
  OWN WORK. THE LAW OF DIFF: comparisons of equal things.
-/
import Derived.Test.Qxb6500416aDL2
import Derived.Deep.RegionWith
namespace Go.Proofs.Qxb6500416a
open Go.RowKit Go.PlainAid
set_option linter.unusedSimpArgs false
set_option linter.unusedVariables false

set_option maxRecDepth 100000 in
set_option maxHeartbeats 1000000 in
theorem lawLines_eq {w : World} (v u : Value) (A : List Str) (hA : LnIn w v A) (hB : LnIn w u A) (hl : A.length ≤ 1000000) :
    Calls Try.prog 43 #[v, u] w fun e w' => e = .returned (.bool true) ∧ Only (fun _ => False) w w' := by
  obtain ⟨a, capa, rfl, hca⟩ := hA.parts
  obtain ⟨b, capb, rfl, hcb⟩ := hB.parts
  have HA := hide hca
  have HB := hide hcb
  clear hca hcb hA hB
  have a0 : ((A.length : Int) != (A.length : Int)) = false := by simp
  go_enter Try.func43, Try.ntmps43
  go_wp2_with fail
  go_loopw [5] (fun iv wr => ∃ i : Nat, i ≤ A.length ∧ iv = .int .i64 i ∧ Only (fun _ => False) w wr) (fun iv _ => A.length - (intOf iv).toNat)
  case atStart => exact ⟨0, by omega, rfl, Only.refl _ _⟩
  case round =>
    obtain ⟨i, hi, rfl, ho⟩ := hrel
    by_cases hil : i < A.length
    · obtain ⟨g, rfl, hg1, c0⟩ := LnIn.get (unhide HA) ho i hil
      obtain ⟨g', rfl, hg1', d0⟩ := LnIn.get (unhide HB) ho i hil
      have a1 : decide ((i : Int) < (A.length : Int)) = true := decide_eq_true (by omega)
      have a2 : (i : Int) < (A.length : Int) := by omega
      have e1 : ((sb A[i]).toList == (sb A[i]).toList) = true := by simp
      have HO := hide ho
      clear ho
      generalize sb A[i] = x at *
      go_wp2_with fail
      go_quiet (fail)
      have ho4 := (unhide HO).drewO nq
      go_wp2_with fail
      go_roundw
      case rel => exact ⟨i + 1, by omega, by go_num, ho4⟩
      case measure => simp [intOf]; omega
    · have a1 : decide ((i : Int) < (A.length : Int)) = false := decide_eq_false (by omega)
      go_wp2_with fail
      go_ret
      exact ⟨rfl, ho⟩
set_option maxRecDepth 100000 in
set_option maxHeartbeats 4000000 in
theorem samePatch_eq {w : World} {v u : Value} {hs hs' : List HV} {p : List Hk} {G G' : Nat → Prop} (h : PatO w v hs p G) (h' : PatO w u hs' p G') (hpl : p.length ≤ 100000) (hdl : ∀ k ∈ p, k.del.length ≤ 100000 ∧ k.ins.length ≤ 100000) :
    Calls Try.prog 21 #[v, u] w fun e w' => e = .returned (.bool true) ∧ Only (fun _ => False) w w' := by
  obtain ⟨va, vc, rfl⟩ := h.shape
  obtain ⟨ua, uc, rfl⟩ := h'.shape
  have HP := hide h
  have HQ := hide h'
  have Hdl := hide hdl
  have a0 : ((p.length : Int) != (p.length : Int)) = false := by simp
  clear h h' hdl
  go_enter Try.func21, Try.ntmps21
  go_wp2_with fail
  go_loopw [5] (fun iv wr => ∃ i : Nat, i ≤ p.length ∧ iv = .int .i64 i ∧ Only (fun _ => False) w wr) (fun iv _ => p.length - (intOf iv).toNat)
  case atStart => exact ⟨0, by omega, rfl, Only.refl _ _⟩
  case round =>
    obtain ⟨i, hi, rfl, ho⟩ := hrel
    by_cases hil : i < p.length
    · have b1 : decide ((i : Int) < (p.length : Int)) = true := decide_eq_true (by omega)
      have b2 : (i : Int) < (p.length : Int) := by omega
      obtain ⟨g, cap, hi', e, hgl, c0, c1, c2, hok⟩ := ((unhide HP).keep ho (fun _ _ h => h)).at i hil
      obtain ⟨rfl, rfl⟩ : va = some ⟨g, 0, none⟩ ∧ vc = cap := by simpa using e
      obtain ⟨g', cap', hi'', e', hgl', d0, d1, d2, hok'⟩ := ((unhide HQ).keep ho (fun _ _ h => h)).at i hil
      obtain ⟨rfl, rfl⟩ : ua = some ⟨g', 0, none⟩ ∧ uc = cap' := by simpa using e'
      have hdd := unhide Hdl p[i] (List.getElem_mem hil)
      have C1 := hide (fun W (hW : Only (fun _ => False) wr W) => lawLines_eq _ _ _ (hok.del.in_.keep hW (fun _ _ h => h)) (hok'.del.in_.keep hW (fun _ _ h => h)) (by omega))
      have C2 := hide (fun W (hW : Only (fun _ => False) wr W) => lawLines_eq _ _ _ (hok.ins.in_.keep hW (fun _ _ h => h)) (hok'.ins.in_.keep hW (fun _ _ h => h)) (by omega))
      have HC := hide (fun W (hW : Only (fun _ => False) wr W) => And.intro ((World.cell?_of_block (a := ⟨g, i * 3 + 1, none⟩) (hW.block g hgl (fun h => h))).trans c1) (And.intro ((World.cell?_of_block (a := ⟨g, i * 3 + 2, none⟩) (hW.block g hgl (fun h => h))).trans c2) (And.intro ((World.cell?_of_block (a := ⟨g', i * 3 + 1, none⟩) (hW.block g' hgl' (fun h => h))).trans d1) (And.intro ((World.cell?_of_block (a := ⟨g', i * 3 + 2, none⟩) (hW.block g' hgl' (fun h => h))).trans d2) (And.intro (Nat.lt_of_lt_of_le hgl hW.size) (Nat.lt_of_lt_of_le hgl' hW.size))))))
      have e1 : (p[i].at_ != p[i].at_) = false := by simp
      have HO := hide ho
      generalize hs[i].dv = dv at *
      generalize hs[i].iv = iv at *
      generalize hs'[i].dv = dv' at *
      generalize hs'[i].iv = iv' at *
      generalize p[i].at_ = at_ at *
      generalize p[i].del = D at *
      generalize p[i].ins = N at *
      clear hok hok' e e' ho c1 c2 d1 d2
      go_wp2_with fail
      go_quiet (fail)
      have oq := (Only.refl (fun _ => False) wr).drewO nq
      generalize wr.drewN nq = W1 at *
      clear c0 d0
      go_upto_region 8 with fail
      go_cut [39] (fun v W => v = .bool false ∧ Only (fun _ => False) wr W)
      case first =>
        obtain ⟨x1, x2, x3, x4, x5, x6⟩ := unhide HC W1 oq
        have hC := hide (unhide C1 W1.drew oq.drew)
        clear HC C1 C2 HO HP HQ Hdl
        go_region_with (go_at_call 43; refine (unhide hC).mono ?_; rintro e w2 ⟨rfl, hS⟩)
        all_goals
          have hS' := hide (oq.drew.trans hS (fun _ _ h => h))
          clear hS
          go_wp2_with fail
          go_meet
          exact ⟨rfl, unhide hS'⟩
      case rest =>
      obtain ⟨rfl, o2⟩ := hcut
      generalize wc = W2 at *
      clear oq
      go_upto_region 10 with fail
      go_cut [51] (fun v W => v = .bool false ∧ Only (fun _ => False) wr W)
      case first =>
        obtain ⟨x1, x2, x3, x4, x5, x6⟩ := unhide HC W2 o2
        have hC := hide (unhide C2 W2.drew o2.drew)
        clear HC C1 C2 HO HP HQ Hdl
        go_region_with (go_at_call 43; refine (unhide hC).mono ?_; rintro e w2 ⟨rfl, hS⟩)
        all_goals
          have hS' := hide (o2.drew.trans hS (fun _ _ h => h))
          clear hS
          go_wp2_with fail
          go_meet
          exact ⟨rfl, unhide hS'⟩
      case rest =>
      obtain ⟨rfl, o3⟩ := hcut
      generalize wc = W3 at *
      have ho4 := (unhide HO).trans o3 (fun _ _ h => h)
      clear o2 o3
      go_wp2_with fail
      go_roundw
      case rel => exact ⟨i + 1, by omega, by go_num, ho4⟩
      case measure => simp [intOf]; omega
    · have b1 : decide ((i : Int) < (p.length : Int)) = false := decide_eq_false (by omega)
      go_wp2_with fail
      go_ret
      exact ⟨rfl, ho⟩
theorem chgs_at {w W : World} {a : Option Addr} {l : List Chg} (hc : 0 < l.length → ∃ g, a = some ⟨g, 0, none⟩ ∧ ∀ i (h : i < l.length), w.cell? ⟨g, i * 3, none⟩ = some (.string l[i].path) ∧ w.cell? ⟨g, i * 3 + 1, none⟩ = some (.int .i64 (l[i].staged : Int)) ∧ w.cell? ⟨g, i * 3 + 2, none⟩ = some (.int .i64 (l[i].work : Int))) (ho : Only (fun _ => False) w W) (j : Nat) (hj : j < l.length) :
    ∃ g, a = some ⟨g, 0, none⟩ ∧ g < W.heap.size ∧ W.cell? ⟨g, j * 3, none⟩ = some (.string l[j].path) ∧ W.cell? ⟨g, j * 3 + 1, none⟩ = some (.int .i64 (l[j].staged : Int)) ∧ W.cell? ⟨g, j * 3 + 2, none⟩ = some (.int .i64 (l[j].work : Int)) := by
  obtain ⟨g, rfl, h⟩ := hc (by omega)
  obtain ⟨c0, c1, c2⟩ := h j hj
  have hgl : g < w.heap.size := World.block_lt_of_cell? w _ c0
  have hbk := ho.block g hgl (fun h => h)
  rw [← World.cell?_of_block hbk] at c0 c1 c2
  exact ⟨g, rfl, Nat.lt_of_lt_of_le hgl ho.size, c0, c1, c2⟩
set_option maxRecDepth 100000 in
set_option maxHeartbeats 1000000 in
theorem lawChanges_eq {w : World} (v u : Value) (l : List Chg) (hv : ChgsIn w v l) (hu : ChgsIn w u l) (hlen : l.length ≤ 1000) :
    Calls Try.prog 33 #[v, u] w fun e w' => e = .returned (.bool true) ∧ Only (fun _ => False) w w' := by
  obtain ⟨a, capa, rfl, hca⟩ := hv
  obtain ⟨b, capb, rfl, hcb⟩ := hu
  have HA := hide hca
  have HB := hide hcb
  have a0 : ((l.length : Int) != (l.length : Int)) = false := by simp
  clear hca hcb
  go_enter Try.func33, Try.ntmps33
  go_wp2_with fail
  go_loopw [5] (fun iv wr => ∃ i : Nat, i ≤ l.length ∧ iv = .int .i64 i ∧ Only (fun _ => False) w wr) (fun iv _ => l.length - (intOf iv).toNat)
  case atStart => exact ⟨0, by omega, rfl, Only.refl _ _⟩
  case round =>
    obtain ⟨i, hi, rfl, ho⟩ := hrel
    by_cases hil : i < l.length
    · obtain ⟨g, rfl, hg, c0, c1, c2⟩ := chgs_at (unhide HA) ho i hil
      obtain ⟨g', rfl, hg', d0, d1, d2⟩ := chgs_at (unhide HB) ho i hil
      have a1 : decide ((i : Int) < (l.length : Int)) = true := by simp; omega
      have a2 : (i : Int) < (l.length : Int) := by omega
      have e0 : (l[i].path.toList == l[i].path.toList) = true := by simp
      have e1 : ((l[i].staged : Int) != (l[i].staged : Int)) = false := by simp
      have e2 : ((l[i].work : Int) != (l[i].work : Int)) = false := by simp
      have HO := hide ho
      clear ho
      generalize l[i] = f at *
      go_wp2_with fail
      go_quiet (fail)
      have hoq := (Only.refl (fun _ => False) wr).drewO nq
      generalize wr.drewN nq = W1 at *
      go_wp2_with fail
      go_roundw
      case rel => exact ⟨i + 1, by omega, by go_num, (unhide HO).trans hoq (fun _ _ h => h)⟩
      case measure => simp [intOf]; omega
    · have a1 : decide ((i : Int) < (l.length : Int)) = false := by simp; omega
      have a1' : ¬ (i : Int) < (l.length : Int) := by omega
      go_wp2_with fail
      go_ret
      exact ⟨rfl, ho⟩
set_option maxRecDepth 100000 in
set_option maxHeartbeats 1000000 in
theorem apiFiles_eq {w : World} (v u : Value) (l : List Fl) (hv : FilesIn w v l) (hu : FilesIn w u l) (hlen : l.length ≤ 1000) :
    Calls Try.prog 34 #[v, u] w fun e w' => e = .returned (.bool true) ∧ Only (fun _ => False) w w' := by
  obtain ⟨a, capa, rfl, hca⟩ := hv
  obtain ⟨b, capb, rfl, hcb⟩ := hu
  have HA := hide hca
  have HB := hide hcb
  have a0 : ((l.length : Int) != (l.length : Int)) = false := by simp
  clear hca hcb
  go_enter Try.func34, Try.ntmps34
  go_wp2_with fail
  go_loopw [5] (fun iv wr => ∃ i : Nat, i ≤ l.length ∧ iv = .int .i64 i ∧ Only (fun _ => False) w wr) (fun iv _ => l.length - (intOf iv).toNat)
  case atStart => exact ⟨0, by omega, rfl, Only.refl _ _⟩
  case round =>
    obtain ⟨i, hi, rfl, ho⟩ := hrel
    by_cases hil : i < l.length
    · obtain ⟨g, rfl, hg, c0, c1, c2⟩ := files_at (unhide HA) ho i hil
      obtain ⟨g', rfl, hg', d0, d1, d2⟩ := files_at (unhide HB) ho i hil
      have a1 : decide ((i : Int) < (l.length : Int)) = true := by simp; omega
      have a2 : (i : Int) < (l.length : Int) := by omega
      have e0 : (l[i].path.toList == l[i].path.toList) = true := by simp
      have e1 : (l[i].data.toList == l[i].data.toList) = true := by simp
      have e2 : (l[i].mode == l[i].mode) = true := by simp
      have HO := hide ho
      clear ho
      generalize l[i] = f at *
      go_wp2_with fail
      go_quiet (fail)
      have hoq := (Only.refl (fun _ => False) wr).drewO nq
      generalize wr.drewN nq = W1 at *
      go_wp2_with fail
      go_roundw
      case rel => exact ⟨i + 1, by omega, by go_num, (unhide HO).trans hoq (fun _ _ h => h)⟩
      case measure => simp [intOf]; omega
    · have a1 : decide ((i : Int) < (l.length : Int)) = false := by simp; omega
      have a1' : ¬ (i : Int) < (l.length : Int) := by omega
      go_wp2_with fail
      go_ret
      exact ⟨rfl, ho⟩
end Go.Proofs.Qxb6500416a
