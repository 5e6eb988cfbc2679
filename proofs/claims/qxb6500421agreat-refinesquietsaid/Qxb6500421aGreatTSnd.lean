/-
  OWN WORK. THE TREE: soundRows.
-/
import Derived.Test.Qxb6500421aGreatTRd
namespace Go.Proofs.Qxb6500421aGreat
open Go.RowKit Go.PlainAid
set_option linter.unusedSimpArgs false
set_option linter.unusedVariables false

theorem LinesIn.at_ {w : World} {a : Option Addr} {cap : Nat} {l : List Rw} (h : LinesIn w (.slice a l.length cap) l) (hn : 0 < l.length) : ∃ g, a = some ⟨g, 0, none⟩ ∧ ∀ i (h : i < l.length), w.cell? ⟨g, i * 4, none⟩ = some (.bool l[i].dir) ∧ w.cell? ⟨g, i * 4 + 1, none⟩ = some (.int .i64 (l[i].mode : Int)) ∧ w.cell? ⟨g, i * 4 + 2, none⟩ = some (.int .i64 (l[i].id : Int)) ∧ w.cell? ⟨g, i * 4 + 3, none⟩ = some (.string (sb l[i].name)) := by
  obtain ⟨a', cap', e, h2⟩ := h
  obtain ⟨rfl, rfl⟩ : a = a' ∧ cap = cap' := by simpa using e
  exact h2 hn
theorem LinesIn.shape {w : World} {v : Value} {l : List Rw} (h : LinesIn w v l) : ∃ a cap, v = .slice a l.length cap := by
  obtain ⟨a, cap, e, _⟩ := h
  exact ⟨a, cap, e⟩
theorem tp_ne {l : List En} (h : l ≠ []) : tp l ≠ [] := fun e => h (by rw [← tp_flat l, e]; rfl)
theorem TreeOk.full {J : Nat → Sl} {s : Sl} (h : TreeOk J s) (hne : s.lst ≠ []) : 0 < (encs s.rws).length := by
  have h1 := h.rel.len
  have h2 : 0 < (tp s.lst).length := List.length_pos_iff.2 (tp_ne hne)
  have h3 := encs_ge s.rws
  omega
/-- What soundRows asks of a row. -/
structure RowOk (J : Nat → Sl) (r : Rw) : Prop where
  inn : In r.id
  live : liveS (J r.id) = true
  file : r.dir = false → (J r.id).kd = 1
  dir : r.dir = true → (J r.id).kd = 2 ∧ (J r.id).lst ≠ []
theorem Inv.rowOk {J : Nat → Sl} (hI : Inv J) {i : Nat} (hi : In i) (hl : liveS (J i) = true) (hk : (J i).kd = 2) {r : Rw} (hr : r ∈ (J i).rws) : RowOk J r := by
  have ht := hI.tr i hi (liveS_ne hl) hk
  have h1 := hI.lv i hi hl r hr
  obtain ⟨tt, h2, h3⟩ := ht.rel.mem r hr
  refine ⟨h1.1, h1.2, fun e => ?_, fun e => ?_⟩
  · cases tt with
    | f x => exact h3.2.2.2.2
    | d a sub => rw [h3.1] at e; cases e
  · cases tt with
    | f x => rw [h3.1] at e; cases e
    | d a sub => exact ⟨h3.2.2.2.1, by rw [h3.2.2.2.2]; exact (ht.fine.sub h2).2.2.2.2⟩
section
variable {w : World} {t s d rt : Nat} {D B : Nat → Nat} {recs : List Rec} {J : Nat → Sl} {F : Nat → Prop}
set_option maxRecDepth 100000 in
set_option maxHeartbeats 4000000 in
theorem tsound_any (h : TS w t s d D B recs J rt F) (v : Value) (rs : List Rw) (hL : LinesIn w v rs) (hwf : ∀ r ∈ rs, WfR r) (h8 : rs.length ≤ 8) (hok : ∀ r ∈ rs, RowOk J r) (hkey : ∀ i (hi : i + 1 < rs.length), bl (keyR (rs[i]'(by omega))) (keyR rs[i + 1]) = true) :
    Calls Tryz.prog 55 #[.pointer (some ⟨t, 0, none⟩), v] w fun e w' => e = .returned (.bool true) ∧ Only (fun _ => False) w w' := by
  obtain ⟨ra, rc, rfl⟩ := hL.shape
  have HT := hide h
  have HL := hide hL
  have Hwf := hide hwf
  have Hok := hide hok
  have Hkey := hide hkey
  clear h hL hwf hok hkey
  go_enter Tryz.func55, Tryz.ntmps55
  go_wp2_with fail
  go_loopw [5] (fun iv wr => ∃ k : Nat, iv = .int .i64 k ∧ k ≤ rs.length ∧ Only (fun _ => False) w wr) (fun iv _ => rs.length - (intOf iv).toNat)
  case atStart => exact ⟨0, rfl, by omega, Only.refl _ _⟩
  case round =>
    obtain ⟨k, rfl, hk, ho⟩ := hrel
    by_cases hkl : k < rs.length
    · have hrow := unhide Hok rs[k] (List.getElem_mem hkl)
      have hwfk := unhide Hwf rs[k] (List.getElem_mem hkl)
      have hn12 := hwfk.n12
      have a1 : decide ((k : Int) < (rs.length : Int)) = true := decide_eq_true (by omega)
      have a1n : decide (k < rs.length) = true := decide_eq_true hkl
      have a2 : (k : Int) < (rs.length : Int) := by omega
      obtain ⟨g, rfl, hcell⟩ := ((unhide HL).keep ho (fun _ _ h => h)).at_ (by omega)
      obtain ⟨y0, y1, y2, y3⟩ := hcell k hkl
      have hgl : g < wr.heap.size := World.block_lt_of_cell? wr _ y0
      by_cases hk0 : k = 0
      · have g0 : decide ((0 : Int) < (k : Int)) = false := decide_eq_false (by omega)
        have g0n : decide (0 < k) = false := decide_eq_false (by omega)
        have OW := hide ho
        clear hcell ho hwfk hk0 y0 y1 y2 y3
        have hTW := (unhide HT).quiet (unhide OW)
        have hLW := (unhide HL).keep (unhide OW) (fun _ _ h => h)
        obtain ⟨gW, hgW, hcW⟩ := hLW.at_ (by omega)
        obtain rfl : g = gW := by simpa using hgW
        obtain ⟨x0, x1, x2, x3⟩ := hcW (k) hkl
        have qk := (hTW.tab.kind rs[k].id (by have := hrow.inn.2; omega)).1
        rw [kindJ_live hrow.inn hrow.live] at qk
        have cst := hTW.tab.store.1
        have i48 := hrow.inn.2
        have hgWl : g < wr.heap.size := World.block_lt_of_cell? wr _ x0
        have htWl := Has.lt hTW.tab
        cases hdir : rs[k].dir with
        | false =>
          have hkd := hrow.file hdir
          rw [hkd] at qk
          rw [hdir] at x0
          clear hTW hLW hcW hrow hdir hkd
          generalize rs[k].id = ri at *
          have ri49 : (ri : Int) < 49 := by omega
          go_upto_region 9 with fail
          go_quiet (fail)
          go_wp2_with fail
          go_roundw
          case rel => exact ⟨k + 1, by go_num, by omega, (unhide OW).drewO _⟩
          case measure => simp [intOf]; omega
        | true =>
          obtain ⟨hkd, hne⟩ := hrow.dir hdir
          rw [hkd] at qk
          rw [hdir] at x0
          obtain ⟨ob, hO, hR⟩ := hTW.ex
          have ht2 := hTW.inv.tr rs[k].id hrow.inn (liveS_ne hrow.live) hkd
          have hfull := ht2.full hne
          have hel := encs_bound ht2.wf
          have h82 := ht2.len
          have CG := hide (fun (wx : World) (hx : Only (fun _ => False) wr wx) => (get_in (hO.quiet hx) rs[k].id hrow.inn (by rw [hR.live hrow.inn]; exact hrow.live) (encs (J rs[k].id).rws).length (by rw [(hR rs[k].id hrow.inn).2.2, ht2.dat])).mono (R' := fun e w' => ∃ kx gx, e = .returned (.tuple #[.int .i64 kx, .slice (some ⟨gx, 0, none⟩) (encs (J rs[k].id).rws).length (encs (J rs[k].id).rws).length, .int .i64 0]) ∧ Only (fun _ => False) wr w') (fun e w' hh => ⟨_, _, hh.1, hx.trans hh.2.2 (fun _ _ h => h)⟩))
          clear hTW hLW hcW hrow hdir hkd hO hR ht2 hne
          generalize (encs (J rs[k].id).rws).length = eln at *
          generalize rs[k].id = ri at *
          have ri49 : (ri : Int) < 49 := by omega
          have n0 : ((eln : Int) == 0) = false := ne_intO (by omega)
          go_upto_region 9 with fail
          go_quiet (fail)
          go_upto_region 12 with fail
          go_quiet (fail)
          go_upto_region 14 with fail
          generalize hWX : World.drewN _ _ = WX at *
          have oWX : Only (fun _ => False) wr WX := by
            rw [← hWX]
            first | exact (Only.refl _ _).drewO _ | exact ((Only.refl _ _).drewO _).drewO _
          have c2 := (World.cell?_of_block (a := ⟨g, k * 4 + 2, none⟩) (oWX.block g hgWl (fun h => h))).trans x2
          have c4 := (World.cell?_of_block (a := ⟨t, 0, none⟩) (oWX.block t htWl (fun h => h))).trans cst
          have OWX := hide oWX
          clear hWX oWX x0 x1 x2 x3 qk cst
          go_region_with (go_at_call 45; refine ((unhide CG) _ ?_).mono ?_; exact (unhide OWX).drew; rintro y w5 ⟨kx, gx, rfl, o5⟩)
          all_goals
            have O5 := hide ((unhide OW).trans o5 (fun _ _ h => h))
            clear o5
            go_wp2_with fail
            go_roundw
            case rel => exact ⟨k + 1, by go_num, by omega, unhide O5⟩
            case measure => simp [intOf]; omega
      · have g0 : decide ((0 : Int) < (k : Int)) = true := decide_eq_true (by omega)
        have g0n : decide (0 < k) = true := decide_eq_true (by omega)
        obtain ⟨j, hj⟩ : ∃ j, k = j + 1 := ⟨k - 1, by omega⟩
        have hj1 : (k : Int) - 1 = (j : Int) := by omega
        have hjl : j < rs.length := by omega
        have hjl2 : (j : Int) < (rs.length : Int) := by omega
        obtain ⟨z0, z1, z2, z3⟩ := hcell j hjl
        have hkk : bl (keyR rs[j]) (keyR rs[k]) = true := by subst hj; exact unhide Hkey j hkl
        have hlt : Op.bytesLess (sb (keyR rs[j])).toList (sb (keyR rs[k])).toList = true := by
          have := ltS_eq (sb (keyR rs[j])) (sb (keyR rs[k]))
          rw [ls_sb, ls_sb, hkk] at this
          exact this
        have C1 := hide (key_any rs[j] (by have := (unhide Hwf rs[j] (List.getElem_mem _)).n12; omega) wr)
        have C2 := hide (fun (wx : World) => key_any rs[k] (by omega) wx)
        have OX := hide ho
        clear hcell hwfk hkk ho hj hk0
        generalize sb (keyR rs[j]) = ka at *
        generalize sb (keyR rs[k]) = kb at *
        generalize rs[j].dir = j0 at *
        generalize rs[j].mode = j1 at *
        generalize rs[j].id = j2 at *
        generalize sb rs[j].name = j3 at *
        go_wp2_with fail
        refine (unhide C1).mono ?_
        rintro y w2 ⟨rfl, o2⟩
        have hb2 := o2.block g hgl (fun h => h)
        have v0 := (World.cell?_of_block (a := ⟨g, k * 4, none⟩) hb2).trans y0
        have v1 := (World.cell?_of_block (a := ⟨g, k * 4 + 1, none⟩) hb2).trans y1
        have v2 := (World.cell?_of_block (a := ⟨g, k * 4 + 2, none⟩) hb2).trans y2
        have v3 := (World.cell?_of_block (a := ⟨g, k * 4 + 3, none⟩) hb2).trans y3
        have C3 := hide (unhide C2 w2)
        have hgl2 : g < w2.heap.size := by have := o2.size; omega
        clear hb2 C1 C2 z0 z1 z2 z3
        go_wp2_with fail
        refine (unhide C3).mono ?_
        rintro y w3 ⟨rfl, o3⟩
        have OW := hide (((unhide OX).trans o2 (fun _ _ h => h)).trans o3 (fun _ _ h => h))
        clear o2 o3 C3 OX v0 v1 v2 v3 y0 y1 y2 y3
        have hTW := (unhide HT).quiet (unhide OW)
        have hLW := (unhide HL).keep (unhide OW) (fun _ _ h => h)
        obtain ⟨gW, hgW, hcW⟩ := hLW.at_ (by omega)
        obtain rfl : g = gW := by simpa using hgW
        obtain ⟨x0, x1, x2, x3⟩ := hcW (k) hkl
        have qk := (hTW.tab.kind rs[k].id (by have := hrow.inn.2; omega)).1
        rw [kindJ_live hrow.inn hrow.live] at qk
        have cst := hTW.tab.store.1
        have i48 := hrow.inn.2
        have hgWl : g < w3.heap.size := World.block_lt_of_cell? w3 _ x0
        have htWl := Has.lt hTW.tab
        cases hdir : rs[k].dir with
        | false =>
          have hkd := hrow.file hdir
          rw [hkd] at qk
          rw [hdir] at x0
          clear hTW hLW hcW hrow hdir hkd
          generalize rs[k].id = ri at *
          have ri49 : (ri : Int) < 49 := by omega
          go_upto_region 9 with fail
          go_quiet (fail)
          go_wp2_with fail
          go_roundw
          case rel => exact ⟨k + 1, by go_num, by omega, (unhide OW).drewO _⟩
          case measure => simp [intOf]; omega
        | true =>
          obtain ⟨hkd, hne⟩ := hrow.dir hdir
          rw [hkd] at qk
          rw [hdir] at x0
          obtain ⟨ob, hO, hR⟩ := hTW.ex
          have ht2 := hTW.inv.tr rs[k].id hrow.inn (liveS_ne hrow.live) hkd
          have hfull := ht2.full hne
          have hel := encs_bound ht2.wf
          have h82 := ht2.len
          have CG := hide (fun (wx : World) (hx : Only (fun _ => False) w3 wx) => (get_in (hO.quiet hx) rs[k].id hrow.inn (by rw [hR.live hrow.inn]; exact hrow.live) (encs (J rs[k].id).rws).length (by rw [(hR rs[k].id hrow.inn).2.2, ht2.dat])).mono (R' := fun e w' => ∃ kx gx, e = .returned (.tuple #[.int .i64 kx, .slice (some ⟨gx, 0, none⟩) (encs (J rs[k].id).rws).length (encs (J rs[k].id).rws).length, .int .i64 0]) ∧ Only (fun _ => False) w3 w') (fun e w' hh => ⟨_, _, hh.1, hx.trans hh.2.2 (fun _ _ h => h)⟩))
          clear hTW hLW hcW hrow hdir hkd hO hR ht2 hne
          generalize (encs (J rs[k].id).rws).length = eln at *
          generalize rs[k].id = ri at *
          have ri49 : (ri : Int) < 49 := by omega
          have n0 : ((eln : Int) == 0) = false := ne_intO (by omega)
          go_upto_region 9 with fail
          go_quiet (fail)
          go_upto_region 12 with fail
          go_quiet (fail)
          go_upto_region 14 with fail
          generalize hWX : World.drewN _ _ = WX at *
          have oWX : Only (fun _ => False) w3 WX := by
            rw [← hWX]
            first | exact (Only.refl _ _).drewO _ | exact ((Only.refl _ _).drewO _).drewO _
          have c2 := (World.cell?_of_block (a := ⟨g, k * 4 + 2, none⟩) (oWX.block g hgWl (fun h => h))).trans x2
          have c4 := (World.cell?_of_block (a := ⟨t, 0, none⟩) (oWX.block t htWl (fun h => h))).trans cst
          have OWX := hide oWX
          clear hWX oWX x0 x1 x2 x3 qk cst
          go_region_with (go_at_call 45; refine ((unhide CG) _ ?_).mono ?_; exact (unhide OWX).drew; rintro y w5 ⟨kx, gx, rfl, o5⟩)
          all_goals
            have O5 := hide ((unhide OW).trans o5 (fun _ _ h => h))
            clear o5
            go_wp2_with fail
            go_roundw
            case rel => exact ⟨k + 1, by go_num, by omega, unhide O5⟩
            case measure => simp [intOf]; omega

    · have a1 : decide ((k : Int) < (rs.length : Int)) = false := decide_eq_false (by omega)
      have a1n : decide (k < rs.length) = false := decide_eq_false hkl
      go_wp2_with fail
      go_ret
      exact ⟨rfl, ho⟩
end
end Go.Proofs.Qxb6500421aGreat
