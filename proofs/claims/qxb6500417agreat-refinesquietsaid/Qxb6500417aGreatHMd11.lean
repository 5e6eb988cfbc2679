/-
  OWN WORK. THE GRAPH's MODEL: New (written by tools/gen_hmd10.py).
-/
import Derived.Test.Qxb6500417aGreatHMd9
namespace Go.Proofs.Qxb6500417aGreat
open Go.RowKit Go.PlainAid
set_option linter.unusedSimpArgs false
set_option linter.unusedVariables false

theorem ASm.fresh : ASm GA.fresh := ⟨by decide, List.Pairwise.nil, ⟨by decide, fun l hl => by simp [GA.fresh] at hl; rw [hl]; decide, fun l hl => by simp [GA.fresh] at hl; rw [hl]; simp⟩, fun x hx => by simp [GA.fresh] at hx, by decide⟩
set_option maxRecDepth 100000 in
set_option maxHeartbeats 8000000 in
theorem hnew_any (w : World) :
    Calls Tryz.prog 11 #[] w fun e w' => ∃ c, e = .returned (.pointer (some ⟨c, 0, none⟩)) ∧ NwM w w' c false GA.fresh 46 GA.fresh 46 := by
  have hZ := MG.zero w false
  have oZ := (Only.refl (fun _ => False) w).alloc (.cells (gmZ false) 63)
  have hsz : (w.alloc (.cells (gmZ false) 63)).heap.size = w.heap.size + 1 := by simp
  have HZ := hide hZ
  have OZ := hide oZ
  clear hZ oZ
  unfold gmZ at *
  go_enter Tryz.func11, Tryz.ntmps11
  go_upto_region 2 with fail
  generalize w.alloc (.cells #[.slice none 0 0, .int .i64 0, .slice none 0 0, .string ⟨#[]⟩, .int .i64 0, .int .i64 0, .slice none 0 0, .int .i64 0, .slice none 0 0, .int .i64 0, .slice none 0 0, .string ⟨#[]⟩, .int .i64 0, .int .i64 0, .slice none 0 0, .int .i64 0, .bool false, .slice none 0 0, .int .i64 0, .slice none 0 0, .string ⟨#[]⟩, .int .i64 0, .int .i64 0, .slice none 0 0, .int .i64 0, .slice none 0 0] 63) = w1 at *
  generalize hc : w.heap.size = c at *
  have h1 := unhide HZ
  have hcl1 := h1.lt
  obtain ⟨_, _, _, _, _, _, e0, e1, e2, e3, e4, e5, e6, e7, _, _⟩ := h1.cur
  have z0 := h1.free 0
  have z1 := h1.free 1
  have z2 := h1.free 2
  have z3 := h1.free 3
  have z4 := h1.free 4
  have z5 := h1.free 5
  have z6 := h1.free 6
  have z7 := h1.free 7
  have hP := h1.putCur (r' := 46) (A' := GA.fresh) (Only.refl _ w1) (StV.none (w := w1) (O := fun y => w1.heap.size ≤ y) (A := GA.fresh) rfl rfl rfl)
  have hO := put8_only w1 c 0 (.slice none 0 0) (.slice none 0 0) (.slice none 0 0) GA.fresh 46
  have hs2 := hO.size
  have HP := hide hP
  have O2 := hide ((unhide OZ).trans hO (fun y hy e => by omega))
  clear h1 hP hO HZ OZ
  go_upto_region 3 with fail
  generalize hW2 : put8 w1 c 0 (.slice none 0 0) (.slice none 0 0) (.slice none 0 0) GA.fresh 46 = w2 at *
  have hW2' := hW2
  unfold put8 GA.fresh mainB at hW2'
  have hW2'' : ((((((((w1.setCell ⟨c, 0, none⟩ (.slice none 0 0)).setCell ⟨c, 1, none⟩ (.int .i64 1)).setCell ⟨c, 2, none⟩ (.slice none 0 0)).setCell ⟨c, 3, none⟩ (.string ⟨#[109, 97, 105, 110]⟩)).setCell ⟨c, 4, none⟩ (.int .i64 0)).setCell ⟨c, 5, none⟩ (.int .i64 0)).setCell ⟨c, 6, none⟩ (.slice none 0 0)).setCell ⟨c, 7, none⟩ (.int .i64 46)) = w2 := hW2'
  rw [hW2'']
  clear e0 e1 e2 e3 e4 e5 e6 e7 z0 z1 z2 z3 z4 z5 z6 z7 hW2 hW2' hW2''
  have h2 := unhide HP
  have hcl2 := h2.lt
  obtain ⟨na, nc, ra, rc, aa, ac, c0, c1, c2, c3, c4, c5, c6, c7, _, hV⟩ := h2.cur
  have C1 := hcopy_any (r := 46) hV ASm.fresh
  unfold stV at C1
  have C1 := hide C1
  clear h2 hV
  generalize hG : GA.fresh = G at *
  go_wp2_with fail
  refine (unhide C1).mono ?_
  rintro e w4 ⟨ma', mc', sa', sc', ba', bc', rfl, hV4, hO4⟩
  have h4 := (unhide HP).quiet hO4
  have hcl4 := h4.lt
  obtain ⟨_, _, _, _, _, _, e0, e1, e2, e3, e4, e5, e6, e7, _, _⟩ := h4.sav
  have z8 := h4.free 8
  have z9 := h4.free 9
  have z10 := h4.free 10
  have z11 := h4.free 11
  have z12 := h4.free 12
  have z13 := h4.free 13
  have z14 := h4.free 14
  have z15 := h4.free 15
  have hP4 := (unhide HP).putSav (sr' := 46) hO4 hV4
  have hO5 := put8_only w4 c 8 (.slice ma' G.nodes.length mc') (.slice sa' G.refs.length sc') (.slice ba' G.aux.length bc') G 46
  have hO45 := (hO4.mono (T := fun y => y = c) (fun _ _ h => h.elim)).trans hO5 (fun _ _ h => h)
  have hO05 : Only (fun _ => False) w (put8 w4 c 8 (.slice ma' G.nodes.length mc') (.slice sa' G.refs.length sc') (.slice ba' G.aux.length bc') G 46) := (unhide O2).trans hO45 (fun y hy e => by omega)
  have HP4 := hide hP4
  have OP4 := hide hO05
  have h34 := hO4.size
  have h45 := hO5.size
  clear C1 hV4 hO4 h4 hP4 hO5 hO45 hO05 O2 c0 c1 c2 c3 c4 c5 c6 c7 HP
  go_upto_region 4 with fail
  generalize hW5 : put8 w4 c 8 (.slice ma' G.nodes.length mc') (.slice sa' G.refs.length sc') (.slice ba' G.aux.length bc') G 46 = w5 at *
  have hW5' := hW5
  unfold put8 at hW5'
  rw [hW5']
  have C3 := hide (hmark_any (unhide HP4) (by rw [← hG]; exact ASm.fresh))
  clear e0 e1 e2 e3 e4 e5 e6 e7 z8 z9 z10 z11 z12 z13 z14 z15 hW5 hW5'
  go_wp2_with fail
  refine (unhide C3).mono ?_
  rintro e w6 ⟨rfl, h6, hO6⟩
  have h56 := hO6.size
  have hfin : NwM w w6 c false G 46 G 46 := ⟨h6.mono (fun k hk => by
    rw [hc]
    rcases hk with (hk | hk) | hk
    · have hk' : k = c := hk
      exact ⟨by omega, by have := h6.lt; omega⟩
    · exact ⟨by omega, by omega⟩
    · exact ⟨by omega, by omega⟩) (fun k hk => hk.2), (unhide OP4).trans hO6 (fun y hy e => by omega)⟩
  have HF := hide hfin
  have HG := hide hG
  clear C3 h6 hO6 hfin HP4 OP4 hG
  go_wp2_with fail
  go_ret
  exact ⟨c, rfl, by rw [unhide HG]; exact unhide HF⟩
end Go.Proofs.Qxb6500417aGreat
