/-
  OWN WORK. THE GRAPH: snapshot, Aux.
-/
import Derived.Test.Qxb6500417aGreatGAx
import Derived.Test.Qxb6500417aGreatTRd
namespace Go.Proofs.Qxb6500417aGreat
open Go.RowKit Go.PlainAid
set_option linter.unusedSimpArgs false
set_option linter.unusedVariables false

/-- Files that were made. -/
structure FM (w : World) (v : Value) (l : List Fl) (w' : World) : Prop where
  own : OwnF w' v l
  hb : ∀ y, v.ownBlock = some y → w.heap.size ≤ y
  ho : Only (fun _ => False) w w'
theorem FM.nil (w : World) : FM w (.slice none 0 0) [] w := ⟨OwnF.nil w, fun y hy => by simp [Value.ownBlock] at hy, Only.refl _ _⟩
theorem FM.quiet {w : World} {v : Value} {l : List Fl} {w1 w2 : World} (h : FM w v l w1) (ho : Only (fun _ => False) w1 w2) : FM w v l w2 := ⟨h.own.keep ho (fun _ _ h => h), h.hb, h.ho.trans ho (fun _ _ h => h)⟩
theorem FM.push {w : World} {v : Value} {l : List Fl} {w1 w2 : World} {gg n cap : Nat} {f : Fl} (h : FM w v l w1) (hown : w2.ownsRow 0 78 3 (.slice (some ⟨gg, 0, none⟩) n cap) n (flCells l ++ [.string f.path, .string f.data, .int .i64 f.mode])) (hn : n = l.length + 1) (oG : Only (fun y => v.ownBlock = some y) w1 w2) (hat : v.ownBlock = some gg ∨ w1.heap.size ≤ gg) : FM w (.slice (some ⟨gg, 0, none⟩) n cap) (l ++ [f]) w2 := by
  have hs := h.ho.size
  refine ⟨?_, fun y hy => ?_, h.ho.trans oG (fun y hy e => by have := h.hb y e; omega)⟩
  · unfold OwnF
    rw [flCells_snoc, List.length_append, List.length_singleton, ← hn]
    exact hown
  · have : gg = y := by simpa [Value.ownBlock] using hy
    subst this
    rcases hat with e | e
    · exact h.hb _ e
    · omega
section
variable {w : World} {g t s d : Nat} {D B : Nat → Nat} {recs : List Rec} {J : Nat → Sl} {rt : Nat} {F : Nat → Prop} {T : Gt} {S : GA}
set_option maxRecDepth 100000 in
set_option maxHeartbeats 4000000 in
theorem gsnap_any (h : TS w t s d D B recs J rt F) (hG : GH w g t T) (tr : Nat) (ht : IsT J tr) :
    Calls Tryz.prog 133 #[.pointer (some ⟨g, 0, none⟩), .int .i64 tr] w fun e w' => ∃ v, e = .returned v ∧ FM w v (snapJ J tr) w' := by
  have C1 := tread_any h (tr : Int)
  have hE0 : trE J (tr : Int) = 0 := by
    unfold trE
    rw [liveJ_nat ht.1, ht.2.1]
    simp [ht.2.2]
  have hL : trL J (tr : Int) = (J tr).lst := by
    unfold trL
    rw [if_pos hE0]; simp
  rw [hE0, hL] at C1
  have hT := h.inv.tr tr ht.1 (liveS_ne ht.2.1) ht.2.2
  have hbl := h.inv.blobsT ht
  have hids := hT.fine.ids
  have hcnt := hT.fine.cnt
  have hsn : snapJ J tr = (J tr).lst.map (flJ J) := rfl
  rw [hsn]
  have hdat : ∀ e ∈ (J tr).lst, (∀ x ∈ (J e.id.toNat).dat, x < 256) ∧ (J e.id.toNat).dat.length ≤ 180 := fun e he => by
    obtain ⟨ob, hO, hR⟩ := h.ex
    obtain ⟨a1, a2, _⟩ := hbl e he
    obtain ⟨b1, b2, b3⟩ := hR _ a1
    obtain ⟨⟨tab, hd, us, nf, bk, hs, hi⟩, _, _⟩ := hO
    have hh := hi.rows.held _ a1 (by rw [b1]; exact liveS_ne a2)
    rw [← b3]
    refine ⟨fun x hx => ?_, hh.n180⟩
    obtain ⟨j, hj, rfl⟩ := List.getElem_of_mem hx
    have := hh.by8 j hj
    unfold dF at this
    rw [List.getD_eq_getElem?_getD, List.getElem?_eq_getElem hj] at this
    exact this
  generalize hlst : (J tr).lst = lst at *
  have C1 := hide C1
  have H0 := hide h
  have HG := hide hG
  have Hbl := hide hbl
  have Hids := hide hids
  have Hdat := hide hdat
  have c0 := hG.tr.1
  obtain ⟨i0, hi0, hz0, hz1, hz2⟩ := info_parts Tryz.infoFile
  clear h hG hE0 hL hT hbl hids hsn hdat hlst
  go_enter Tryz.func133, Tryz.ntmps133
  go_wp2_with fail
  refine (unhide C1).mono ?_
  rintro e w1 ⟨v1, rfl, hE1⟩
  have hin := hE1.own.in_
  obtain ⟨ea, ec, rfl, hec⟩ := hin
  have hO1 : Only (fun _ => False) w w1 := hE1.ho.mono (fun y _ hy => by simp [Value.ownBlock] at hy)
  have HE := hide hec
  have HO1 := hide hO1
  clear C1 hE1 hec hO1 c0
  go_wp2_with fail
  go_loopw [7, 8] (fun ov iv wr => ∃ i : Nat, iv = .int .i64 i ∧ i ≤ lst.length ∧ FM w1 ov ((lst.take i).map (flJ J)) wr) (fun _ iv _ => lst.length - (intOf iv).toNat)
  case atStart => exact ⟨0, rfl, by omega, FM.nil w1⟩
  case round =>
    obtain ⟨i, rfl, hi, hM⟩ := hrel
    by_cases hil : i < lst.length
    · have a1 : decide ((i : Int) < (lst.length : Int)) = true := decide_eq_true (by omega)
      have a1n : decide (i < lst.length) = true := decide_eq_true hil
      have a2 : (i : Int) < (lst.length : Int) := by omega
      obtain ⟨ge, rfl, hcell⟩ := unhide HE (by omega)
      obtain ⟨x0, x1, x2⟩ := hcell i hil
      have hel : ge < w1.heap.size := World.block_lt_of_cell? w1 _ x0
      have hbk := hM.ho.block ge hel (fun h => h)
      have y0 := (World.cell?_of_block hbk).trans x0
      have y1 := (World.cell?_of_block hbk).trans x1
      have y2 := (World.cell?_of_block hbk).trans x2
      obtain ⟨b1, b2, b3⟩ := unhide Hbl lst[i] (List.getElem_mem hil)
      obtain ⟨d1, d2⟩ := unhide Hids lst[i] (List.getElem_mem hil)
      obtain ⟨d3, d4⟩ := unhide Hdat lst[i] (List.getElem_mem hil)
      have hOr := (unhide HO1).trans hM.ho (fun _ _ h => h)
      have hTr := (unhide H0).quiet hOr
      have hGr := (unhide HG).quiet hOr
      have e1 := hGr.tr.1
      have C2 := tget_any (hTr.quiet (Only.refl (fun _ => False) wr).drew) lst[i].id
      have hli : liveJ J lst[i].id = true := by
        unfold liveJ
        rw [decide_eq_true ⟨d1, d2⟩, b2]; rfl
      unfold tgK tgD tgE at C2
      rw [if_pos hli, if_pos hli, if_pos ⟨hli, by omega⟩, b3] at C2
      have hfl : flJ J lst[i] = ⟨sb lst[i].path, bsOf (J lst[i].id.toNat).dat, lst[i].mode⟩ := rfl
      have htk : (lst.take (i + 1)).map (flJ J) = (lst.take i).map (flJ J) ++ [flJ J lst[i]] := by
        rw [List.take_succ_eq_append_getElem hil, List.map_append, List.map_singleton]
      rw [hfl] at htk
      have hlen : ((lst.take i).map (flJ J)).length ≤ 8 := by simp; omega
      have C2 := hide C2
      have HM := hide hM
      have Htk := hide htk
      have e1d : wr.drew.cell? ⟨g, 0, none⟩ = some (.pointer (some ⟨t, 0, none⟩)) := by simpa using e1
      have y1d : wr.drew.cell? ⟨ge, i * 3 + 1, none⟩ = some (.int .i64 lst[i].id) := by simpa using y1
      have hgew : ge < wr.heap.size := by have := hM.ho.size; omega
      have hgw := hGr.lt
      have Hd3 := hide d3
      clear hM hcell hbk hTr hGr hOr htk hfl hli d3 b1 b2 b3 x0 x1 x2
      generalize lst[i].path = pth at *
      generalize lst[i].id = eid at *
      generalize lst[i].mode = emd at *
      generalize (J eid.toNat).dat = dat at *
      generalize hL2 : (lst.take i).map (flJ J) = L2 at *
      go_upto_region 6 with fail
      go_region_held_law (fun w' => w'.cell? ⟨g, 0, none⟩ = some (.pointer (some ⟨t, 0, none⟩)) ∧ w'.cell? ⟨ge, i * 3 + 1, none⟩ = some (.int .i64 eid)) (first | exact ⟨e1, y1⟩ | exact ⟨e1d, y1d⟩ | exact ⟨z1, z2⟩)
        (first | (go_at_call 121; refine (unhide C2).mono ?_; rintro e w2 ⟨v2, rfl, hB2, hO2⟩; have z1 := (World.cell?_of_block (hO2.block g (by simp; omega) (fun h => h))).trans e1d; have z2 := (World.cell?_of_block (hO2.block ge (by simp; omega) (fun h => h))).trans y1d))
      have hOw : Only (fun _ => False) wr w2 := (Only.refl (fun _ => False) wr).drew.trans hO2 (fun _ _ h => h)
      have hM2 := (unhide HM).quiet hOw
      have own2 : w2.ownsRow 0 78 3 _ L2.length (flCells L2) := hM2.own
      obtain ⟨oa, oc, rfl⟩ := ownsRow_shape hM2.own
      have hbk2 := hOw.block ge hgew (fun h => h)
      have u0 := (World.cell?_of_block hbk2).trans y0
      have u2 := (World.cell?_of_block hbk2).trans y2
      have u0d : w2.drew.cell? ⟨ge, i * 3, none⟩ = some (.string (sb pth)) := by simpa using u0
      have u2d : w2.drew.cell? ⟨ge, i * 3 + 2, none⟩ = some (.int .i64 emd) := by simpa using u2
      have hcv : (convert 90 9 v2).run Tryz.prog w2.drew = .ok (.string (bsOf dat)) w2.drew := by
        rcases hB2 with ⟨rfl, rfl⟩ | ⟨gb, rfl, _, hHb⟩
        · have := run_convert_bytes_string (P := Tryz.prog) w2.drew 90 9 5 none 0 0 Tryz.underlying90 Tryz.underlying5 Tryz.underlying9
          rw [this]
          rfl
        · have hc := piece_conv (w := w2.drew) (g := gb) (n := dat.length) (dat := dat) rfl (fun j hj => by
            have := hHb.cell j
            rw [u8_get _ _ _ hj] at this
            simpa using this) (unhide Hd3) 0 dat.length (by omega) 0 dat.length (.inl rfl)
          rw [List.drop_zero, List.take_length] at hc
          exact hc
      obtain ⟨va2, vc2, rfl⟩ := hB2.shape
      have hs2 := hOw.size
      have hne : (Value.slice oa L2.length oc).ownBlock ≠ some ge := fun e => by have := hM2.hb ge e; omega
      have k0 : (w2.alloc (.cells #[.string (sb pth), .string (bsOf dat), .int .i64 emd] 78)).drew.cell? ⟨ge, i * 3, none⟩ = some (.string (sb pth)) := by
        have := (World.cell?_of_block ((((Only.refl (fun _ => False) w2).alloc (.cells #[.string (sb pth), .string (bsOf dat), .int .i64 emd] 78)).drew).block ge (by omega) (fun h => h))).trans u0
        exact this
      have k2 : (w2.alloc (.cells #[.string (sb pth), .string (bsOf dat), .int .i64 emd] 78)).drew.cell? ⟨ge, i * 3 + 2, none⟩ = some (.int .i64 emd) := by
        have := (World.cell?_of_block ((((Only.refl (fun _ => False) w2).alloc (.cells #[.string (sb pth), .string (bsOf dat), .int .i64 emd] 78)).drew).block ge (by omega) (fun h => h))).trans u2
        exact this
      have l5 : L2.length + 1 ≤ maxLen := by unfold maxLen; omega
      have HM2 := hide hM2
      clear hB2 hO2 hOw hM2 hbk2 z1 z2 e1 e1d y0 y1 y1d y2 C2 HM
      go_wp2_with fail
      go_upto_region 7 with fail
      go_region_held_law (fun w' => w'.cell? ⟨ge, i * 3, none⟩ = some (.string (sb pth)) ∧ w'.cell? ⟨ge, i * 3 + 2, none⟩ = some (.int .i64 emd)) (first | exact ⟨u0, u2⟩ | exact ⟨u0d, u2d⟩ | exact ⟨k0, k2⟩ | exact ⟨m0, m2⟩)
        ((refine step_append_lies _ (by rfl) _ _ _ (by rfl) 0 78 i0 _ 3 40 Tryz.underlying36 hi0 hz0 hz1 hz2 rfl (by omega) (.slice oa L2.length oc) L2.length (flCells L2) (by rfl) ((own2.alloc _).drew) ⟨w2.heap.size, 0, none⟩ 1 1 [.string (sb pth), .string (bsOf dat), .int .i64 emd] (by rfl) (by rfl) (World.news_of_block (cs := #[.string (sb pth), .string (bsOf dat), .int .i64 emd]) (t := 78) (fr := (0, 0)) (heap_alloc_new w2 _)) (by simp [Value.oneCell']) (by omega) l5 (by omega) (by simp) (w2.heap.size + 1) (by simp) ?_; intro gg cap w3 hown1 hgrow hat hlt3; have m0 := (hgrow.cell_far ⟨ge, i * 3, none⟩ (by simp; omega) (Ne.symm hne)).trans k0; have m2 := (hgrow.cell_far ⟨ge, i * 3 + 2, none⟩ (by simp; omega) (Ne.symm hne)).trans k2))
      have oG : Only (fun y => (Value.slice oa L2.length oc).ownBlock = some y) w2 w3 := ((Only.refl (fun y => (Value.slice oa L2.length oc).ownBlock = some y) w2).alloc _).drew.grown hgrow (fun y hy _ => hy)
      have hM3 := (unhide HM2).push (f := ⟨sb pth, bsOf dat, emd⟩) hown1 rfl oG (by
        rcases hat with e | e
        · exact .inl e
        · exact .inr (by omega))
      have HM3 := hide hM3
      clear hown1 hgrow hat hlt3 m0 m2 k0 k2 u0 u2 u0d u2d hcv oG hM3 own2 HM2
      go_wp2_with fail
      go_roundw
      case rel => exact ⟨i + 1, by go_num, by omega, by rw [unhide Htk]; exact unhide HM3⟩
      case measure => simp [intOf]; omega
    · have a1 : decide ((i : Int) < (lst.length : Int)) = false := decide_eq_false (by omega)
      have a1n : decide (i < lst.length) = false := decide_eq_false hil
      have e2 : i = lst.length := by omega
      rw [e2, List.take_length] at hM
      have RR : Hid (FM w _ (lst.map (flJ J)) wr) := hide ⟨hM.own, fun y hy => by have := hM.hb y hy; have := (unhide HO1).size; omega, (unhide HO1).trans hM.ho (fun _ _ h => h)⟩
      clear hM
      go_wp2_with fail
      go_ret
      exact ⟨_, rfl, unhide RR⟩
end
end Go.Proofs.Qxb6500417aGreat
