/-
  OWN WORK. KeepsUpTo: the walk.
-/
import Derived.Test.Qxb6500415aLaw8
namespace Go.Proofs.Qxb6500415a
open Go.RowKit
set_option linter.unusedSimpArgs false
set_option linter.unusedVariables false

set_option maxRecDepth 100000 in
set_option maxHeartbeats 4000000 in
theorem keepsUpTo_any (ad : Option Addr) (len cap : Nat) (ops : List OpD) (w : World) (hops : OpsAt w ad len ops) (hlen : len ≤ 4398046511104) :
    Calls Try.prog 7 #[.slice ad len cap] w fun e w' => e = .returned (.int .i64 (-1)) ∧ Below w.heap.size w w' := by
  go_enter Try.func7, Try.ntmps7
  go_wp2_with fail
  refine (ground_any _).mono ?_
  rintro e w1 ⟨rfl, hd1, ho1⟩
  have s1 := ho1.size
  go_wp2_with fail
  have o2 : Only (fun _ => False) w1 (w1.alloc (.cells #[.pointer (some ⟨w.heap.size + 1, 0, none⟩)] 29)) := (Only.refl _ w1).alloc _
  have hd2 := hd1.keep o2 (fun _ _ h => h)
  have kv := Has.new w1 #[.pointer (some ⟨w.heap.size + 1, 0, none⟩)] 29
  refine (wnew_any (w.heap.size + 1) _).mono ?_
  rintro e w3 ⟨rfl, hl3, ho3⟩
  simp only [World.size_alloc] at hl3
  have s3 := ho3.size
  simp only [World.size_alloc] at s3
  have hd3 := hd2.keep ho3 (fun _ _ h => h)
  have kv3 := kv.keep ho3 (fun h => h)
  go_wp2_with fail
  refine (newGhost_any _).mono ?_
  rintro e w4 ⟨rfl, hg4, ho4⟩
  have s4 := ho4.size
  have hd4 := hd3.keep ho4 (fun _ _ h => h)
  have hl4 := hl3.keep ho4 (fun _ _ h => h)
  have kv4 := kv3.keep ho4 (fun h => h)
  have cv4 := kv4.cell 0
  have hinv := inv_zero
  have j4 : Joint w4 (w1.heap.size + 1) (w.heap.size + 1) w3.heap.size (zeros 153) (zeros 153) [] false [] (zeros 80) (zeros 80) (zeros 80) (nots 80) (Ext (fun _ => False) w w1) (Ext (fun _ => False) (w1.alloc (.cells #[.pointer (some ⟨w.heap.size + 1, 0, none⟩)] 29)) w3) (Ext (fun _ => False) w3 w4) := by
    refine ⟨hd4, hl4, hg4, hinv, ?_, ?_, ?_⟩
    · intro k hk hh; rcases hk with hk | hk <;> rcases hh with hh | hh <;> first | exact hk | exact hh | (simp at hh; omega)
    · intro k hk hh; rcases hk with hk | hk <;> rcases hh with hh | hh <;> first | exact hk | exact hh | omega
    · intro k hk hh; rcases hk with hk | hk <;> rcases hh with hh | hh <;> first | exact hk | exact hh | omega
  have C5 := hide (held_any _ _ _ _ _ _ _ _ _ _ _ _ _ _ _ w4 j4.lg j4.dk j4.gh hinv.tells hinv.curs)
  go_wp2_with fail
  refine (unhide C5).mono ?_
  rintro e w5 ⟨rfl, ho5⟩
  have j5 := j4.keep ho5
  have kv5 := kv4.keep ho5 (fun h => h)
  go_wp2_with fail
  have hLI : LI w w1.heap.size w3.heap.size (Ext (fun _ => False) w3 w4) (w1.heap.size + 1) w5 := by
    refine ⟨⟨_, _, _, _, _, _, _, _, _, _, _, _, j5, hinv.still, kv5, ?_, ?_⟩, ?_, ?_, s1⟩
    · intro k hk; rcases hk with hk | hk
      · exact hk.elim
      · omega
    · intro k hk; rcases hk with hk | hk
      · exact hk.elim
      · simp at hk; omega
    · intro k hk; rcases hk with hk | hk
      · exact hk.elim
      · omega
    · exact Only.bel (Below.refl _ _) (((((ho1.trans o2 (fun _ _ h => h)).trans ho3 (fun _ _ h => h)).trans ho4 (fun _ _ h => h)).trans ho5 (fun _ _ h => h))) (fun _ h => h.elim)
  generalize (Ext (fun _ => False) w3 w4) = H at hLI
  generalize w1.heap.size = vb at hLI ⊢
  generalize w3.heap.size = g at hLI ⊢
  generalize hl0 : vb + 1 = l0 at hLI ⊢
  clear hl0 j5 kv5 ho5 C5 j4 hinv cv4 kv4 hl4 hd4 s4 hg4 ho4 kv3 hd3 s3 hl3 ho3 kv hd2 o2 s1 hd1 ho1
  go_loopw [4, 7] (fun x i wr => ∃ k l : Nat, k ≤ len ∧ i = .int .i64 k ∧ x = .pointer (some ⟨l, 0, none⟩) ∧ LI w vb g H l wr) (fun _ i _ => len - (intOf i).toNat)
  case atStart => exact ⟨0, l0, Nat.zero_le _, rfl, rfl, hLI⟩
  case round =>
    clear hLI
    obtain ⟨k, l, hk, rfl, rfl, hli⟩ := hrel
    by_cases hkl : k < len
    · obtain ⟨hol, hoa⟩ := hops
      obtain ⟨ab, aoff, rfl, hcells⟩ := hoa (by omega)
      obtain ⟨y0, y1, y2, y3, y4, y5, hsz⟩ := hcells k (by omega)
      clear hcells hoa
      have hbel := hli.bel
      have hab : ab < w.heap.size := World.block_lt_of_cell? w ⟨ab, aoff + k * 6, none⟩ y0
      rw [← hbel.cell (p := ⟨ab, aoff + k * 6, none⟩) hab] at y0
      rw [← hbel.cell (p := ⟨ab, aoff + k * 6 + 1, none⟩) hab] at y1
      rw [← hbel.cell (p := ⟨ab, aoff + k * 6 + 2, none⟩) hab] at y2
      rw [← hbel.cell (p := ⟨ab, aoff + k * 6 + 3, none⟩) hab] at y3
      rw [← hbel.cell (p := ⟨ab, aoff + k * 6 + 4, none⟩) hab] at y4
      rw [← hbel.cell (p := ⟨ab, aoff + k * 6 + 5, none⟩) hab] at y5
      generalize ops[k]'(by omega) = o at *
      obtain ⟨ok, oa, ob, oc, os, ot⟩ := o
      simp only at y0 y1 y2 y3 y4 y5 hsz
      have hkI : (k : Int) < (len : Int) := by omega
      have hkM : decide ((k : Int) < 4398046511104) = true := by simp; omega

      have hvb := hli.vb
      have hHB := hli.hH
      obtain ⟨⟨d, F, G, blk, base, recs, op, es, com, was, cur, dirty, j0, hcu, kv, hFB, hGB⟩, _, _, _⟩ := hli
      have kvo := kv.alloc (.cells #[.int .i64 ok, .int .i64 oa, .int .i64 ob, .int .i64 oc, .string os, .string ot] 37)
      have cvo := kvo.cell 0
      have hvl := kv.lt
      have oo : Only (fun _ => False) wr (wr.alloc (.cells #[.int .i64 ok, .int .i64 oa, .int .i64 ob, .int .i64 oc, .string os, .string ot] 37)) := (Only.refl _ wr).alloc _
      have ko := Has.new wr #[.int .i64 ok, .int .i64 oa, .int .i64 ob, .int .i64 oc, .string os, .string ot] 37
      have jo := j0.keep oo
      by_cases hten : ok = 10
      · subst hten
        have C1 := hide (steps_any d blk base recs F _ jo.dk)
        have hl146 := hcu.short
        go_wp2_with fail
        refine (unhide C1).mono ?_
        rintro e w1 ⟨rfl, ho1⟩
        have j1 := jo.keep ho1
        have kv1 := kvo.keep ho1 (fun h => h)
        have ko1 := ko.keep ho1 (fun h => h)
        have cv1 := kv1.cell 0
        have zv1 := kv1.free 0
        have co1 := ko1.cell 1
        have s1 := ho1.size
        simp only [World.size_alloc] at s1
        have bo1 : Below w.heap.size w w1 := Only.bel (Only.bel hbel oo (fun _ h => h.elim)) ho1 (fun _ h => h.elim)
        have C2 := hide (after_any d blk base recs F oa w1 j1.dk hcu.keys (by omega))
        clear C1 jo ko oo cvo kvo kv y0 y1 y2 y3 y4 y5
        go_wp2_with fail
        refine (unhide C2).mono ?_
        rintro e w2 ⟨d', rfl, hd2, ho2⟩
        have s2 := ho2.size
        have kv2 := kv1.keep ho2 (fun h => h)
        have ko2 := ko1.keep ho2 (fun h => h)
        have cv2 := kv2.cell 0
        have zv2 := kv2.free 0
        have o3 : Only (fun k => k = vb) w2 (w2.setCell ⟨vb, 0, none⟩ (.pointer (some ⟨d', 0, none⟩))) := (Only.refl (fun k => k = vb) w2).setCell (p := ⟨vb, 0, none⟩) (fun _ => rfl) _
        have hd3 := hd2.keep o3 (fun k hk e => by subst e; rcases hk with hk | hk; exact hk; omega)
        have kv3 : Has (w2.setCell ⟨vb, 0, none⟩ (.pointer (some ⟨d', 0, none⟩))) vb #[.pointer (some ⟨d', 0, none⟩)] 29 := by simpa using kv2.setCell 0 (.pointer (some ⟨d', 0, none⟩))
        have hg3 := (j1.gh.keep ho2 (fun _ _ h => h)).keep o3 (fun k hk e => (hHB k hk).2 e)
        have ko3 := ko2.keep o3 (fun e => by omega)
        have bo3 : Below w.heap.size w (w2.setCell ⟨vb, 0, none⟩ (.pointer (some ⟨d', 0, none⟩))) := Only.bel (Only.bel bo1 ho2 (fun _ h => h.elim)) o3 (fun k e => by omega)
        have hF3 : ∀ k, Ext (fun _ => False) w1 w2 k → w1.heap.size ≤ k := Ext.le (fun _ h => h.elim) (Nat.le_refl _)
        have hHi := j1.gh.inn
        generalize hD0 : replay base (recs.take oa.toNat) = D0 at *
        have hDl : D0.length = 153 := by rw [← hD0]; exact hcu.image_len _
        have hDs : ∀ x ∈ D0, x.size = 128 := by rw [← hD0]; exact hcu.image_sz _
        have C3 := hide (wopen_any d' D0 D0 [] _ _ hd3 hDs (by simp))
        have cv3 := kv3.cell 0
        have hvl2 : vb < w2.heap.size := by omega
        have HD0 := hide hD0
        have Hcu := hide hcu
        have s3 : (w2.setCell ⟨vb, 0, none⟩ (.pointer (some ⟨d', 0, none⟩))).heap.size = w2.heap.size := by simp
        clear hD0 C2 j0 hd2 j1 kv1 ko1 cv1 co1 kv2 ko2 hbel
        go_wp2_with fail
        generalize hw3 : w2.setCell ⟨vb, 0, none⟩ (.pointer (some ⟨d', 0, none⟩)) = w3 at *
        clear hw3 o3 cv2 zv2 ho2 ho1 zv1
        refine (unhide C3).mono ?_
        rintro e w4 ⟨l', F4, G4, rfl, hd4, hl4, ho4, hF4, hG4, hFG4⟩
        have s4 := ho4.size
        have hg4 := hg3.keep ho4 (fun k hk hh => by have := hF3 k hh; have := hHi k hk; omega)
        have kv4 := kv3.keep ho4 (fun hh => by have := hF3 _ hh; omega)
        have ko4 := ko3.keep ho4 (fun hh => by have := hF3 _ hh; omega)
        have bo4 : Below w.heap.size w w4 := Only.bel bo3 ho4 (fun k hh => by have := hF3 k hh; omega)
        have hF5 : ∀ k, F4 k → w.heap.size ≤ k ∧ k ≠ vb ∧ ¬ H k := by
          intro k hk
          have : w1.heap.size ≤ k := Ext.le hF3 (by omega) k (hF4 k hk)
          exact ⟨by omega, by omega, fun hh => by have := hHi k hh; omega⟩
        have hG5 : ∀ k, G4 k → w.heap.size ≤ k ∧ k ≠ vb ∧ ¬ H k := by
          intro k hk
          have := hG4 k hk
          exact ⟨by omega, by omega, fun hh => by have := hHi k hh; omega⟩
        rw [List.nil_append] at hd4
        have hrv : replay D0 (recRecs D0) = recov D0 := rfl
        rw [hrv] at hd4
        have hei : Shows (recov D0) was ∨ Shows (recov D0) com := by have := (unhide Hcu).either oa.toNat; rw [unhide HD0] at this; exact this
        have hft : oa ≤ 0 → Shows (recov D0) was := fun h => by
          have e0 : oa.toNat = 0 := by omega
          have := (unhide Hcu).foot; rw [← e0, unhide HD0] at this; exact this
        have hwk : (recs.length : Int) ≤ oa → Shows (recov D0) com := fun h => by
          have := (unhide Hcu).work oa.toNat (by omega); rw [unhide HD0] at this; exact this
        obtain ⟨nB, hnB⟩ : ∃ b, gotB (recov D0) [] was = b := ⟨_, rfl⟩
        obtain ⟨aB, haB⟩ : ∃ b, gotB (recov D0) [] com = b := ⟨_, rfl⟩
        have hna : nB = true ∨ aB = true := by
          rcases hei with h | h
          · left; rw [← hnB]; exact (gotB_shows _ _).2 h
          · right; rw [← haB]; exact (gotB_shows _ _).2 h
        have hn0 : oa ≤ 0 → nB = true := fun h => by rw [← hnB]; exact (gotB_shows _ _).2 (hft h)
        have ha0 : (recs.length : Int) ≤ oa → aB = true := fun h => by rw [← haB]; exact (gotB_shows _ _).2 (hwk h)
        have C4 := hide (steps_any _ _ _ _ _ w4 hd4)
        have cv4 := kv4.cell 0
        have Hna := hide hna
        have Hn0 := hide hn0
        have Ha0 := hide ha0
        have HnB := hide hnB
        have HaB := hide haB
        clear C3 hd3 hg3 kv3 ko3 cv3 bo3 hF3 hrv hei hft hwk hna hn0 ha0 hnB haB
        go_wp2_with fail
        refine (unhide C4).mono ?_
        rintro e w5 ⟨rfl, ho5⟩
        have hd5 := hd4.keep ho5 (fun _ _ h => h)
        have hl5 := hl4.keep ho5 (fun _ _ h => h)
        have hg5 := hg4.keep ho5 (fun _ _ h => h)
        have kv5 := kv4.keep ho5 (fun h => h)
        have ko5 := ko4.keep ho5 (fun h => h)
        have bo5 : Below w.heap.size w w5 := Only.bel bo4 ho5 (fun _ h => h.elim)
        obtain ⟨⟨b0, b1, b2, b3, h1, h2, h3, h4, h5, n1, n2, n3, f0, f1, f2, f3, f4⟩, l0, l1, l2, l3, hi⟩ := hide hg5
        have q0 := h1.cell 0
        have q1 := h1.cell 1
        have q2 := h1.cell 2
        have C5 := got_any l' d' false [] G4 _ _ _ F4 b1 was w5 hl5 hd5 h3 l1
        rw [unhide HnB] at C5
        have C5 := hide C5
        have C6 := got_any l' d' false [] G4 _ _ _ F4 b0 com w5 hl5 hd5 h2 l0
        rw [unhide HaB] at C6
        have C6 := hide C6
        have co5 := ko5.cell 1
        clear C4 hd4 hl4 hg4 kv4 ko4 cv4 bo4
        go_wp2_with fail
        refine (unhide C5).mono ?_
        rintro e w6 ⟨rfl, rfl⟩
        go_wp2_with fail
        refine (unhide C6).mono ?_
        rintro e w6 ⟨rfl, rfl⟩
        clear C5 C6
        go_upto_region 29 with fail
        go_cut [101] (fun v wx => v = .bool false ∧ w5 = wx)
        case first =>
          rcases unhide Hna with h | h
          · subst h
            go_wp2_with fail
            go_meet
            exact ⟨rfl, rfl⟩
          · subst h
            cases nB
            · go_wp2_with fail
              go_meet
              exact ⟨rfl, rfl⟩
            · go_wp2_with fail
              go_meet
              exact ⟨rfl, rfl⟩
        case rest =>
        obtain ⟨rfl, rfl⟩ := hcut
        go_upto_region 31 with fail
        go_cut [109] (fun v wx => v = .bool false ∧ w5 = wx)
        case first =>
          by_cases h0 : oa ≤ 0
          · have h0b := unhide Hn0 h0
            subst h0b
            go_wp2_with fail
            go_meet
            exact ⟨rfl, rfl⟩
          · have h0b : decide (oa ≤ 0) = false := by simpa using h0
            go_wp2_with fail
            go_meet
            exact ⟨rfl, rfl⟩
        case rest =>
        obtain ⟨rfl, rfl⟩ := hcut
        go_upto_region 33 with fail
        go_cut [118] (fun v wx => v = .bool false ∧ w5 = wx)
        case first =>
          by_cases h0 : (recs.length : Int) ≤ oa
          · have h0b := unhide Ha0 h0
            subst h0b
            go_wp2_with fail
            go_meet
            exact ⟨rfl, rfl⟩
          · have h0b : decide ((recs.length : Int) ≤ oa) = false := by simpa using h0
            go_wp2_with fail
            go_meet
            exact ⟨rfl, rfl⟩
        case rest =>
        obtain ⟨rfl, rfl⟩ := hcut
        go_upto_region 35 with fail
        have holdF : ∀ w6 : World, Only H w5 w6 → DiskAt w6 d' (recov D0) D0 (recRecs D0) F4 := fun w6 ho => hd5.keep ho (fun k hk hh => (hF5 k hk).2.2 hh)
        have holdG : ∀ w6 : World, Only H w5 w6 → LogAt w6 l' d' false [] G4 := fun w6 ho => hl5.keep ho (fun k hk hh => (hG5 k hk).2.2 hh)
        have holdV : ∀ w6 : World, Only H w5 w6 → Has w6 vb #[.pointer (some ⟨d', 0, none⟩)] 29 := fun w6 ho => kv5.keep ho (fun hh => (hHB _ hh).2 rfl)
        have fin : ∀ (X : List ByteArray) (w6 w7 : World), X.length = 80 → Shows (recov D0) X → Only H w5 w6 → GhostAt w6 g X X X (nots 80) 0 false H → Only (fun _ => False) w6 w7 → LI w vb g H l' w7 := by
          intro X w6 w7 lX hX ho hg ho7
          have hX' : Shows (recov (replay base (recs.take oa.toNat))) X := by rw [unhide HD0]; exact hX
          have j6 : Joint w6 l' d' g (recov D0) D0 (recRecs D0) false [] X X X (nots 80) F4 G4 H := ⟨holdF w6 ho, holdG w6 ho, hg, by have := (unhide Hcu).inv oa.toNat lX hX'; rw [unhide HD0] at this; exact this, hFG4, fun k hk => (hF5 k hk).2.2, fun k hk => (hG5 k hk).2.2⟩
          refine ⟨⟨d', F4, G4, _, _, _, _, _, _, _, _, _, j6.keep ho7, by have := (unhide Hcu).again oa.toNat hX'; rw [unhide HD0] at this; exact this, (holdV w6 ho).keep ho7 (fun h => h), fun k hk => ⟨(hF5 k hk).1, (hF5 k hk).2.1⟩, fun k hk => ⟨(hG5 k hk).1, (hG5 k hk).2.1⟩⟩, hHB, Only.bel (Only.bel bo5 ho (fun k hk => (hHB k hk).1)) ho7 (fun _ h => h.elim), hvb⟩
        have Fin := hide fin
        have HoldF := hide holdF
        have HoldG := hide holdG
        have HoldV := hide holdV
        have m2 := h1.ne h2 (by decide)
        have m3 := h1.ne h3 (by decide)
        have m4 := h1.ne h4 (by decide)
        have m52 := h5.ne h2 (by decide)
        have m53 := h5.ne h3 (by decide)
        have m54 := h5.ne h4 (by decide)
        clear fin holdF holdG holdV Hn0 Ha0 co5 ko5
        go_upto_if 121 with fail
        go_cut [] (fun wx => ∃ X, Hid (X.length = 80) ∧ Hid (Shows (recov D0) X) ∧ Has wx b0 (strs X) 60 ∧ Only (fun k => k = b0) w5 wx)
        case first =>
          cases aB with
          | true =>
            refine wp_cond_false rfl ?_
            go_wp2_with fail
            go_meet
            exact ⟨com, l0, (gotB_shows _ _).1 (unhide HaB), h2, Only.refl _ _⟩
          | false =>
            have hnt : nB = true := (unhide Hna).resolve_right (by simp)
            have hX : Shows (recov D0) was := (gotB_shows _ _).1 ((unhide HnB).trans hnt)
            have HX := hide hX
            clear hX hnt
            refine wp_cond_true rfl ?_
            go_region_with (go_at_call 15; refine (lay_any b0 b1 com was _ ?_ ?_ n1 l0 l1).mono ?_; exact h2.drew; exact h3.drew; rintro e w2 ⟨rfl, hb2, ho2⟩)
            all_goals
              go_wp2_with fail
              go_meet
              exact ⟨was, l1, unhide HX, hb2, (Only.refl (fun k => k = b0) w5).drew.trans ho2 (fun _ _ h => h)⟩
        case rest =>
        obtain ⟨X, lX, HX, e2, o6⟩ := hcut
        have e1 := h1.keep o6 m2
        have e3 := h3.keep o6 n1.symm
        have e4 := h4.keep o6 n2.symm
        have e5 := h5.keep o6 m52
        have o6H : Only H w5 wc := o6.mono (fun k _ e => by subst e; exact f1)
        clear q0 q1 q2
        have q0 := e1.cell 0
        have q1 := e1.cell 1
        go_upto_region 37 with fail
        generalize hwc : wc = w6 at *
        clear hwc
        go_cut [] (fun wx => Has wx b1 (strs X) 60 ∧ Only (fun k => k = b1) w6 wx)
        case first =>
          go_region_with (go_at_call 15; refine (lay_any b1 b0 was X _ ?_ ?_ n1.symm l1 (unhide lX)).mono ?_; exact e3.drew; exact e2.drew; rintro e w2 ⟨rfl, hb2, ho2⟩)
          all_goals
            go_wp2_with fail
            go_meet
            exact ⟨hb2, (Only.refl (fun k => k = b1) w6).drew.trans ho2 (fun _ _ h => h)⟩
        case rest =>
        obtain ⟨i3, o7⟩ := hcut
        have i1 := e1.keep o7 m3
        have i2 := e2.keep o7 n1
        have i4 := e4.keep o7 n3.symm
        have i5 := e5.keep o7 m53
        have o7H : Only H w5 wc := o6H.trans o7 (fun k _ e => by subst e; exact f2)
        clear q0 q1
        have q0 := i1.cell 0
        have q2 := i1.cell 2
        go_upto_region 38 with fail
        generalize hwc : wc = w7 at *
        clear hwc
        go_cut [] (fun wx => Has wx b2 (strs X) 60 ∧ Only (fun k => k = b2) w7 wx)
        case first =>
          go_region_with (go_at_call 15; refine (lay_any b2 b0 cur X _ ?_ ?_ n2.symm l2 (unhide lX)).mono ?_; exact i4.drew; exact i2.drew; rintro e w2 ⟨rfl, hb2, ho2⟩)
          all_goals
            go_wp2_with fail
            go_meet
            exact ⟨hb2, (Only.refl (fun k => k = b2) w7).drew.trans ho2 (fun _ _ h => h)⟩
        case rest =>
        obtain ⟨k4, o8⟩ := hcut
        have o8H : Only H w5 wc := o7H.trans o8 (fun k _ e => by subst e; exact f3)
        have g8 : GhostAt wc g X X X dirty es.length op H := ⟨⟨b0, b1, b2, b3, i1.keep o8 m4, i2.keep o8 n2, i3.keep o8 n3, k4, i5.keep o8 m54, n1, n2, n3, f0, f1, f2, f3, f4⟩, unhide lX, unhide lX, unhide lX, l3, fun k hk => Nat.lt_of_lt_of_le (hi k hk) o8H.size⟩
        have C7 := hide (shut_any g X X X dirty es.length op H wc g8)
        clear q0 q2 i1 i2 i3 i4 i5 e1 e2 e3 e4 e5 h1 h2 h3 h4 h5 k4 g8 o8 o7 o6 o6H o7H
        go_wp2_with fail
        refine (unhide C7).mono ?_
        rintro e w9 ⟨rfl, g9, ho9⟩
        have o9H : Only H w5 w9 := o8H.trans ho9 (fun _ _ h => h)
        have C8 := hide (told_any l' d' false [] G4 g X X X (nots 80) H w9 (unhide HoldG w9 o9H) g9 ⟨by simp, fun b hb => by rw [nots_getD]; rfl⟩)
        have C9 := hide (steps_any _ _ _ _ _ w9 (unhide HoldF w9 o9H))
        have cv9 := (unhide HoldV w9 o9H).cell 0
        have hrr : (((recRecs D0).length : Int) != ((recRecs D0).length : Int)) = false := by simp
        go_wp2_with fail
        refine (unhide C8).mono ?_
        rintro e w10 ⟨rfl, rfl⟩
        go_wp2_with fail
        refine (unhide C9).mono ?_
        rintro e w10 ⟨rfl, ho10⟩
        go_wp2_with fail
        go_roundw
        case rel => exact ⟨k + 1, l', by omega, by go_num, rfl, unhide Fin X w9 w10 (unhide lX) (unhide HX) o9H g9 ho10⟩
        case measure => simp [intOf]; omega
      · have hcb : (ok != 10) = true := by simpa using hten
        have C1 := hide (mark_any d blk base recs F _ jo.dk)
        go_wp2_with fail
        refine (unhide C1).mono ?_
        rintro e wm ⟨rfl, hdm, hom⟩
        have sm := hom.size
        simp only [World.size_alloc] at sm
        have hlm := jo.lg.keep hom (fun k hk hf => j0.FG k hf hk)
        have hgm := jo.gh.keep hom (fun k hk hf => j0.FH k hf hk)
        have kvm := kvo.keep hom (fun hf => (hFB _ hf).2 rfl)
        have kom := ko.keep hom (fun hf => by have := j0.dk.inn _ hf; omega)
        obtain ⟨⟨b0, b1, b2, b3, h1, h2, h3, h4, h5, n1, n2, n3, f0, f1, f2, f3, f4⟩, l0, l1, l2, l3, hi⟩ := hide hgm
        have q0 := h1.cell 0
        have q1 := h1.cell 1
        have m3 := h1.ne h3 (by decide)
        have m5 := h5.ne h3 (by decide)
        go_wp2_with fail
        go_cut [] (fun wx => Has wx b1 (strs com) 60 ∧ Only (fun k => k = b1) wm wx)
        case first =>
          go_region_with (go_at_call 15; refine (lay_any b1 b0 was com _ ?_ ?_ n1.symm l1 l0).mono ?_; exact h3.drew; exact h2.drew; rintro e w2 ⟨rfl, hb2, ho2⟩)
          all_goals
            go_wp2_with fail
            go_meet
            exact ⟨hb2, (Only.refl (fun k => k = b1) wm).drew.trans ho2 (fun _ _ h => h)⟩
        case rest =>
          obtain ⟨hb1, hol⟩ := hcut
          have holH : Only H wm wc := hol.mono (fun k _ e => by subst e; exact f2)
          have hFm : ∀ k, Ext F (wr.alloc (.cells #[.int .i64 ok, .int .i64 oa, .int .i64 ob, .int .i64 oc, .string os, .string ot] 37)) wm k → ¬ H k := Ext.off jo.FH jo.gh.inn
          have hFg : ∀ k, Ext F (wr.alloc (.cells #[.int .i64 ok, .int .i64 oa, .int .i64 ob, .int .i64 oc, .string os, .string ot] 37)) wm k → ¬ G k := Ext.off jo.FG jo.lg.inn
          have hFB2 : ∀ k, Ext F (wr.alloc (.cells #[.int .i64 ok, .int .i64 oa, .int .i64 ob, .int .i64 oc, .string os, .string ot] 37)) wm k → w.heap.size ≤ k ∧ k ≠ vb := by
            intro k hk; rcases hk with hk | hk
            · exact hFB k hk
            · simp at hk; omega
          have hFo : ∀ k, Ext F (wr.alloc (.cells #[.int .i64 ok, .int .i64 oa, .int .i64 ob, .int .i64 oc, .string os, .string ot] 37)) wm k → k ≠ wr.heap.size := by
            intro k hk e; rcases hk with hk | hk
            · have := j0.dk.inn k hk; omega
            · simp at hk; omega
          have hGo : ∀ k, G k → k ≠ wr.heap.size := fun k hk e => by have := j0.lg.inn k hk; omega
          have hHo : ∀ k, H k → k ≠ wr.heap.size := fun k hk e => by have := j0.gh.inn k hk; omega
          have Hinv := hide j0.inv
          generalize Ext F (wr.alloc (.cells #[.int .i64 ok, .int .i64 oa, .int .i64 ob, .int .i64 oc, .string os, .string ot] 37)) wm = F1 at hdm hFm hFg hFB2 hFo
          have g2 : GhostAt wc g com com cur dirty es.length op H := ⟨⟨b0, b1, b2, b3, h1.keep hol m3, h2.keep hol n1, hb1, h4.keep hol n3.symm, h5.keep hol m5, n1, n2, n3, f0, f1, f2, f3, f4⟩, l0, l0, l2, l3, fun k hk => Nat.lt_of_lt_of_le (hi k hk) hol.size⟩
          have jc : Joint wc l d g blk blk [] op es com com cur dirty F1 G H := ⟨hdm.keep holH (fun k hk hh => hFm k hk hh), hlm.keep holH (fun k hk hh => j0.GH k hk hh), g2, j0.inv, hFg, hFm, j0.GH⟩
          have kvc := kvm.keep holH (fun hh => (hHB _ hh).2 rfl)
          have koc := kom.keep holH (fun hh => by have := j0.gh.inn _ hh; omega)
          have bc : Below w.heap.size w wc := Only.bel (Only.bel (Only.bel hbel oo (fun _ h => h.elim)) hom (fun k hk => (hFB k hk).1)) holH (fun k hk => (hHB k hk).1)
          have sc := hol.size
          have C2 := hide (keepStep_any ok oa ob oc os ot hsz jc (by simp))
          clear g2 hb1 holH hol h1 h2 h3 h4 h5 q0 q1 m3 m5 hlm hgm kvm kom hdm hom C1 jo ko oo cvo kvo kv j0 hcu
          have kc := koc.cell 0
          have kc1 := koc.cell 1
          have kc2 := koc.cell 2
          have kc3 := koc.cell 3
          have kc4 := koc.cell 4
          have kc5 := koc.cell 5
          go_wp2_with fail
          refine (unhide C2).mono ?_
          rintro e w3 ⟨rfl, blk', recs', op', es', com', cur', dirty', j3, ho3, hwhat⟩
          have kv3 := kvc.keep ho3 (by rintro (h | h | h); exact (hFB2 _ h).2 rfl; exact (hGB _ h).2 rfl; exact (hHB _ h).2 rfl)
          have ko3 := koc.keep ho3 (by rintro (h | h | h); exact hFo _ h rfl; exact hGo _ h rfl; exact hHo _ h rfl)
          have b3' : Below w.heap.size w w3 := Only.bel bc ho3 (by rintro k (h | h | h); exact (hFB2 _ h).1; exact (hGB _ h).1; exact (hHB _ h).1)
          have s3 := ho3.size
          have hcut3 : CutInv blk recs' com com' := by
            rcases hwhat with ⟨rfl, rfl, rfl⟩ | ⟨_, rfl, rfl, rfl, rfl⟩
            · exact j3.inv.still
            · exact (unhide Hinv).committed
          have hrec : ok ≠ 4 → recs' = [] := by
            intro h; rcases hwhat with ⟨_, rfl, _⟩ | ⟨h', _⟩
            · rfl
            · exact absurd h' h
          have hFB3 : ∀ k, Ext F1 wc w3 k → w.heap.size ≤ k ∧ k ≠ vb := by
            intro k hk; rcases hk with hk | hk
            · exact hFB2 k hk
            · omega
          have fin : ∀ w5, Only (fun _ => False) w3 w5 → LI w vb g H l w5 := fun w5 ho5 =>
            ⟨⟨d, _, G, blk', blk, recs', op', es', com', com, cur', dirty', j3.keep ho5, hcut3, kv3.keep ho5 (fun h => h), hFB3, hGB⟩, hHB, Only.bel b3' ho5 (fun _ h => h.elim), hvb⟩
          have Fin := hide fin
          have cv3 := kv3.cell 0
          have co3 := ko3.cell 0
          have Hrec := hide hrec
          clear hwhat hrec fin hFB3 hcut3 C2 kvc koc bc jc Hinv hFo hGo hHo hFB2 kc kc1 kc2 kc3 kc4 kc5 y0 y1 y2 y3 y4 y5
          by_cases h4 : ok = 4
          · have h4b : (ok != 4) = false := by simpa using h4
            have Hten := hide hten
            have H4 := hide h4
            clear hten h4
            have C5 := hide (held_any _ _ _ _ _ _ _ _ _ _ _ _ _ _ _ w3 j3.lg j3.dk j3.gh j3.inv.tells j3.inv.curs)
            go_wp2_with fail
            refine (unhide C5).mono ?_
            rintro e w5 ⟨rfl, ho5⟩
            go_wp2_with fail
            go_roundw
            case rel => exact ⟨k + 1, l, by omega, by go_num, rfl, unhide Fin w5 ho5⟩
            case measure => simp [intOf]; omega
          · have h4b : (ok != 4) = true := by simpa using h4
            have hr0 := unhide Hrec h4
            have C4 := steps_any _ _ _ _ _ w3 j3.dk
            rw [hr0] at C4
            have C4 := hide C4
            have Hten := hide hten
            have H4 := hide h4
            clear hten h4 hr0
            go_wp2_with fail
            refine (unhide C4).mono ?_
            rintro e w4 ⟨rfl, ho4⟩
            have j4 := j3.keep ho4
            have cv4 := (kv3.keep ho4 (fun h => h)).cell 0
            have C5 := hide (held_any _ _ _ _ _ _ _ _ _ _ _ _ _ _ _ w4 j4.lg j4.dk j4.gh j3.inv.tells j3.inv.curs)
            go_wp2_with fail
            refine (unhide C5).mono ?_
            rintro e w5 ⟨rfl, ho5⟩
            go_wp2_with fail
            go_roundw
            case rel => exact ⟨k + 1, l, by omega, by go_num, rfl, unhide Fin w5 (ho4.trans ho5 (fun _ _ h => h))⟩
            case measure => simp [intOf]; omega
    · have hkI : decide ((k : Int) < (len : Int)) = false := by simp; omega
      go_wp2_with fail
      go_ret
      exact ⟨rfl, hli.bel⟩

theorem keeps_any (ad : Option Addr) (len cap : Nat) (ops : List OpD) (w : World) (hops : OpsAt w ad len ops) (hlen : len ≤ 4398046511104) :
    Calls Try.prog 3 #[.slice ad len cap] w fun e w' => e = .returned (.bool true) ∧ Below w.heap.size w w' := by
  go_enter Try.func3, Try.ntmps3
  go_wp2_with fail
  refine (keepsUpTo_any ad len cap ops _ hops hlen).mono ?_
  rintro e w' ⟨rfl, hb⟩
  go_wp2_with fail
  go_ret
  exact ⟨rfl, hb⟩

end Go.Proofs.Qxb6500415a
