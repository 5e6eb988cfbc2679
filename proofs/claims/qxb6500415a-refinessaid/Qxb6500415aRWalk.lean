/-
  OWN WORK. THE REFINEMENT WALK.
-/
import Derived.Test.Qxb6500415aRWalk0
namespace Go.Proofs.Qxb6500415a
open Go.RowKit
set_option linter.unusedSimpArgs false
set_option linter.unusedVariables false

set_option maxRecDepth 100000 in
set_option maxHeartbeats 8000000 in
theorem walk_any (ad : Option Addr) (len cap : Nat) (ops : List OpD) (steady quiet : Bool) (w : World) (hops : OpsAt w ad len ops) (hlen : len ≤ 4398046511104) :
    Calls Try.prog 9 #[.slice ad len cap, .bool steady, .bool quiet] w fun e w' => (∃ v, e = .returned (.tuple #[.int .i64 (-1), v])) ∧ Below w.heap.size w w' := by
  go_enter Try.func9, Try.ntmps9
  go_wp2_with fail
  refine (ground_any _).mono ?_
  rintro e w1 ⟨rfl, hd1, ho1⟩
  have s1 := ho1.size
  go_wp2_with fail
  have o2 : Only (fun _ => False) w1 (w1.alloc (.cells #[.pointer (some ⟨w.heap.size + 1, 0, none⟩)] 29)) := (Only.refl _ w1).alloc _
  have hd2 := hd1.keep o2 (fun _ _ h => h)
  have kv := Has.new w1 #[.pointer (some ⟨w.heap.size + 1, 0, none⟩)] 29
  refine (wnew_any (w.heap.size + 1) _).mono ?_
  rintro e w3 ⟨rfl, hl3, ho3⟩
  simp only [World.size_alloc] at hl3
  have s3 := ho3.size
  simp only [World.size_alloc] at s3
  have hd3 := hd2.keep ho3 (fun _ _ h => h)
  have kv3 := kv.keep ho3 (fun h => h)
  go_wp2_with fail
  refine (mnew_any _).mono ?_
  rintro e w4 ⟨m0, rfl, hm4, ho4⟩
  have s4 := ho4.size
  have hd4 := hd3.keep ho4 (fun _ _ h => h)
  have hl4 := hl3.keep ho4 (fun _ _ h => h)
  have kv4 := kv3.keep ho4 (fun h => h)
  have C5 := hide (mclone_any hm4)
  go_wp2_with fail
  refine (unhide C5).mono ?_
  rintro e w5 ⟨rfl, hb5, ho5⟩
  have s5 := ho5.size
  have hinv := inv_zero
  have j5 : JM w5 (w1.heap.size + 1) (w.heap.size + 1) m0 (zeros 153) (zeros 153) [] false [] (zeros 80) (zeros 80) (nots 80) (zeros 80) none (Ext (fun _ => False) w w1) (Ext (fun _ => False) (w1.alloc (.cells #[.pointer (some ⟨w.heap.size + 1, 0, none⟩)] 29)) w3) (Ext (fun _ => False) w3 w4) := by
    refine ⟨hd4.keep ho5 (fun _ _ h => h), hl4.keep ho5 (fun _ _ h => h), hm4.keep ho5 (fun _ _ h => h), hinv, ?_, ?_, ?_⟩
    · intro k hk hh; rcases hk with hk | hk <;> rcases hh with hh | hh <;> first | exact hk | exact hh | (simp at hh; omega)
    · intro k hk hh; rcases hk with hk | hk <;> rcases hh with hh | hh <;> first | exact hk | exact hh | omega
    · intro k hk hh; rcases hk with hk | hk <;> rcases hh with hh | hh <;> first | exact hk | exact hh | omega
  have kv5 := kv4.keep ho5 (fun h => h)
  have cv5 := kv5.cell 0
  have hRI5 : RI w w1.heap.size (w1.heap.size + 1) m0 w4.heap.size w5 := by
    refine ⟨⟨_, _, _, _, _, _, _, _, _, _, _, _, _, _, _, _, _, _, _, _, j5, hb5, .inl ⟨rfl, rfl⟩, hinv.still, kv5, ?_⟩, ?_, s1⟩
    · rintro k (hk | hk | hk | hk) <;> rcases hk with hk | hk
      · exact hk.elim
      · omega
      · exact hk.elim
      · simp at hk; omega
      · exact hk.elim
      · omega
      · exact hk.elim
      · omega
    · exact Only.bel (Below.refl _ _) (((((ho1.trans o2 (fun _ _ h => h)).trans ho3 (fun _ _ h => h)).trans ho4 (fun _ _ h => h)).trans ho5 (fun _ _ h => h))) (fun _ h => h.elim)
  have C6 := hide (steps_any _ _ _ _ _ w5 j5.dk)
  go_wp2_with fail
  refine (unhide C6).mono ?_
  rintro e w6 ⟨rfl, ho6⟩
  have j6 := j5.keep ho6
  have kv6 := kv5.keep ho6 (fun h => h)
  have cv6 := kv6.cell 0
  have hRI6 := hRI5.keep ho6
  clear hRI5 j5 kv5 cv5 C6 C5 hd4 hl4 kv4 hb5 hm4 hd3 kv3 hd2 kv hl3 o2 ho1 ho3 ho4 ho5 ho6 s3 s4 s5 hd1
  generalize w4.heap.size = mb0 at hRI6 ⊢
  go_upto_if 37 with fail
  go_cut [] (fun wx => RI w w1.heap.size (w1.heap.size + 1) m0 mb0 wx)
  case first =>
    cases quiet with
    | true =>
      refine wp_cond_false rfl ?_
      go_wp2_with fail
      go_meet
      exact hRI6
    | false =>
      refine wp_cond_true rfl ?_
      have C7 := hide (wcheck_any _ _ _ _ _ _ _ _ _ w6 j6.lg j6.dk j6.inv.sz j6.inv.zero j6.inv.good)
      go_wp2_with fail
      refine (unhide C7).mono ?_
      rintro e w7 ⟨rfl, ho7⟩
      have j7 := j6.keep ho7
      have cv7 := (kv6.keep ho7 (fun h => h)).cell 0
      have C8 := hide (alike_true j7)
      go_wp2_with fail
      refine (unhide C8).mono ?_
      rintro e w8 ⟨rfl, rfl⟩
      have C9 := hide (steps_any _ _ _ _ _ w7 j7.dk)
      go_wp2_with fail
      refine (unhide C9).mono ?_
      rintro e w9 ⟨rfl, ho9⟩
      go_wp2_with fail
      go_meet
      exact (hRI6.keep ho7).keep ho9
  case rest =>
  have hRI := hcut
  clear hcut hRI6 j6 kv6 cv6 hinv
  generalize hl0 : w1.heap.size + 1 = l0 at hRI ⊢
  generalize w1.heap.size = vb at hRI ⊢
  clear hl0
  go_wp2_with fail
  go_loopw [9, 10, 11, 13] (fun x mv bv i wr => ∃ k l m mb : Nat, k ≤ len ∧ i = .int .i64 k ∧ x = .pointer (some ⟨l, 0, none⟩) ∧ mv = .pointer (some ⟨m, 0, none⟩) ∧ bv = .pointer (some ⟨mb, 0, none⟩) ∧ RI w vb l m mb wr) (fun _ _ _ i _ => len - (intOf i).toNat)
  case atStart => exact ⟨0, l0, m0, mb0, Nat.zero_le _, rfl, rfl, rfl, rfl, hRI⟩
  case round =>
    clear hRI
    obtain ⟨k, l, m, mb, hk, rfl, rfl, rfl, rfl, hri⟩ := hrel
    by_cases hkl : k < len
    · obtain ⟨hol, hoa⟩ := hops
      obtain ⟨ab, aoff, rfl, hcells⟩ := hoa (by omega)
      obtain ⟨y0, y1, y2, y3, y4, y5, hsz⟩ := hcells k (by omega)
      clear hcells hoa
      have hbel := hri.bel
      have hab : ab < w.heap.size := World.block_lt_of_cell? w ⟨ab, aoff + k * 6, none⟩ y0
      rw [← hbel.cell (p := ⟨ab, aoff + k * 6, none⟩) hab] at y0
      rw [← hbel.cell (p := ⟨ab, aoff + k * 6 + 1, none⟩) hab] at y1
      rw [← hbel.cell (p := ⟨ab, aoff + k * 6 + 2, none⟩) hab] at y2
      rw [← hbel.cell (p := ⟨ab, aoff + k * 6 + 3, none⟩) hab] at y3
      rw [← hbel.cell (p := ⟨ab, aoff + k * 6 + 4, none⟩) hab] at y4
      rw [← hbel.cell (p := ⟨ab, aoff + k * 6 + 5, none⟩) hab] at y5
      generalize ops[k]'(by omega) = o at *
      obtain ⟨ok, oa, ob, oc, os, ot⟩ := o
      simp only at y0 y1 y2 y3 y4 y5 hsz
      have hkI : (k : Int) < (len : Int) := by omega
      have hkM : decide ((k : Int) < 4398046511104) = true := by simp; omega
      have hvb := hri.vb
      have oo : Only (fun _ => False) wr (wr.alloc (.cells #[.int .i64 ok, .int .i64 oa, .int .i64 ob, .int .i64 oc, .string os, .string ot] 37)) := (Only.refl _ wr).alloc _
      have ko := Has.new wr #[.int .i64 ok, .int .i64 oa, .int .i64 ob, .int .i64 oc, .string os, .string ot] 37
      by_cases hten : ok = 10
      · subst hten
        cases steady with
        | true =>
          go_wp2_with fail
          go_roundw
          case rel => exact ⟨k + 1, l, m, mb, by omega, by go_num, rfl, rfl, rfl, hri.keep oo⟩
          case measure => simp [intOf]; omega
        | false =>
          as_aux_lemma =>
          obtain ⟨⟨d, F, G, H, B, blk, base, recs, op, es, com, was, cur, dirty, mbase, hist, bcur, bdirty, bn, bop, j0, hb0, hh0, hcu, kv, hrg⟩, _, _⟩ := hri
          have hvl := kv.lt
          have kvo := kv.alloc (.cells #[.int .i64 10, .int .i64 oa, .int .i64 ob, .int .i64 oc, .string os, .string ot] 37)
          have cvo := kvo.cell 0
          have jo := j0.keep oo
          have hl146 := hcu.short
          have C1 := hide (steps_any d blk base recs F _ jo.dk)
          have Hh0 := hide hh0
          clear hh0
          go_wp2_with fail
          refine (unhide C1).mono ?_
          rintro e w1 ⟨rfl, ho1⟩
          have s1 := ho1.size
          simp only [World.size_alloc] at s1
          have sb := hbel.size
          have kv1 := kvo.keep ho1 (fun h => h)
          have ko1 := ko.keep ho1 (fun h => h)
          have o2 : Only (fun _ => False) w1 (w1.alloc (.cells #[.pointer (some ⟨d, 0, none⟩)] 29)) := (Only.refl _ w1).alloc _
          have o12 := (oo.trans ho1 (fun _ _ h => h)).trans o2 (fun _ _ h => h)
          have ck : CK vb (w1.heap.size + 1) d blk base recs F m com cur dirty es.length op mbase hist H mb was bcur bdirty bn bop B w1.heap.size wr.heap.size #[.int .i64 10, .int .i64 oa, .int .i64 ob, .int .i64 oc, .string os, .string ot] w (w1.alloc (.cells #[.pointer (some ⟨d, 0, none⟩)] 29)) := by
            refine ⟨j0.dk.keep o12 (fun _ _ h => h), j0.md.keep o12 (fun _ _ h => h), hb0.keep o12 (fun _ _ h => h), Has.new _ _ _, ko1.alloc _, ?_, Only.bel hbel o12 (fun _ h => h.elim), ⟨by omega, hvb⟩, by simp⟩
            rintro k (hk | hk | hk | hk | hk)
            · have := j0.dk.inn k hk; have := hrg k (.inl hk); omega
            · have := j0.md.inn k hk; have := hrg k (.inr (.inr (.inl hk))); omega
            · have := hb0.inn k hk; have := hrg k (.inr (.inr (.inr hk))); omega
            · omega
            · omega
          have cv1 := kv1.cell 0
          have kva := kv1.alloc (.cells #[.pointer (some ⟨d, 0, none⟩)] 29)
          have cb := ck.kb.cell 0
          have co := ck.kop.cell 1
          have C2 := hide (after_any d blk base recs F oa _ ck.dk hcu.keys (by omega))
          clear C1 y0 y1 y2 y3 y4 y5 jo ko oo cvo kvo kv j0 hb0 ko1 hbel hrg o12 ho1
          go_wp2_with fail
          generalize hwa : w1.alloc (.cells #[.pointer (some ⟨d, 0, none⟩)] 29) = wa at *
          have hsa : wa.heap.size = w1.heap.size + 1 := by rw [← hwa]; simp
          clear hwa o2
          refine (unhide C2).mono ?_
          rintro e w2 ⟨d1, rfl, hd2, ho2⟩
          have s2 := ho2.size
          have ck2 := ck.quiet ho2
          have kv2 := kva.keep ho2 (fun h => h)
          have cv2 := kv2.cell 0
          have zv2 := kv2.free 0
          have o3 : Only (fun k => k = vb) w2 (w2.setCell ⟨vb, 0, none⟩ (.pointer (some ⟨d1, 0, none⟩))) := (Only.refl (fun k => k = vb) w2).setCell (p := ⟨vb, 0, none⟩) (fun _ => rfl) _
          have ck3 := ck2.keep o3 (fun k e => .inr e)
          have hd3 := hd2.keep o3 (fun k hk e => by subst e; rcases hk with hk | hk; exact hk; omega)
          have kv3 : Has (w2.setCell ⟨vb, 0, none⟩ (.pointer (some ⟨d1, 0, none⟩))) vb #[.pointer (some ⟨d1, 0, none⟩)] 29 := by simpa using kv2.setCell 0 (.pointer (some ⟨d1, 0, none⟩))
          have hF3 : ∀ k, Ext (fun _ => False) wa w2 k → w1.heap.size + 1 ≤ k := Ext.le (fun _ h => h.elim) (by omega)
          generalize hD0 : replay base (recs.take oa.toNat) = D0 at *
          have hDl : D0.length = 153 := by rw [← hD0]; exact hcu.image_len _
          have hDs : ∀ x ∈ D0, x.size = 128 := by rw [← hD0]; exact hcu.image_sz _
          have C3 := hide (wopen_any d1 D0 D0 [] _ _ hd3 hDs (by simp))
          have cv3 := kv3.cell 0
          have HD0 := hide hD0
          have Hcu := hide hcu
          have s3 : (w2.setCell ⟨vb, 0, none⟩ (.pointer (some ⟨d1, 0, none⟩))).heap.size = w2.heap.size := by simp
          clear hD0 C2 hd2 kv1 kva cb co cv1 hcu ck kv2
          go_wp2_with fail
          generalize hw3 : w2.setCell ⟨vb, 0, none⟩ (.pointer (some ⟨d1, 0, none⟩)) = w3 at *
          clear hw3 o3 cv2 zv2 ho2
          refine (unhide C3).mono ?_
          rintro e w4 ⟨l1, F4, G4, rfl, hd4, hl4, ho4, hF4, hG4, hFG4⟩
          as_aux_lemma =>
          have s4 := ho4.size
          have ck4 := ck3.keep ho4 (fun k hk => .inl (hF3 k hk))
          have kv4 := kv3.keep ho4 (fun hh => by have := hF3 _ hh; omega)
          rw [List.nil_append] at hd4
          have hrv : replay D0 (recRecs D0) = recov D0 := rfl
          rw [hrv] at hd4
          have cn4 : CN vb (w1.heap.size + 1) w4.heap.size d1 l1 D0 F4 G4 w4 := by
            refine ⟨hd4, hl4, kv4, hFG4, ?_, by omega, Nat.le_refl _⟩
            rintro k (hk | hk)
            · have := hd4.inn k hk
              have : w1.heap.size + 1 ≤ k := Ext.le hF3 (by omega) k (hF4 k hk)
              omega
            · have := hl4.inn k hk; have := hG4 k hk; omega
          have C4 := hide (steps_any _ _ _ _ _ w4 cn4.dk)
          have cv4 := kv4.cell 0
          have hsz0 : ∀ b, b < 80 → (shown (recov D0) [] b).size = 128 := by
            intro b hb
            rw [shown_nil]
            have hlt : 73 + b < (recov D0).length := by rw [recov_length]; omega
            rw [List.getD_eq_getElem?_getD, List.getElem?_eq_getElem hlt]
            show ((recov D0)[73 + b]).size = 128
            exact recov_sizes D0 hDl hDs _ (List.getElem_mem hlt)
          have Hsz0 := hide hsz0
          have htl0 : Tells (nots 80) [] := ⟨by simp, fun b hb => by rw [nots_getD]; rfl⟩
          have Htl0 := hide htl0
          clear C3 hd3 kv3 cv3 hrv hd4 hl4 ck2 ck3 hF4 hG4 hFG4 ho4 hsz0 htl0 hF3 kv4
          go_wp2_with fail
          refine (unhide C4).mono ?_
          rintro e w5 ⟨rfl, ho5⟩
          have ck5 := ck4.quiet ho5
          have cn5 := cn4.quiet ho5
          have cv5 := cn5.kv.cell 0
          have C5 := after_any d1 (recov D0) D0 (recRecs D0) F4 0 w5 cn5.dk (recRecs_in D0) (Nat.le_trans (recRecs_length D0) (by omega))
          have e0 : replay D0 ((recRecs D0).take (0 : Int).toNat) = D0 := rfl
          rw [e0] at C5
          have C5 := hide C5
          clear C4 cv4 e0
          go_wp2_with fail
          refine (unhide C5).mono ?_
          rintro e w6 ⟨d2, rfl, hd6, ho6⟩
          have o7 : Only (fun _ => False) w6 (w6.alloc (.cells #[.pointer (some ⟨d2, 0, none⟩)] 29)) := (Only.refl _ w6).alloc _
          have ck7 := (ck5.quiet ho6).quiet o7
          have cn7 := (cn5.quiet ho6).quiet o7
          have hd7 := hd6.keep o7 (fun _ _ h => h)
          have ki7 := Has.new w6 #[.pointer (some ⟨d2, 0, none⟩)] 29
          have cb7 := ck7.kb.cell 0
          have co7 := ck7.kop.cell 1
          have C6 := after_any d blk base recs F oa _ ck7.dk (unhide Hcu).keys (by omega)
          rw [unhide HD0] at C6
          have C6 := hide C6
          clear C5 cv5 ck5 cn5 ck4 cn4 hd6
          go_wp2_with fail
          generalize hw7 : w6.alloc (.cells #[.pointer (some ⟨d2, 0, none⟩)] 29) = w7 at *
          generalize w6.heap.size = i7 at *
          refine (unhide C6).mono ?_
          rintro e w8 ⟨d3, rfl, hd8, ho8⟩
          as_aux_lemma =>
          have o9 : Only (fun _ => False) w8 (w8.alloc (.cells #[.pointer (some ⟨d3, 0, none⟩)] 29)) := (Only.refl _ w8).alloc _
          have ck9 := (ck7.quiet ho8).quiet o9
          have cn9 := (cn7.quiet ho8).quiet o9
          have C7 := hide (same_any ((hd7.keep ho8 (fun _ _ h => h)).keep o9 (fun _ _ h => h)) (hd8.keep o9 (fun _ _ h => h)))
          have ci9 := ((ki7.keep ho8 (fun h => h)).alloc (.cells #[.pointer (some ⟨d3, 0, none⟩)] 29)).cell 0
          have cj9 := (Has.new w8 #[.pointer (some ⟨d3, 0, none⟩)] 29).cell 0
          clear C6 hw7 o7 cb7 co7 hd7 hd8 ki7 ck7 cn7
          go_wp2_with fail
          refine (unhide C7).mono ?_
          rintro e w10 ⟨rfl, ho10⟩
          have ck10 := ck9.quiet ho10
          have cn10 := cn9.quiet ho10
          have C8 := hide (wcheck_any _ _ _ _ _ _ _ _ _ w10 cn10.lg cn10.dk (recov_sizes D0 hDl hDs) (recov_zero D0) ⟨fun _ => rfl, fun e he => by simp at he, fun e he => by simp at he, by simp⟩)
          clear C7 ci9 cj9 ck9 cn9 ho8 o9
          go_wp2_with fail
          refine (unhide C8).mono ?_
          rintro e w11 ⟨rfl, ho11⟩
          have ck11 := ck10.quiet ho11
          have cn11 := cn10.quiet ho11
          have C9 := hide (mcrashed_none ck11.mbk)
          clear C8 ck10 cn10 ho10
          go_wp2_with fail
          refine (unhide C9).mono ?_
          rintro e w12 ⟨rfl, hm12, ho12⟩
          as_aux_lemma =>
          have ck12 := ck11.quiet ho12
          have cn12 := cn11.quiet ho12
          have lwas := ck12.mbk.l0
          have lcom := ck12.md.l0
          have hei : Shows (recov D0) was ∨ Shows (recov D0) com := by have := (unhide Hcu).either oa.toNat; rw [unhide HD0] at this; exact this
          have hft : oa ≤ 0 → Shows (recov D0) was := fun h => by
            have e0 : oa.toNat = 0 := by omega
            have := (unhide Hcu).foot; rw [← e0, unhide HD0] at this; exact this
          have hwk : (recs.length : Int) ≤ oa → Shows (recov D0) com := fun h => by
            have := (unhide Hcu).work oa.toNat (by omega); rw [unhide HD0] at this; exact this
          obtain ⟨nB, hnB⟩ : ∃ b, gotB (recov D0) [] was = b := ⟨_, rfl⟩
          obtain ⟨aB, haB⟩ : ∃ b, gotB (recov D0) [] com = b := ⟨_, rfl⟩
          have hna : nB = true ∨ aB = true := by
            rcases hei with h | h
            · left; rw [← hnB]; exact (gotB_shows _ _).2 h
            · right; rw [← haB]; exact (gotB_shows _ _).2 h
          have hn0 : oa ≤ 0 → nB = true := fun h => by rw [← hnB]; exact (gotB_shows _ _).2 (hft h)
          have ha0 : (recs.length : Int) ≤ oa → aB = true := fun h => by rw [← haB]; exact (gotB_shows _ _).2 (hwk h)
          have C10 := alike_any cn12.lg cn12.dk hm12 (unhide Htl0) (unhide Hsz0)
          rw [hnB] at C10
          have C10 := hide C10
          have C11 := hide (mcrashed_com ck12.md (unhide Hh0))
          have Hna := hide hna
          have Hn0 := hide hn0
          have Ha0 := hide ha0
          have HnB := hide hnB
          have HaB := hide haB
          clear C9 ck11 cn11 ho11 hm12 hei hft hwk hna hn0 ha0 hnB haB
          go_wp2_with fail
          refine (unhide C10).mono ?_
          rintro e w13 ⟨rfl, rfl⟩
          go_wp2_with fail
          refine (unhide C11).mono ?_
          rintro e w13 ⟨rfl, hm13, ho13⟩
          have ck13 := ck12.quiet ho13
          have cn13 := cn12.quiet ho13
          have C12 := alike_any cn13.lg cn13.dk hm13 (unhide Htl0) (unhide Hsz0)
          rw [unhide HaB] at C12
          have C12 := hide C12
          have cv13 := cn13.kv.cell 0
          have C13 := hide (steps_any _ _ _ _ _ w13 cn13.dk)
          have hrl : (((recRecs D0).length : Int) != ((recRecs D0).length : Int)) = false := by simp
          clear C10 C11 ck12 cn12 ho12 hm13
          go_wp2_with fail
          refine (unhide C12).mono ?_
          rintro e w14 ⟨rfl, rfl⟩
          go_wp2_with fail
          refine (unhide C13).mono ?_
          rintro e w14 ⟨rfl, ho14⟩
          have ck14 := ck13.quiet ho14
          have cn14 := cn13.quiet ho14
          have co14 := ck14.kop.cell 1
          clear C12 C13 ck13 cn13 cv13 ho13
          as_aux_lemma =>
          go_upto_region 51 with fail
          go_cut [162] (fun v wx => v = .bool false ∧ w14 = wx)
          case first =>
            rcases unhide Hna with h | h
            · subst h
              go_wp2_with fail
              go_meet
              exact ⟨rfl, rfl⟩
            · subst h
              cases nB
              · go_wp2_with fail
                go_meet
                exact ⟨rfl, rfl⟩
              · go_wp2_with fail
                go_meet
                exact ⟨rfl, rfl⟩
          case rest =>
          obtain ⟨rfl, rfl⟩ := hcut
          go_upto_region 53 with fail
          go_cut [171] (fun v wx => v = .bool false ∧ w14 = wx)
          case first =>
            by_cases h0 : oa ≤ 0
            · have h0b := unhide Hn0 h0
              subst h0b
              go_wp2_with fail
              go_meet
              exact ⟨rfl, rfl⟩
            · have h0b : decide (oa ≤ 0) = false := by simpa using h0
              go_wp2_with fail
              go_meet
              exact ⟨rfl, rfl⟩
          case rest =>
          obtain ⟨rfl, rfl⟩ := hcut
          go_upto_region 55 with fail
          go_cut [181] (fun v wx => v = .bool false ∧ w14 = wx)
          case first =>
            by_cases h0 : (recs.length : Int) ≤ oa
            · have h0b := unhide Ha0 h0
              subst h0b
              go_wp2_with fail
              go_meet
              exact ⟨rfl, rfl⟩
            · have h0b : decide ((recs.length : Int) ≤ oa) = false := by simpa using h0
              go_wp2_with fail
              go_meet
              exact ⟨rfl, rfl⟩
          case rest =>
          obtain ⟨rfl, rfl⟩ := hcut
          as_aux_lemma =>
          go_upto_region 57 with fail
          go_upto_if 184 with fail
          go_cut [10] (fun v wx => ∃ X mX Hx, v = .pointer (some ⟨mX, 0, none⟩) ∧ Hid (X.length = 80) ∧ Hid (Shows (recov D0) X) ∧ MLogAt wx mX X X (nots 80) 0 false X none Hx ∧ Hid (∀ k, Hx k → w14.heap.size ≤ k) ∧ Only (fun _ => False) w14 wx)
          case first =>
            cases aB with
            | true =>
              refine wp_cond_true rfl ?_
              have C14 := hide (mcrashed_com ck14.md (unhide Hh0))
              go_wp2_with fail
              refine (unhide C14).mono ?_
              rintro e w15 ⟨rfl, hm15, ho15⟩
              go_wp2_with fail
              go_meet
              exact ⟨com, _, _, rfl, lcom, (gotB_shows _ _).1 (unhide HaB), hm15, Ext.le (fun _ h => h.elim) (Nat.le_refl _), ho15⟩
            | false =>
              refine wp_cond_false rfl ?_
              have hnt : nB = true := (unhide Hna).resolve_right (by simp)
              have hX : Shows (recov D0) was := (gotB_shows _ _).1 ((unhide HnB).trans hnt)
              have HX := hide hX
              clear hX hnt
              have C14 := hide (mcrashed_none ck14.mbk)
              go_wp2_with fail
              refine (unhide C14).mono ?_
              rintro e w15 ⟨rfl, hm15, ho15⟩
              go_wp2_with fail
              go_meet
              exact ⟨was, _, _, rfl, lwas, unhide HX, hm15, Ext.le (fun _ h => h.elim) (Nat.le_refl _), ho15⟩
          case rest =>
          obtain ⟨X, mX, Hx, rfl, lX, HX, hm15, hHx, ho15⟩ := hcut
          have s15 := ho15.size
          have ck15 := ck14.quiet ho15
          have cn15 := cn14.quiet ho15
          have le14 := cn14.le
          have lk14 := ck14.le
          have C15 := hide (mmark_any hm15)
          clear co14 ck14 cn14 ho15 Hna Hn0 Ha0 HnB HaB Hsz0 Htl0
          go_wp2_with fail
          refine (unhide C15).mono ?_
          rintro e w16 ⟨rfl, hm16, ho16⟩
          have s16 := ho16.size
          have ck16 := ck15.keep ho16 (fun k hk => .inl (by have := unhide hHx k hk; omega))
          have cn16 := cn15.keep ho16 (fun k hk => by have := unhide hHx k hk; omega)
          have hH16 : ∀ k, Ext Hx wc w16 k → w14.heap.size ≤ k ∧ k < w16.heap.size := by
            intro k hk
            refine ⟨?_, hm16.inn k hk⟩
            rcases hk with hk | hk
            · exact unhide hHx k hk
            · omega
          have C16 := hide (mclone_any hm16)
          clear C15 ck15 cn15 hm15 ho16
          go_wp2_with fail
          refine (unhide C16).mono ?_
          rintro e w17 ⟨rfl, hb17, ho17⟩
          as_aux_lemma =>
          have s17 := ho17.size
          have ck17 := ck16.quiet ho17
          have cn17 := cn16.quiet ho17
          have hm17 := hm16.keep ho17 (fun _ _ h => h)
          have hB17 : ∀ k, Ext (fun _ => False) w16 w17 k → w16.heap.size ≤ k ∧ k < w17.heap.size := by
            intro k hk; rcases hk with hk | hk
            · exact hk.elim
            · exact hk
          have vh := cn17.vh
          clear C16 ck16 cn16 hm16 ho17
          cases quiet with
          | false =>
            go_wp2_with fail
            go_roundw
            case rel =>
              refine ⟨k + 1, l1, mX, w16.heap.size, by omega, by go_num, rfl, rfl, rfl, cn17.fin (unhide Hcu) (unhide HD0) (unhide lX) (unhide HX) hm17 hb17 (by omega) ck17.bel hvb ?_ ?_⟩
              · intro k hk
                have := hH16 k hk
                exact ⟨by omega, by omega, fun hf => by have := cn17.rg k (.inl hf); omega, fun hf => by have := cn17.rg k (.inr hf); omega⟩
              · intro k hk
                have := hB17 k hk
                exact ⟨by omega, by omega⟩
            case measure => simp [intOf]; omega
          | true =>
            have cb17 := ck17.kb.cell 0
            have co17 := ck17.kop.cell 1
            have kv17 := cn17.kv
            have C17 := after_any d blk base recs F oa _ ck17.dk (unhide Hcu).keys (by omega)
            rw [unhide HD0] at C17
            have C17 := hide C17
            have bel17 := ck17.bel
            clear cn17 ck17
            go_wp2_with fail
            refine (unhide C17).mono ?_
            rintro e w18 ⟨d4, rfl, hd18, ho18⟩
            as_aux_lemma =>
            have s18 := ho18.size
            have kv18 := kv17.keep ho18 (fun h => h)
            have cv18 := kv18.cell 0
            have zv18 := kv18.free 0
            have o19 : Only (fun k => k = vb) w18 (w18.setCell ⟨vb, 0, none⟩ (.pointer (some ⟨d4, 0, none⟩))) := (Only.refl (fun k => k = vb) w18).setCell (p := ⟨vb, 0, none⟩) (fun _ => rfl) _
            have hF18 : ∀ k, Ext (fun _ => False) w17 w18 k → w17.heap.size ≤ k := Ext.le (fun _ h => h.elim) (Nat.le_refl _)
            have hd19 := hd18.keep o19 (fun k hk e => by subst e; have := hF18 _ hk; omega)
            have hm19 := (hm17.keep ho18 (fun _ _ h => h)).keep o19 (fun k hk e => by subst e; have := hH16 _ hk; omega)
            have hb19 := (hb17.keep ho18 (fun _ _ h => h)).keep o19 (fun k hk e => by subst e; have := hB17 _ hk; omega)
            have bel19 : Below w.heap.size w (w18.setCell ⟨vb, 0, none⟩ (.pointer (some ⟨d4, 0, none⟩))) := Only.bel (Only.bel bel17 ho18 (fun _ h => h.elim)) o19 (fun k e => by omega)
            have kv19 : Has (w18.setCell ⟨vb, 0, none⟩ (.pointer (some ⟨d4, 0, none⟩))) vb #[.pointer (some ⟨d4, 0, none⟩)] 29 := by simpa using kv18.setCell 0 (.pointer (some ⟨d4, 0, none⟩))
            have C18 := hide (wopen_any d4 D0 D0 [] _ _ hd19 hDs (by simp))
            have cv19 := kv19.cell 0
            have s19 : (w18.setCell ⟨vb, 0, none⟩ (.pointer (some ⟨d4, 0, none⟩))).heap.size = w18.heap.size := by simp
            clear C17 cb17 co17 kv17 kv18 hd18 hm17 hb17 bel17 ho18
            go_wp2_with fail
            generalize hw19 : w18.setCell ⟨vb, 0, none⟩ (.pointer (some ⟨d4, 0, none⟩)) = w19 at *
            clear hw19 o19 cv18 zv18
            refine (unhide C18).mono ?_
            rintro e w20 ⟨l2, F5, G5, rfl, hd20, hl20, ho20, hF5, hG5, hFG5⟩
            have s20 := ho20.size
            have hm20 := hm19.keep ho20 (fun k hk hh => by have := hH16 _ hk; have := hF18 _ hh; omega)
            have hb20 := hb19.keep ho20 (fun k hk hh => by have := hB17 _ hk; have := hF18 _ hh; omega)
            have kv20 := kv19.keep ho20 (fun hh => by have := hF18 _ hh; omega)
            have bel20 : Below w.heap.size w w20 := Only.bel bel19 ho20 (fun k hh => by have := hF18 k hh; omega)
            rw [List.nil_append] at hd20
            have hrv : replay D0 (recRecs D0) = recov D0 := rfl
            rw [hrv] at hd20
            have cn20 : CN vb w17.heap.size w20.heap.size d4 l2 D0 F5 G5 w20 := by
              refine ⟨hd20, hl20, kv20, hFG5, ?_, by omega, Nat.le_refl _⟩
              rintro k (hk | hk)
              · have := hd20.inn k hk
                have : w17.heap.size ≤ k := Ext.le hF18 (by omega) k (hF5 k hk)
                omega
              · have := hl20.inn k hk; have := hG5 k hk; omega
            clear C18 hd19 hm19 hb19 kv19 cv19 bel19 hrv
            go_wp2_with fail
            go_roundw
            case rel =>
              refine ⟨k + 1, l2, mX, w16.heap.size, by omega, by go_num, rfl, rfl, rfl, cn20.fin (unhide Hcu) (unhide HD0) (unhide lX) (unhide HX) hm20 hb20 (by omega) bel20 hvb ?_ ?_⟩
              · intro k hk
                have := hH16 k hk
                exact ⟨by omega, by omega, fun hf => by have := cn20.rg k (.inl hf); omega, fun hf => by have := cn20.rg k (.inr hf); omega⟩
              · intro k hk
                have := hB17 k hk
                exact ⟨by omega, by omega⟩
            case measure => simp [intOf]; omega
      · as_aux_lemma =>
        have hcb : (ok != 10) = true := by simpa using hten
        obtain ⟨⟨d, F, G, H, B, blk, base, recs, op, es, com, was, cur, dirty, mbase, hist, bcur, bdirty, bn, bop, j0, hb0, hh0, hcu, kv, hrg⟩, _, _⟩ := hri
        have hvl := kv.lt
        have kvo := kv.alloc (.cells #[.int .i64 ok, .int .i64 oa, .int .i64 ob, .int .i64 oc, .string os, .string ot] 37)
        have cvo := kvo.cell 0
        have jo := j0.keep oo
        have C1 := hide (mark_any d blk base recs F _ jo.dk)
        go_wp2_with fail
        refine (unhide C1).mono ?_
        rintro e wm ⟨rfl, hdm, hom⟩
        have sm := hom.size
        simp only [World.size_alloc] at sm
        have hlm := jo.lg.keep hom (fun k hk hf => j0.FG k hf hk)
        have hmm := jo.md.keep hom (fun k hk hf => j0.FH k hf hk)
        have kvm := kvo.keep hom (fun hf => (hrg _ (.inl hf)).2 rfl)
        have kom := ko.keep hom (fun hf => by have := j0.dk.inn _ hf; omega)
        have hFi := j0.dk.inn
        have hGi := j0.lg.inn
        have hHi := j0.md.inn
        have C2 := hide (mmark_any hmm)
        clear C1 y0 y1 y2 y3 y4 y5
        go_wp2_with fail
        refine (unhide C2).mono ?_
        rintro e w2 ⟨rfl, hm2, ho2⟩
        have s2 := ho2.size
        have kv2 := kvm.keep ho2 (fun hf => (hrg _ (.inr (.inr (.inl hf)))).2 rfl)
        have ko2 := kom.keep ho2 (fun hf => by have := hHi _ hf; omega)
        have hl2 := hlm.keep ho2 j0.GH
        have fG : ∀ k, Ext F (wr.alloc (.cells #[.int .i64 ok, .int .i64 oa, .int .i64 ob, .int .i64 oc, .string os, .string ot] 37)) wm k → ¬ G k := Ext.off jo.FG jo.lg.inn
        have fH : ∀ k, Ext F (wr.alloc (.cells #[.int .i64 ok, .int .i64 oa, .int .i64 ob, .int .i64 oc, .string os, .string ot] 37)) wm k → ¬ H k := Ext.off jo.FH jo.md.inn
        have fin1 : ∀ k, Ext F (wr.alloc (.cells #[.int .i64 ok, .int .i64 oa, .int .i64 ob, .int .i64 oc, .string os, .string ot] 37)) wm k → w.heap.size ≤ k ∧ k ≠ vb ∧ k ≠ wr.heap.size ∧ k < wm.heap.size := by
          intro k hk; rcases hk with hk | hk
          · have := hrg k (.inl hk); have := hFi k hk; omega
          · simp at hk; have := hbel.size; omega
        generalize Ext F (wr.alloc (.cells #[.int .i64 ok, .int .i64 oa, .int .i64 ob, .int .i64 oc, .string os, .string ot] 37)) wm = F1 at hdm fG fH fin1
        have hd2 := hdm.keep ho2 fH
        have j2 : JM w2 l d m blk blk [] op es com cur dirty com none F1 G (Ext H wm w2) := by
          refine ⟨hd2, hl2, hm2, j0.inv, fG, ?_, ?_⟩
          · intro k hk hh; rcases hh with hh | hh
            · exact fH k hk hh
            · have := fin1 k hk; omega
          · intro k hk hh; rcases hh with hh | hh
            · exact j0.GH k hk hh
            · have := hGi k hk; omega
        have hr2 : ∀ k, Ext H wm w2 k → w.heap.size ≤ k ∧ k ≠ vb ∧ k ≠ wr.heap.size ∧ k < w2.heap.size := by
          intro k hk; rcases hk with hk | hk
          · have := hrg k (.inr (.inr (.inl hk))); have := hHi k hk; omega
          · have := hbel.size; omega
        have hrG : ∀ k, G k → w.heap.size ≤ k ∧ k ≠ vb ∧ k ≠ wr.heap.size ∧ k < w2.heap.size := by
          intro k hk; have := hrg k (.inr (.inl hk)); have := hGi k hk; omega
        have bel2 : Below w.heap.size w w2 := Only.bel (Only.bel (Only.bel hbel oo (fun _ h => h.elim)) hom (fun k hk => (hrg k (.inl hk)).1)) ho2 (fun k hk => (hrg k (.inr (.inr (.inl hk)))).1)
        have Hinv := hide j0.inv
        have C3 := hide (mclone_any j2.md)
        clear C2 hmm hm2 hlm hl2 hdm hd2 kvm kom hom ho2 jo hrg hb0 hh0 hcu kv kvo cvo
        generalize Ext H wm w2 = H2 at j2 hr2
        go_wp2_with fail
        refine (unhide C3).mono ?_
        rintro e w3 ⟨rfl, hb3, ho3⟩
        have s3 := ho3.size
        have j3 := j2.keep ho3
        have kv3 := kv2.keep ho3 (fun h => h)
        have ko3 := ko2.keep ho3 (fun h => h)
        have bel3 : Below w.heap.size w w3 := Only.bel bel2 ho3 (fun _ h => h.elim)
        have kc := ko3.cell 0
        have kc1 := ko3.cell 1
        have kc2 := ko3.cell 2
        have kc3 := ko3.cell 3
        have kc4 := ko3.cell 4
        have kc5 := ko3.cell 5
        have C4 := hide (play_any ok oa ob oc os ot hsz j3 (by simp))
        clear C3 j2 kv2 ko2 bel2
        go_wp2_with fail
        refine (unhide C4).mono ?_
        rintro e w4 ⟨rfl, blk', recs', op', es', com', cur', dirty', hist', F', H', j4, hF', hH', ho4, hwhat⟩
        as_aux_lemma =>
        have s4 := ho4.size
        have kv4 := kv3.keep ho4 (by rintro (h | h | h); exact (fin1 _ h).2.1 rfl; exact (hrG _ h).2.1 rfl; exact (hr2 _ h).2.1 rfl)
        have ko4 := ko3.keep ho4 (by rintro (h | h | h); exact (fin1 _ h).2.2.1 rfl; exact (hrG _ h).2.2.1 rfl; exact (hr2 _ h).2.2.1 rfl)
        have bel4 : Below w.heap.size w w4 := Only.bel bel3 ho4 (by rintro k (h | h | h); exact (fin1 _ h).1; exact (hrG _ h).1; exact (hr2 _ h).1)
        have hb4 := hb3.keep ho4 (by
          intro k hk h
          rcases hk with hk | hk
          · exact hk
          · rcases h with h | h | h
            · have := fin1 _ h; omega
            · have := hrG _ h; omega
            · have := hr2 _ h; omega)
        have hcut4 : CutInv blk recs' com com' := by
          rcases hwhat with ⟨rfl, rfl, rfl, _, _⟩ | ⟨_, rfl, rfl, rfl, rfl, _⟩
          · exact (unhide Hinv).still
          · exact (unhide Hinv).committed
        have hh4 : (hist' = none ∧ com = com') ∨ hist' = some com' := by
          rcases hwhat with ⟨rfl, rfl, rfl, rfl, _⟩ | ⟨_, rfl, rfl, rfl, rfl, rfl⟩
          · exact .inl ⟨rfl, rfl⟩
          · exact .inr rfl
        have hq4 : (ok = 4 ∧ 0 < es.length ∧ recs'.length = 2 * es.length + 2) ∨ (¬ (ok = 4 ∧ 0 < es.length) ∧ recs'.length = 0) := by
          rcases hwhat with ⟨_, rfl, _, _, hno⟩ | ⟨h4, rfl, rfl, _, _, _⟩
          · refine .inr ⟨fun h => ?_, rfl⟩
            have hop := hno h.1
            have := (unhide Hinv).good.shut hop
            rw [this] at h
            simp at h
          · by_cases he : es = []
            · subst he; exact .inr ⟨by simp, by simp [commitAll]⟩
            · refine .inl ⟨h4, List.length_pos_iff.2 he, ?_⟩
              rw [List.nil_append]
              exact commitAll_len (unhide Hinv).short (unhide Hinv).good.inn he
        have hrr : ∀ k, F' k ∨ G k ∨ H' k ∨ Ext (fun _ => False) w2 w3 k → w.heap.size ≤ k ∧ k ≠ vb := by
          rintro k (hk | hk | hk | hk)
          · rcases hF' k hk with h | h
            · have := fin1 k h; omega
            · have := bel3.size; omega
          · have := hrG k hk; omega
          · rcases hH' k hk with h | h
            · have := hr2 k h; omega
            · have := bel3.size; omega
          · rcases hk with h | h
            · exact h.elim
            · have := bel3.size; have := hbel.size; omega
        have ri4 : RI w vb l m w2.heap.size w4 := ⟨⟨d, F', G, H', _, blk', blk, recs', op', es', com', com, cur', dirty', com, hist', cur, dirty, es.length, op, j4, hb4, hh4, hcut4, kv4, hrr⟩, bel4, hvb⟩
        have hes : es.length ≤ 100 := by have := (unhide Hinv).short; omega
        have RI4 := hide ri4
        have Hq4 := hide hq4
        have C5 := hide (mpending_any hb4)
        have C6 := hide (quiet_any ok oa ob oc os ot es.length hes j4.dk (unhide Hq4))
        have cv4 := kv4.cell 0
        have co0 := ko4.cell 0
        have co1 := ko4.cell 1
        have co2 := ko4.cell 2
        have co3 := ko4.cell 3
        have co4 := ko4.cell 4
        have co5 := ko4.cell 5
        clear ri4 hq4 hh4 hcut4 hwhat kc kc1 kc2 kc3 kc4 kc5 kv3 ko3 hb3 j3 C4 hrr hF' hH'
        go_wp2_with fail
        refine (unhide C5).mono ?_
        rintro e w5 ⟨rfl, rfl⟩
        go_wp2_with fail
        refine (unhide C6).mono ?_
        rintro e w5 ⟨rfl, ho5⟩
        have j5 := j4.keep ho5
        have kv5 := kv4.keep ho5 (fun h => h)
        have cv5 := kv5.cell 0
        have C7 := hide (steps_any _ _ _ _ _ w5 j5.dk)
        clear C5 C6 cv4 co0 co1 co2 co3 co4 co5
        go_wp2_with fail
        refine (unhide C7).mono ?_
        rintro e w6 ⟨rfl, ho6⟩
        as_aux_lemma =>
        have j6 := j5.keep ho6
        have kv6 := kv5.keep ho6 (fun h => h)
        have cv6 := kv6.cell 0
        have ri6 := ((unhide RI4).keep ho5).keep ho6
        cases quiet with
        | true =>
          go_wp2_with fail
          go_roundw
          case rel => exact ⟨k + 1, l, m, w2.heap.size, by omega, by go_num, rfl, rfl, rfl, ri6⟩
          case measure => simp [intOf]; omega
        | false =>
          have C8 := hide (wcheck_any _ _ _ _ _ _ _ _ _ w6 j6.lg j6.dk j6.inv.sz j6.inv.zero j6.inv.good)
          go_wp2_with fail
          refine (unhide C8).mono ?_
          rintro e w7 ⟨rfl, ho7⟩
          have j7 := j6.keep ho7
          have cv7 := (kv6.keep ho7 (fun h => h)).cell 0
          have C9 := hide (alike_true j7)
          go_wp2_with fail
          refine (unhide C9).mono ?_
          rintro e w8 ⟨rfl, rfl⟩
          have C10 := hide (steps_any _ _ _ _ _ w7 j7.dk)
          have hrl : ((recs'.length : Int) != (recs'.length : Int)) = false := by simp
          go_wp2_with fail
          refine (unhide C10).mono ?_
          rintro e w9 ⟨rfl, ho9⟩
          go_wp2_with fail
          go_roundw
          case rel => exact ⟨k + 1, l, m, w2.heap.size, by omega, by go_num, rfl, rfl, rfl, (ri6.keep ho7).keep ho9⟩
          case measure => simp [intOf]; omega
    · have hkI : decide ((k : Int) < (len : Int)) = false := by simp; omega
      by_cases hm : len < 4398046511104
      · have hm' : decide ((len : Int) < 4398046511104) = true := by simp; omega
        go_wp2_with fail
        go_ret2
        exact ⟨⟨_, rfl⟩, hri.bel⟩
      · have hm' : decide ((len : Int) < 4398046511104) = false := by simp; omega
        go_wp2_with fail
        go_ret2
        exact ⟨⟨_, rfl⟩, hri.bel⟩


end Go.Proofs.Qxb6500415a
