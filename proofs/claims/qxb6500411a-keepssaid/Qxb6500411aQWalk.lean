/-
  OWN WORK. THE PAGER LAW: KeepsUpTo: the walk.
-/
import Derived.Test.Qxb6500411aQWalk0
import Derived.Deep.RegionHeld3
namespace Go.Proofs.Qxb6500411a
open Go.RowKit
set_option linter.unusedSimpArgs false
set_option linter.unusedVariables false

set_option maxRecDepth 100000 in
set_option maxHeartbeats 16000000 in
theorem qkeepsUpTo_any (ad : Option Addr) (len cap : Nat) (ops : List OpD) (w : World) (hops : OpsAt w ad len ops) (hlen : len ≤ 4398046511104) :
    Calls Try.prog 4 #[.slice ad len cap] w fun e w' => e = .returned (.int .i64 (-1)) ∧ Below w.heap.size w w' := by
  go_enter Try.func4, Try.ntmps4
  go_wp2_with fail
  refine (qground_any _).mono ?_
  rintro e w1 ⟨d, l, F, G, rfl, h1, hFG, ho1⟩
  unfold belowV
  have s1 := ho1.size
  have o2 : Only (fun _ => False) w1 (w1.alloc (.cells (belowC d l) 28)) := (Only.refl _ w1).alloc _
  have kv := Has.new w1 (belowC d l) 28
  have h2 := h1.quiet o2
  have C1 := hide (pnew_any h2)
  have cv0 := kv.cell 0
  have cv1 := kv.cell 1
  unfold belowC at C1 cv0 cv1
  go_wp2_with fail
  refine (unhide C1).mono ?_
  rintro e w3 ⟨rfl, p3, ho3⟩
  change Only (fun _ => False) (w1.alloc (.cells (belowC d l) 28)) w3 at ho3
  have kv3 := kv.keep ho3 (fun h => h)
  have s3 := ho3.size
  simp only [World.size_alloc] at p3 s3 ⊢
  have dv0 := kv3.cell 0
  have dv1 := kv3.cell 1
  unfold belowC at dv0 dv1
  have C2 : Calls Try.prog 7 #[belowV d l] w3 fun e w' => e = .returned (.int .i64 0) ∧ Only (fun _ => False) w3 w' := by simpa using qsteps_any d l _ _ _ _ w3 p3.dk
  have C2 := hide C2
  clear C1 cv0 cv1
  go_wp2_with fail
  refine (unhide C2).mono ?_
  rintro e w4 ⟨rfl, ho4⟩
  have s4 := ho4.size
  have kv4 := kv3.keep ho4 (fun h => h)
  have p4 := p3.quiet ho4
  have o5 : Only (fun _ => False) w4 (w4.alloc (.cells #[.pointer none, .pointer none, .pointer none, .bool false] 36)) := (Only.refl _ w4).alloc _
  have kk := Has.new w4 #[.pointer none, .pointer none, .pointer none, .bool false] 36
  have C3 := hide (newBook_any (w4.alloc (.cells #[.pointer none, .pointer none, .pointer none, .bool false] 36)))
  clear C2 dv0 dv1
  go_wp2_with fail
  refine (unhide C3).mono ?_
  rintro e w6 ⟨rfl, b6, ho6⟩
  have s6 := ho6.size
  simp only [World.size_alloc] at b6 s6 ⊢
  have kk6 := kk.keep ho6 (fun h => h)
  have c60 := kk6.cell 0
  have z60 := kk6.free 0
  have kk7 := kk6.setCell 0 (.pointer (some ⟨w4.heap.size + 1, 0, none⟩))
  have o7 := PAt.only1 (w := w6) (p := w4.heap.size) 0 (.pointer (some ⟨w4.heap.size + 1, 0, none⟩))
  have C4 := hide (newBook_any (w6.setCell ⟨w4.heap.size, 0, none⟩ (.pointer (some ⟨w4.heap.size + 1, 0, none⟩))))
  have s7 : (w6.setCell ⟨w4.heap.size, 0, none⟩ (.pointer (some ⟨w4.heap.size + 1, 0, none⟩))).heap.size = w6.heap.size := by simp
  clear C3
  go_wp2_with fail
  refine (unhide C4).mono ?_
  rintro e w8 ⟨rfl, b8, ho8⟩
  have s8 := ho8.size
  rw [s7] at b8 s8
  rw [s7]
  have kk8 := kk7.keep ho8 (fun h => h)
  have kk10 := (kk8.setCell 1 (.pointer (some ⟨w6.heap.size, 0, none⟩))).setCell 2 (.pointer (some ⟨w6.heap.size, 0, none⟩))
  have o10 := (PAt.only1 (w := w8) (p := w4.heap.size) 1 (.pointer (some ⟨w6.heap.size, 0, none⟩))).trans (PAt.only1 (p := w4.heap.size) 2 (.pointer (some ⟨w6.heap.size, 0, none⟩))) (fun _ _ h => h)
  have hC : ∀ x, Ext (fun _ => False) (w4.alloc (.cells #[.pointer none, .pointer none, .pointer none, .bool false] 36)) w6 x → w4.heap.size + 1 ≤ x ∧ x < w6.heap.size := by
    intro x hx; rcases hx with hx | hx
    · exact hx.elim
    · simpa using hx
  have hM : ∀ x, Ext (fun _ => False) (w6.setCell ⟨w4.heap.size, 0, none⟩ (.pointer (some ⟨w4.heap.size + 1, 0, none⟩))) w8 x → w6.heap.size ≤ x := by
    intro x hx; rcases hx with hx | hx
    · exact hx.elim
    · simpa using hx.1
  have j10 : JK ((w8.setCell ⟨w4.heap.size, 1, none⟩ (.pointer (some ⟨w6.heap.size, 0, none⟩))).setCell ⟨w4.heap.size, 2, none⟩ (.pointer (some ⟨w6.heap.size, 0, none⟩))) (w1.heap.size + 1) l d w4.heap.size (w4.heap.size + 1) w6.heap.size w6.heap.size (zeros 153) (zeros 153) [] false (zeros 80) ((zeros 80).take 72) (nots 72) (empties 72) (nots 72) (empties 72) (nots 72) (empties 72) F G
      (Ext (fun _ => False) (w4.alloc (.cells #[.pointer none, .pointer none, .pointer none, .bool false] 36)) w6) (Ext (fun _ => False) (w6.setCell ⟨w4.heap.size, 0, none⟩ (.pointer (some ⟨w4.heap.size + 1, 0, none⟩))) w8) := by
    have fi := p4.inF
    have gi := p4.inG
    have pl := p4.plt
    refine ⟨?_, kk10, ?_, ?_, ?_, sees_zero, sees_zero, ?_, ?_, ?_⟩
    · exact (((((p4.quiet o5).quiet ho6).keep o7 (fun x hx e => by have := fi x hx; omega) (fun x hx e => by have := gi x hx; omega) (by omega)).quiet ho8).keep o10 (fun x hx e => by have := fi x hx; omega) (fun x hx e => by have := gi x hx; omega) (by omega))
    · exact ((b6.keep o7 (fun x hx e => by have := hC x hx; omega)).keep ho8 (fun _ _ h => h)).keep o10 (fun x hx e => by have := hC x hx; omega)
    · exact b8.keep o10 (fun x hx e => by have := hM x hx; omega)
    · exact b8.keep o10 (fun x hx e => by have := hM x hx; omega)
    · intro x hx e
      have := hC x hx
      rcases e with e | e | e | e | e
      · have := fi x e; omega
      · have := gi x e; omega
      · omega
      · omega
      · have := hM x e; omega
    · intro x hx e
      have := hM x hx
      rcases e with e | e | e | e
      · have := fi x e; omega
      · have := gi x e; omega
      · omega
      · omega
    · rintro (e | e | e)
      · have := fi _ e; omega
      · have := gi _ e; omega
      · omega
  have kv10 := ((((kv4.keep o5 (fun h => h)).keep ho6 (fun h => h)).keep o7 (by omega)).keep ho8 (fun h => h)).keep o10 (by omega)
  have hbel : Below w.heap.size w ((w8.setCell ⟨w4.heap.size, 1, none⟩ (.pointer (some ⟨w6.heap.size, 0, none⟩))).setCell ⟨w4.heap.size, 2, none⟩ (.pointer (some ⟨w6.heap.size, 0, none⟩))) := by
    have t1 := (((((ho1.trans o2 (fun _ _ h => h)).trans ho3 (fun _ _ h => h)).trans ho4 (fun _ _ h => h)).trans o5 (fun _ _ h => h)).trans ho6 (fun _ _ h => h))
    have b1 := Only.bel (Below.refl _ _) t1 (fun _ h => h.elim)
    exact Only.bel (Only.bel (Only.bel b1 o7 (fun x e => by omega)) ho8 (fun _ h => h.elim)) o10 (fun x e => by omega)
  have hQ : ∀ w9, Only (fun _ => False) ((w8.setCell ⟨w4.heap.size, 1, none⟩ (.pointer (some ⟨w6.heap.size, 0, none⟩))).setCell ⟨w4.heap.size, 2, none⟩ (.pointer (some ⟨w6.heap.size, 0, none⟩))) w9 → True := fun _ _ => trivial
  have C5 := hide (jshows j10)
  have d0 := kk8.cell 1
  have d1 := kk8.cell 2
  have z1 := kk8.free 1
  have z2 := kk8.free 2
  have k0 := kk10.cell 0
  have hFGv : ∀ x, F x ∨ G x → x ≠ w1.heap.size := fun x hx e => by
    rcases hx with hx | hx
    · have := h1.inF x hx; omega
    · have := h1.inG x hx; omega
  clear C4 hQ
  go_wp2_with fail
  refine (unhide C5).mono ?_
  rintro e w11 ⟨rfl, j11, ho11⟩
  have kv11 := kv10.keep ho11 (by rintro (h | h); exact hFGv _ (.inr h) rfl; omega)
  have ev0 := kv11.cell 0
  have ev1 := kv11.cell 1
  unfold belowC at ev0 ev1
  have C6 : Calls Try.prog 7 #[belowV d l] w11 fun e w' => e = .returned (.int .i64 0) ∧ Only (fun _ => False) w11 w' := by simpa using qsteps_any d l _ _ _ _ w11 j11.pg.dk
  have C6 := hide C6
  go_wp2_with fail
  refine (unhide C6).mono ?_
  rintro e w12 ⟨rfl, ho12⟩
  go_wp2_with fail
  have hQI : QI w w1.heap.size w4.heap.size (w1.heap.size + 1) 0 w12 := by
    refine ⟨⟨l, d, _, _, _, _, _, _, _, _, _, _, _, _, _, _, _, _, F, G, _, _, j11.keep ho12, sees_zero, by simp, p3.still, rfl, kv11.keep ho12 (fun h => h), ?_⟩, ?_, s1, by omega, by omega⟩
    · rintro x (hx | hx | hx | hx)
      · exact ⟨hFG x (.inl hx), hFGv x (.inl hx)⟩
      · exact ⟨hFG x (.inr hx), hFGv x (.inr hx)⟩
      · have := hC x hx; omega
      · have := hM x hx; omega
    · exact Only.bel (Only.bel hbel ho11 (by rintro x (h | h); exact hFG x (.inr h); omega)) ho12 (fun _ h => h.elim)
  generalize w1.heap.size = vb at hQI ⊢
  generalize w4.heap.size = k at hQI ⊢
  generalize hp0 : vb + 1 = p0 at hQI ⊢
  clear hp0 ho12 C6 ev0 ev1 kv11 ho11 j11 C5 d0 d1 z1 z2 k0 hFGv hbel kv10 j10 hC hM o10 kk10 kk8 s8 ho8 b8 s7 o7 kk7 z60 c60 kk6 s6 ho6 b6 kk o5 p4 kv4 s4 ho4 s3 kv3 ho3 p3 h2 kv o2 s1 h1 hFG ho1
  go_loopw [4, 5, 7] (fun x n i wr => ∃ kk p r : Nat, kk ≤ len ∧ i = .int .i64 kk ∧ x = .pointer (some ⟨p, 0, none⟩) ∧ n = .int .i64 r ∧ QI w vb k p r wr) (fun _ _ i _ => len - (intOf i).toNat)
  case atStart => exact ⟨0, p0, 0, Nat.zero_le _, rfl, rfl, rfl, hQI⟩
  case round =>
    clear hQI
    obtain ⟨kk, p, r, hk, rfl, rfl, rfl, hqi⟩ := hrel
    by_cases hkl : kk < len
    · obtain ⟨hol, hoa⟩ := hops
      obtain ⟨ab, aoff, rfl, hcells⟩ := hoa (by omega)
      obtain ⟨y0, y1, y2, y3, y4, y5, hsz⟩ := hcells kk (by omega)
      clear hcells hoa
      have hbel := hqi.bel
      have hab : ab < w.heap.size := World.block_lt_of_cell? w ⟨ab, aoff + kk * 6, none⟩ y0
      rw [← hbel.cell (p := ⟨ab, aoff + kk * 6, none⟩) hab] at y0
      rw [← hbel.cell (p := ⟨ab, aoff + kk * 6 + 1, none⟩) hab] at y1
      rw [← hbel.cell (p := ⟨ab, aoff + kk * 6 + 2, none⟩) hab] at y2
      rw [← hbel.cell (p := ⟨ab, aoff + kk * 6 + 3, none⟩) hab] at y3
      rw [← hbel.cell (p := ⟨ab, aoff + kk * 6 + 4, none⟩) hab] at y4
      rw [← hbel.cell (p := ⟨ab, aoff + kk * 6 + 5, none⟩) hab] at y5
      generalize ops[kk]'(by omega) = oo at *
      obtain ⟨ok, oa, ob, oc, os, ot⟩ := oo
      simp only at y0 y1 y2 y3 y4 y5 hsz
      have hkI : (kk : Int) < (len : Int) := by omega
      have hkM : decide ((kk : Int) < 4398046511104) = true := by simp; omega
      have hvb := hqi.vb
      have hkb := hqi.kb
      have hpb := hqi.pb
      obtain ⟨⟨l, d, c, m, o, blk, base, recs, op, com, was, view, uc, pc, um, pm, uo, po, F, G, C, M, j0, hso, lwas, hcu, rfl, kv, hfp⟩, _, _, _, _⟩ := hqi
      have kvo := kv.alloc (.cells #[.int .i64 ok, .int .i64 oa, .int .i64 ob, .int .i64 oc, .string os, .string ot] 40)
      have cvo0 := kvo.cell 0
      have cvo1 := kvo.cell 1
      unfold belowC at cvo0 cvo1
      have hvl := kv.lt
      have hkl' := j0.kp.lt
      have hpl := j0.pg.plt
      have hkv := (kv.ne j0.kp (by decide))
      have hpv := j0.pg.pne kv
      have oo : Only (fun _ => False) wr (wr.alloc (.cells #[.int .i64 ok, .int .i64 oa, .int .i64 ob, .int .i64 oc, .string os, .string ot] 40)) := (Only.refl _ wr).alloc _
      have ko := Has.new wr #[.int .i64 ok, .int .i64 oa, .int .i64 ob, .int .i64 oc, .string os, .string ot] 40
      have jo := j0.keep oo
      have fi := j0.pg.inF
      have gi := j0.pg.inG
      have ci := j0.bc.inn
      have mi := j0.bm.inn
      by_cases hten : ok = 13
      · as_aux_lemma =>
        subst hten
        have C1 := hide (qafter_any d l blk base recs F oa was com _ jo.pg.dk hcu)
        go_wp2_with fail
        refine (unhide C1).mono ?_
        rintro e w1 ⟨d', l', F', G', rfl, hd1, hl1, hFG1, hFl, ho1⟩
        unfold belowV
        have s1 := ho1.size
        simp only [World.size_alloc] at s1 hFl
        have kv1 := kvo.keep ho1 (fun h => h)
        have ko1 := ko.keep ho1 (fun h => h)
        have jg1 := jo.keep ho1
        have x0 := kv1.cell 0
        have x1 := kv1.cell 1
        have z0 := kv1.free 0
        have z1 := kv1.free 1
        unfold belowC at x0 x1
        have kv2 := (kv1.setCell 0 (.pointer (some ⟨d', 0, none⟩))).setCell 1 (.pointer (some ⟨l', 0, none⟩))
        have o2 := (PAt.only1 (w := w1) (p := vb) 0 (.pointer (some ⟨d', 0, none⟩))).trans (PAt.only1 (p := vb) 1 (.pointer (some ⟨l', 0, none⟩))) (fun _ _ h => h)
        have hX : ∃ X : List ByteArray, X.length = 80 ∧ Shows (recov (replay base (recs.take oa.toNat))) X ∧ (X = was ∨ X = com) ∧ (oa ≤ 0 → X = was) ∧ ((recs.length : Int) ≤ oa → X = com) := by
          have lcom := j0.pg.lcom
          rcases hcu.either oa.toNat with h | h
          · refine ⟨was, lwas, h, .inl rfl, fun _ => rfl, fun h' => ?_⟩
            exact Shows.inj lwas lcom h (hcu.work oa.toNat (by omega))
          · refine ⟨com, lcom, h, .inr rfl, fun h' => ?_, fun _ => rfl⟩
            have e0 : oa.toNat = 0 := by omega
            have := hcu.foot
            rw [← e0] at this
            exact Shows.inj lcom lwas h this
        obtain ⟨X, lX, hX, hXo, hXf, hXw⟩ := hX
        have hagain := hcu.again oa.toNat hX
        have s2 : ((w1.setCell ⟨vb, 0, none⟩ (.pointer (some ⟨d', 0, none⟩))).setCell ⟨vb, 1, none⟩ (.pointer (some ⟨l', 0, none⟩))).heap.size = w1.heap.size := by simp
        have lg2 := LG.cut hcu lX hX (hd1.keep o2 (fun x hx e => by have := hFl x (.inl hx); omega)) (hl1.keep o2 (fun x hx e => by have := hFl x (.inr hx); omega)) hFG1
        generalize replay base (recs.take oa.toNat) = D0 at *
        have C2 := hide (popen_any lg2)
        rw [s2] at C2
        have bel2 : Below w.heap.size w ((w1.setCell ⟨vb, 0, none⟩ (.pointer (some ⟨d', 0, none⟩))).setCell ⟨vb, 1, none⟩ (.pointer (some ⟨l', 0, none⟩))) := Only.bel (Only.bel (Only.bel hbel oo (fun _ h => h.elim)) ho1 (fun _ h => h.elim)) o2 (fun x e => by omega)
        have x2 := kv2.cell 0
        have x3 := kv2.cell 1
        simp only [belowC] at x2 x3
        have kk2 := jg1.kp.keep o2 (fun e => hkv e.symm)
        have bm2 := jg1.bm.keep o2 (fun x hx e => by have := hfp x (.inr (.inr (.inr hx))); omega)
        have bo2 := jg1.bo.keep o2 (fun x hx e => by have := hfp x (.inr (.inr (.inr hx))); omega)
        have ko2 := ko1.keep o2 (by omega)
        have Hcu := hide hagain
        have hlr := hcu.short
        clear C1 cvo0 cvo1 kvo jo ko oo y0 y1 y2 y3 y4 y5 hd1 hl1 jg1 hagain hcu hX
        go_wp2_with fail
        generalize hw2 : (w1.setCell ⟨vb, 0, none⟩ (.pointer (some ⟨d', 0, none⟩))).setCell ⟨vb, 1, none⟩ (.pointer (some ⟨l', 0, none⟩)) = w2 at *
        clear hw2
        refine (unhide C2).mono ?_
        rintro e w3 ⟨rfl, p3, ho3⟩
        as_aux_lemma =>
        have s3 := ho3.size
        have kv3 := kv2.keep ho3 (fun h => h)
        have ko3 := ko2.keep ho3 (fun h => h)
        have kk3 := kk2.keep ho3 (fun h => h)
        have bm3 := bm2.keep ho3 (fun _ _ h => h)
        have bo3 := bo2.keep ho3 (fun _ _ h => h)
        have bel3 := Only.bel bel2 ho3 (fun _ h => h.elim)
        have C3 := hide (qsteps_any d' l' _ _ _ _ w3 p3.dk)
        have v0 := kv3.cell 0
        have v1 := kv3.cell 1
        simp only [belowC] at v0 v1
        clear C2 x0 x1 x2 x3 z0 z1 kv1 kv2 o2 bm2 bo2 kk2 ko2 bel2 ho3 lg2 ko1 ho1
        go_wp2_with fail
        refine (unhide C3).mono ?_
        rintro e w4 ⟨rfl, ho4⟩
        have s4 := ho4.size
        have p4 := p3.quiet ho4
        have kv4 := kv3.keep ho4 (fun h => h)
        have ko4 := ko3.keep ho4 (fun h => h)
        have kk4 := kk3.keep ho4 (fun h => h)
        have bm4 := bm3.keep ho4 (fun _ _ h => h)
        have bo4 := bo3.keep ho4 (fun _ _ h => h)
        have bel4 := Only.bel bel3 ho4 (fun _ h => h.elim)
        have hMp : ¬ M w1.heap.size := fun h => by have := mi _ h; omega
        have hMG : ∀ x, M x → ¬ G' x := fun x hx h => by have := mi _ hx; have := hFl x (.inr h); omega
        have C4 := hide (shows_any p4 bo4 hMp hMG)
        have v0 := kk4.cell 2
        unfold keeperC at v0
        clear C3 kv3 ko3 kk3 bm3 bo3 bel3 ho4 p3
        go_wp2_with fail
        refine (unhide C4).mono ?_
        rintro e w5 ⟨⟨nB, rfl, hnB⟩, p5, ho5⟩
        have s5 := ho5.size
        have off5 : ∀ x, x < wr.heap.size + 1 → ¬ (G' x ∨ x = w1.heap.size) := by
          rintro x hx (h | h)
          · have := hFl x (.inr h); omega
          · omega
        have kv5 := kv4.keep ho5 (off5 _ (by omega))
        have ko5 := ko4.keep ho5 (off5 _ (by omega))
        have kk5 := kk4.keep ho5 (off5 _ (by omega))
        have bm5 := bm4.keep ho5 (fun x hx => off5 _ (by have := mi x hx; omega))
        have bo5 := bo4.keep ho5 (fun x hx => off5 _ (by have := mi x hx; omega))
        have bel5 := Only.bel bel4 ho5 (by rintro x (h | h); have := hFl x (.inr h); omega; omega)
        have C5 := hide (shows_any p5 bm5 hMp hMG)
        have v1 := kk5.cell 1
        unfold keeperC at v1
        clear C4 kv4 ko4 kk4 bm4 bo4 bel4 ho5 p4 v0
        go_wp2_with fail
        refine (unhide C5).mono ?_
        rintro e w6 ⟨⟨aB, rfl, haB⟩, p6, ho6⟩
        as_aux_lemma =>
        have s6 := ho6.size
        have kv6 := kv5.keep ho6 (off5 _ (by omega))
        have ko6 := ko5.keep ho6 (off5 _ (by omega))
        have kk6 := kk5.keep ho6 (off5 _ (by omega))
        have bm6 := bm5.keep ho6 (fun x hx => off5 _ (by have := mi x hx; omega))
        have bo6 := bo5.keep ho6 (fun x hx => off5 _ (by have := mi x hx; omega))
        have bel6 := Only.bel bel5 ho6 (by rintro x (h | h); have := hFl x (.inr h); omega; omega)
        have C6 := hide (qsteps_any d' l' _ _ _ _ w6 p6.dk)
        have v0 := kv6.cell 0
        have v2 := kv6.cell 1
        simp only [belowC] at v0 v2
        have hnw : X = was → nB = true := fun e => hnB.2 (e ▸ hso)
        have hac : X = com → aB = true := fun e => haB.2 (e ▸ j0.sem)
        have Hna := hide (show nB = true ∨ aB = true from hXo.elim (fun e => .inl (hnw e)) (fun e => .inr (hac e)))
        have Hn0 := hide (show oa ≤ 0 → nB = true from fun h => hnw (hXf h))
        have Ha0 := hide (show (recs.length : Int) ≤ oa → aB = true from fun h => hac (hXw h))
        have HnB := hide hnB
        have HaB := hide haB
        have hrr : (((recRecs D0).length : Int) != ((recRecs D0).length : Int)) = false := by simp
        clear C5 kv5 ko5 kk5 bm5 bo5 bel5 ho6 p5 v1 hnw hac hnB haB hXo hXf hXw
        go_wp2_with fail
        refine (unhide C6).mono ?_
        rintro e w7 ⟨rfl, ho7⟩
        have s7 := ho7.size
        have p7 := p6.quiet ho7
        have kv7 := kv6.keep ho7 (fun h => h)
        have ko7 := ko6.keep ho7 (fun h => h)
        have kk7 := kk6.keep ho7 (fun h => h)
        have bm7 := bm6.keep ho7 (fun _ _ h => h)
        have bo7 := bo6.keep ho7 (fun _ _ h => h)
        have bel7 := Only.bel bel6 ho7 (fun _ h => h.elim)
        have co7 := ko7.cell 1
        clear C6 kv6 ko6 kk6 bm6 bo6 bel6 ho7 p6 v0 v2
        go_upto_region 33 with fail
        go_cut [128] (fun v wx => v = .bool false ∧ w7 = wx)
        case first =>
          rcases unhide Hna with h | h
          · subst h
            go_wp2_with fail
            go_meet
            exact ⟨rfl, rfl⟩
          · subst h
            cases nB
            · go_wp2_with fail
              go_meet
              exact ⟨rfl, rfl⟩
            · go_wp2_with fail
              go_meet
              exact ⟨rfl, rfl⟩
        case rest =>
        obtain ⟨rfl, rfl⟩ := hcut
        go_upto_region 35 with fail
        go_cut [136] (fun v wx => v = .bool false ∧ w7 = wx)
        case first =>
          by_cases h0 : oa ≤ 0
          · have h0b := unhide Hn0 h0
            subst h0b
            go_wp2_with fail
            go_meet
            exact ⟨rfl, rfl⟩
          · have h0b : decide (oa ≤ 0) = false := by simpa using h0
            go_wp2_with fail
            go_meet
            exact ⟨rfl, rfl⟩
        case rest =>
        obtain ⟨rfl, rfl⟩ := hcut
        go_upto_region 37 with fail
        go_cut [145] (fun v wx => v = .bool false ∧ w7 = wx)
        case first =>
          by_cases h0 : (recs.length : Int) ≤ oa
          · have h0b := unhide Ha0 h0
            subst h0b
            go_wp2_with fail
            go_meet
            exact ⟨rfl, rfl⟩
          · have h0b : decide ((recs.length : Int) ≤ oa) = false := by simpa using h0
            go_wp2_with fail
            go_meet
            exact ⟨rfl, rfl⟩
        case rest =>
        obtain ⟨rfl, rfl⟩ := hcut
        as_aux_lemma =>
        go_upto_region 39 with fail
        go_upto_if 148 with fail
        have v1 := kk7.cell 1
        have v2 := kk7.cell 2
        have f1 := kk7.free 1
        unfold keeperC at v1 v2
        go_cut [] (fun wx => ∃ m2 um2 pm2, Has wx k (keeperC c m2 o op) 36 ∧ BookAt w7 m2 um2 pm2 M ∧ SeesAll (X.take 72) um2 pm2 ∧ Only (fun x => x = k) w7 wx)
        case first =>
          cases aB with
          | true =>
            refine wp_cond_false rfl ?_
            go_wp2_with fail
            go_meet
            exact ⟨m, um, pm, kk7, bm7, (unhide HaB).1 (by first | exact rfl | trivial), Only.refl _ _⟩
          | false =>
            have hn : nB = true := (unhide Hna).resolve_right (by simp)
            have Hn := hide hn
            clear hn
            refine wp_cond_true rfl ?_
            go_wp2_with fail
            go_meet
            exact ⟨o, uo, po, kk7.setCell 1 (.pointer (some ⟨o, 0, none⟩)), bo7, (unhide HnB).1 (unhide Hn), PAt.only1 1 _⟩
        case rest =>
        obtain ⟨m2, um2, pm2, kk8, bm2, hs2, o8⟩ := hcut
        have hs2 := unhide hs2
        clear v1 v2 f1
        generalize hwc : wc = w8 at *
        clear hwc
        have s8 := o8.size
        have v1 := kk8.cell 1
        have v2 := kk8.cell 2
        have f2 := kk8.free 2
        unfold keeperC at v1 v2
        have kk9 := kk8.setCell 2 (.pointer (some ⟨m2, 0, none⟩))
        have o9 := PAt.only1 (w := w8) (p := k) 2 (.pointer (some ⟨m2, 0, none⟩))
        have hMk : ∀ x, M x → x ≠ k := fun x hx e => j0.MF x hx (.inr (.inr (.inr e)))
        have bm9 := (bm2.keep o8 hMk).keep o9 hMk
        have C7 := hide (copyBook_any bm9)
        have s9 : (w8.setCell ⟨k, 2, none⟩ (.pointer (some ⟨m2, 0, none⟩))).heap.size = w8.heap.size := by simp
        have v3 := kk9.cell 1
        simp only [keeperC] at v3
        go_wp2_with fail
        refine (unhide C7).mono ?_
        rintro e w10 ⟨rfl, b10, ho10⟩
        have s10 := ho10.size
        rw [s9] at b10 s10
        rw [s9]
        have kk10 := kk9.keep ho10 (fun h => h)
        have a0 := kk10.cell 0
        have a3 := kk10.cell 3
        have f0 := kk10.free 0
        have f3 := kk10.free 3
        simp only [keeperC] at a0 a3
        have kk11 := (kk10.setCell 0 (.pointer (some ⟨w8.heap.size, 0, none⟩))).setCell 3 (.bool false)
        have o11 := (PAt.only1 (w := w10) (p := k) 0 (.pointer (some ⟨w8.heap.size, 0, none⟩))).trans (PAt.only1 (p := k) 3 (.bool false)) (fun _ _ h => h)
        have hN : ∀ x, Ext (fun _ => False) (w8.setCell ⟨k, 2, none⟩ (.pointer (some ⟨m2, 0, none⟩))) w10 x → w8.heap.size ≤ x := by
          intro x hx; rcases hx with hx | hx
          · exact hx.elim
          · simpa using hx.1
        go_wp2_with fail
        go_roundw
        case rel =>
          have hk8 : k < w8.heap.size := by omega
          have f4 : ∀ x, F' x ∨ G' x → x ≠ k := fun x hx e => by have := hFl x hx; omega
          have p11 : PG _ w1.heap.size l' d' (recov D0) D0 (recRecs D0) false X (X.take 72) F' G' := ((((p7.keep o8 (fun x hx => f4 x (.inl hx)) (fun x hx => f4 x (.inr hx)) (by omega)).keep o9 (fun x hx => f4 x (.inl hx)) (fun x hx => f4 x (.inr hx)) (by omega)).quiet ho10).keep o11 (fun x hx => f4 x (.inl hx)) (fun x hx => f4 x (.inr hx)) (by omega))
          have p7i := p7.inF
          have p7g := p7.inG
          have p7p := p7.plt
          have bm11 := (bm9.keep ho10 (fun _ _ h => h)).keep o11 hMk
          refine ⟨kk + 1, w1.heap.size, (recRecs D0).length, by omega, by go_num, rfl, rfl, ⟨l', d', w8.heap.size, m2, m2, recov D0, D0, recRecs D0, false, X, X, X.take 72, um2, pm2, um2, pm2, um2, pm2, F', G', Ext (fun _ => False) (w8.setCell ⟨k, 2, none⟩ (.pointer (some ⟨m2, 0, none⟩))) w10, M, ⟨p11, kk11, b10.keep o11 (fun x hx e => by have := hN x hx; omega), bm11, bm11, hs2, hs2, ?_, ?_, ?_⟩, hs2, lX, unhide Hcu, rfl, ?_, ?_⟩, ?_, hvb, hkb, by omega⟩
          · intro x hx e
            have := hN x hx
            rcases e with e | e | e | e | e
            · have := p7i x e; omega
            · have := p7g x e; omega
            · omega
            · omega
            · have := mi x e; omega
          · intro x hx e
            have := mi x hx
            rcases e with e | e | e | e
            · have := hFl x (.inl e); omega
            · have := hFl x (.inr e); omega
            · omega
            · exact hMk x hx e
          · rintro (e | e | e)
            · exact f4 _ (.inl e) rfl
            · exact f4 _ (.inr e) rfl
            · omega
          · exact (((kv7.keep o8 hkv).keep o9 hkv).keep ho10 (fun h => h)).keep o11 hkv
          · rintro x (e | e | e | e)
            · have := hFl x (.inl e); omega
            · have := hFl x (.inr e); omega
            · have := hN x e; omega
            · exact hfp x (.inr (.inr (.inr e)))
          · exact Only.bel (Only.bel (Only.bel (Only.bel bel7 o8 (fun x e => by omega)) o9 (fun x e => by omega)) ho10 (fun _ h => h.elim)) o11 (fun x e => by omega)
        case measure => simp [intOf]; omega
      · as_aux_lemma =>
        have hcb : (ok != 13) = true := by simpa using hten
        have C1 := hide (qmark_any d l blk base recs F _ jo.pg.dk)
        clear hten
        go_wp2_with fail
        refine (unhide C1).mono ?_
        rintro e wm ⟨rfl, hdm, hom⟩
        have sm := hom.size
        simp only [World.size_alloc] at sm
        have jm := jo.marked hdm hom
        have kvm := kvo.keep hom (fun hf => (hfp _ (.inl hf)).2 rfl)
        have kom := ko.keep hom (fun hf => by have := fi _ hf; omega)
        have belm := Only.bel (Only.bel hbel oo (fun _ h => h.elim)) hom (fun x hx => (hfp x (.inl hx)).1)
        have hF1 : ∀ x, Ext F (wr.alloc (.cells #[.int .i64 ok, .int .i64 oa, .int .i64 ob, .int .i64 oc, .string os, .string ot] 40)) wm x → (w.heap.size ≤ x ∧ x ≠ vb) ∧ x ≠ wr.heap.size := by
          intro x hx; rcases hx with hx | hx
          · exact ⟨hfp x (.inl hx), by have := fi x hx; omega⟩
          · simp at hx; omega
        generalize Ext F (wr.alloc (.cells #[.int .i64 ok, .int .i64 oa, .int .i64 ob, .int .i64 oc, .string os, .string ot] 40)) wm = F1 at jm hF1
        have q1 := jm.kp.cell 1
        have q2 := jm.kp.cell 2
        have z2 := jm.kp.free 2
        unfold keeperC at q1 q2
        have jn := jm.olden
        have on := PAt.only1 (w := wm) (p := k) 2 (.pointer (some ⟨m, 0, none⟩))
        have kvn := kvm.keep on hkv
        have kon := kom.keep on (by omega)
        have beln := Only.bel belm on (fun x e => by omega)
        have sn := on.size
        have hjs := hide j0.sem
        have lcom := j0.pg.lcom
        have C2 := hide (keepPlay_any ok oa ob oc os ot hsz jn (by simp))
        have kc0 := kon.cell 0
        have kc1 := kon.cell 1
        have kc2 := kon.cell 2
        have kc3 := kon.cell 3
        have kc4 := kon.cell 4
        have kc5 := kon.cell 5
        have oF : ∀ x, (F1 x ∨ G x ∨ C x ∨ x = p ∨ x = k) → (w.heap.size ≤ x ∧ x ≠ vb) ∧ x ≠ wr.heap.size := by
          rintro x (h | h | h | h | h)
          · exact hF1 x h
          · exact ⟨hfp x (.inr (.inl h)), by have := gi x h; omega⟩
          · exact ⟨hfp x (.inr (.inr (.inl h))), by have := ci x h; omega⟩
          · subst h; omega
          · subst h; omega
        clear C1 cvo0 cvo1 kvo jo ko oo y0 y1 y2 y3 y4 y5 hdm hom j0 jm jn kom kvm belm
        go_wp2_with fail
        refine (unhide C2).mono ?_
        rintro e w3 ⟨rfl, c', m', blk', recs', op', com', view', uc', pc', um', pm', F', C', M', j3, hfp3, ho3, hwhat⟩
        as_aux_lemma =>
        have s3 := ho3.size
        have kv3 := kvn.keep ho3 (fun h => (oF _ h).1.2 rfl)
        have bel3 := Only.bel beln ho3 (fun x h => (oF x h).1.1)
        have hcut3 : CutInv blk recs' com com' := by
          rcases hwhat with ⟨rfl, rfl, rfl, h⟩ | ⟨rs, e1, rfl, h⟩
          · exact h
          · rw [List.nil_append] at e1; subst e1; exact h
        have hfp4 : ∀ x, F' x ∨ G x ∨ C' x ∨ M' x → w.heap.size ≤ x ∧ x ≠ vb := by
          have key : ∀ x, F' x ∨ C' x ∨ M' x → w.heap.size ≤ x ∧ x ≠ vb := by
            intro x hx
            rcases hfp3 x hx with h | h | h | h
            · exact (hF1 x h).1
            · exact hfp x (.inr (.inr (.inl h)))
            · exact hfp x (.inr (.inr (.inr h)))
            · simp at h; omega
          rintro x (h | h | h | h)
          · exact key x (.inl h)
          · exact hfp x (.inr (.inl h))
          · exact key x (.inr (.inl h))
          · exact key x (.inr (.inr h))
        have C3 := hide (qsteps_any d l _ _ _ _ w3 j3.pg.dk)
        have v0 := kv3.cell 0
        have v1 := kv3.cell 1
        unfold belowC at v0 v1
        clear C2 kc0 kc1 kc2 kc3 kc4 kc5 kon kvn beln on q1 q2 z2 hwhat hfp3
        go_wp2_with fail
        refine (unhide C3).mono ?_
        rintro e w4 ⟨rfl, ho4⟩
        have j4 := j3.keep ho4
        have kv4 := kv3.keep ho4 (fun h => h)
        have bel4 := Only.bel bel3 ho4 (fun _ h => h.elim)
        have u0 := j4.kp.cell 0
        have u3 := j4.kp.cell 3
        unfold keeperC at u0 u3
        have C4 := hide (jshows (j4.keep ((Only.refl (fun _ => False) w4).drew)))
        clear C3 v0 v1 j3 kv3 bel3 ho4
        go_upto_region 22 with fail
        go_cut [90] (fun v wx => v = .bool false ∧ JK wx p l d k c' m' m blk' blk recs' op' com' view' uc' pc' um' pm' um pm F' G C' M' ∧ Only (fun x => G x ∨ x = p) w4 wx)
        case first =>
          go_region_held3 (fun w' => w'.cell? ⟨k, 0, none⟩ = some (.pointer (some ⟨c', 0, none⟩)) ∧ w'.cell? ⟨k, 3, none⟩ = some (.bool op')) (first | exact ⟨s0, s3⟩ | exact ⟨u0, u3⟩) (first | (go_at_call 9; refine (unhide C4).mono ?_; rintro e w5 ⟨rfl, j5, ho5⟩; have s0 := j5.kp.cell 0; have s3 := j5.kp.cell 3))
          all_goals
            go_wp2_with fail
            go_meet
            exact ⟨rfl, j5, ((Only.refl (fun x => G x ∨ x = p) _).drew).trans ho5 (fun _ _ h => h)⟩
        case rest =>
        obtain ⟨rfl, j5, ho5⟩ := hcut
        generalize hwc : wc = w5 at *
        clear hwc
        have j5 := unhide j5
        have kv5 := kv4.keep ho5 (by rintro (h | h); exact (hfp _ (.inr (.inl h))).2 rfl; omega)
        have bel5 := Only.bel bel4 ho5 (by rintro x (h | h); exact (hfp _ (.inr (.inl h))).1; omega)
        have C5 := hide (qsteps_any d l _ _ _ _ w5 j5.pg.dk)
        have v0 := kv5.cell 0
        have v1 := kv5.cell 1
        unfold belowC at v0 v1
        have hrr : ((recs'.length : Int) != (recs'.length : Int)) = false := by simp
        clear C4 u0 u3 j4 kv4 bel4
        go_wp2_with fail
        refine (unhide C5).mono ?_
        rintro e w6 ⟨rfl, ho6⟩
        go_wp2_with fail
        go_roundw
        case rel => exact ⟨kk + 1, p, recs'.length, by omega, by go_num, rfl, rfl, ⟨l, d, c', m', m, blk', blk, recs', op', com', com, view', uc', pc', um', pm', um, pm, F', G, C', M', j5.keep ho6, unhide hjs, lcom, hcut3, rfl, kv5.keep ho6 (fun h => h), hfp4⟩, Only.bel bel5 ho6 (fun _ h => h.elim), hvb, hkb, hpb⟩
        case measure => simp [intOf]; omega
    · have hkI : decide ((kk : Int) < (len : Int)) = false := by simp; omega
      go_wp2_with fail
      go_ret
      exact ⟨rfl, hqi.bel⟩

theorem qkeeps_any (ad : Option Addr) (len cap : Nat) (ops : List OpD) (w : World) (hops : OpsAt w ad len ops) (hlen : len ≤ 4398046511104) :
    Calls Try.prog 3 #[.slice ad len cap] w fun e w' => e = .returned (.bool true) ∧ Below w.heap.size w w' := by
  go_enter Try.func3, Try.ntmps3
  go_wp2_with fail
  refine (qkeepsUpTo_any ad len cap ops _ hops hlen).mono ?_
  rintro e w' ⟨rfl, hb⟩
  go_wp2_with fail
  go_ret
  exact ⟨rfl, hb⟩

end Go.Proofs.Qxb6500411a
