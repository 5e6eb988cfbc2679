/-
  OWN WORK. THE PAGER LAW's REFINEMENT WALK.
-/
import Derived.Test.Qxb6500411aGreatVWalk0
namespace Go.Proofs.Qxb6500411aGreat
open Go.RowKit
set_option linter.unusedSimpArgs false
set_option linter.unusedVariables false

set_option maxRecDepth 100000 in
set_option maxHeartbeats 16000000 in
theorem qwalk_any (ad : Option Addr) (len cap : Nat) (ops : List OpD) (steady quiet : Bool) (w : World) (hops : OpsAt w ad len ops) (hlen : len ≤ 4398046511104) :
    Calls Tryz.prog 7 #[.slice ad len cap, .bool steady, .bool quiet] w fun e w' => (∃ v, e = .returned (.tuple #[.int .i64 (-1), v])) ∧ Below w.heap.size w w' := by
  go_enter Tryz.func7, Tryz.ntmps7
  go_wp2_with fail
  refine (qground_any _).mono ?_
  rintro e w1 ⟨d, l, F, G, rfl, h1, hFG, ho1⟩
  unfold belowV
  have s1 := ho1.size
  have o2 : Only (fun _ => False) w1 (w1.alloc (.cells (belowC d l) 30)) := (Only.refl _ w1).alloc _
  have kv := Has.new w1 (belowC d l) 30
  have h2 := h1.quiet o2
  have C1 : Calls Tryz.prog 9 #[belowV d l] (w1.alloc (.cells (belowC d l) 30)) fun e w' => e = .returned (.int .i64 0) ∧ Only (fun _ => False) (w1.alloc (.cells (belowC d l) 30)) w' := by simpa using qsteps_any d l _ _ _ _ _ h2.dk
  have C1 := hide C1
  unfold belowC at C1
  go_wp2_with fail
  refine (unhide C1).mono ?_
  rintro e w3 ⟨rfl, ho3⟩
  change Only (fun _ => False) (w1.alloc (.cells (belowC d l) 30)) w3 at ho3
  have s3 := ho3.size
  simp only [World.size_alloc] at s3
  have kv3 := kv.keep ho3 (fun h => h)
  have cv1 := kv3.cell 1
  unfold belowC at cv1
  have h3 := h2.quiet ho3
  have C2 := hide (pnew_any h3)
  clear C1
  go_wp2_with fail
  refine (unhide C2).mono ?_
  rintro e w4 ⟨rfl, p4, ho4⟩
  have s4 := ho4.size
  have pl4 := p4.plt
  have kv4 := kv3.keep ho4 (fun h => h)
  go_wp2_with fail
  refine (nnew_any _).mono ?_
  rintro e w5 ⟨q0, rfl, hm5, ho5⟩
  have s5 := ho5.size
  have C3 := hide (nmark_any hm5)
  go_wp2_with fail
  refine (unhide C3).mono ?_
  rintro e w6 ⟨rfl, hm6, ho6⟩
  have s6 := ho6.size
  have C4 := hide (nclone_any hm6)
  go_wp2_with fail
  refine (unhide C4).mono ?_
  rintro e w7 ⟨rfl, hb7, ho7⟩
  have s7 := ho7.size
  have N5 : ∀ x, Ext (fun _ => False) w4 w5 x → w4.heap.size ≤ x ∧ x < w5.heap.size := fun x hx => newN hx
  have N6 : ∀ x, Ext (Ext (fun _ => False) w4 w5) w5 w6 x → w4.heap.size ≤ x ∧ x < w6.heap.size := by
    intro x hx
    rcases hx with hx | hx
    · have := N5 x hx; omega
    · omega
  have N7 : ∀ x, Ext (fun _ => False) w6 w7 x → w6.heap.size ≤ x ∧ x < w7.heap.size := fun x hx => newN hx
  have fi := p4.inF
  have gi := p4.inG
  have hFGv : ∀ x, F x ∨ G x → x ≠ w1.heap.size := fun x hx e => by
    rcases hx with hx | hx
    · have := h1.inF x hx; omega
    · have := h1.inG x hx; omega
  have j7 : JR w7 w3.heap.size l d q0 (zeros 153) (zeros 153) [] false (zeros 80) ((zeros 80).take 72) (nots 72) (zeros 72) (nots 72) (zeros 72) none F G (Ext (Ext (fun _ => False) w4 w5) w5 w6) := by
    have mz : MapOk (((zeros 80).take 72).getD 0 emptyB) := MapOk.zero
    refine ⟨(((p4.quiet ho5).keep ho6 (fun x hx e => ?_) (fun x hx e => ?_) (fun e => ?_)).quiet ho7), ⟨_, _, hm6.quiet ho7, .inl ⟨rfl, rfl, rfl⟩⟩, sees_zero, sees_zero, mz, mz, ?_⟩
    · have := N5 x e; have := fi x hx; omega
    · have := N5 x e; have := gi x hx; omega
    · have := N5 _ e; omega
    · rintro x hx (e | e | e)
      · have := N6 x hx; have := fi x e; omega
      · have := N6 x hx; have := gi x e; omega
      · have := N6 x hx; omega
  have kv7 := ((kv4.keep ho5 (fun h => h)).keep ho6 (fun e => by have := N5 _ e; omega)).keep ho7 (fun h => h)
  have hVI : ∀ wx, JR wx w3.heap.size l d q0 (zeros 153) (zeros 153) [] false (zeros 80) ((zeros 80).take 72) (nots 72) (zeros 72) (nots 72) (zeros 72) none F G (Ext (Ext (fun _ => False) w4 w5) w5 w6) → Only (fun k => G k ∨ k = w3.heap.size) w7 wx → VI w w1.heap.size w3.heap.size q0 w6.heap.size wx := by
    intro wx jx hox
    have mz : MapOk (((zeros 80).take 72).getD 0 emptyB) := MapOk.zero
    refine ⟨⟨l, d, _, _, _, _, _, zeros 80, _, _, _, _, _, _, F, G, _, nots 72, zeros 72, Ext (fun _ => False) w6 w7, jx, ⟨_, _, _, hb7.keep hox ?_⟩, sees_zero, mz, by simp, p4.still, kv7.keep hox ?_, ?_, ?_⟩, ?_, s1, by omega⟩
    · rintro x hx (e | e)
      · have := N7 x hx; have := gi x e; omega
      · have := N7 x hx; omega
    · rintro (e | e)
      · exact hFGv _ (.inr e) rfl
      · omega
    · rintro x (hx | hx | hx | hx)
      · exact ⟨hFG x (.inl hx), hFGv x (.inl hx)⟩
      · exact ⟨hFG x (.inr hx), hFGv x (.inr hx)⟩
      · have := N6 x hx; omega
      · have := N7 x hx; omega
    · rintro x hx (e | e | e | e)
      · have := N7 x hx; have := fi x e; omega
      · have := N7 x hx; have := gi x e; omega
      · have := N7 x hx; have := N6 x e; omega
      · have := N7 x hx; omega
    · have b5 := Only.bel (Below.refl _ _) ((((ho1.trans o2 (fun _ _ h => h)).trans ho3 (fun _ _ h => h)).trans ho4 (fun _ _ h => h)).trans ho5 (fun _ _ h => h)) (fun _ h => h.elim)
      exact Only.bel (Only.bel (Only.bel b5 ho6 (fun x e => by have := N5 x e; omega)) ho7 (fun _ h => h.elim)) hox (by rintro x (e | e); exact hFG x (.inr e); omega)
  have HVI := hide hVI
  have hGb : ∀ x, G x → w.heap.size ≤ x := fun x hx => hFG x (.inr hx)
  have hp3 : w.heap.size ≤ w3.heap.size := by omega
  have hv3 : w1.heap.size ≠ w3.heap.size := by omega
  clear hVI hb7 hm6 hm5 C2 C3 C4 N5 N6 N7 fi gi ho7 ho6 ho5 ho4 kv4 p4 h3 h2 kv3 kv cv1 o2 s4 s5 s6 s7 pl4 hFG h1 ho3 ho1 s3
  generalize w6.heap.size = qb0 at HVI ⊢
  generalize w3.heap.size = p0 at *
  generalize w1.heap.size = vb at *
  generalize Ext (Ext (fun _ => False) w4 w5) w5 w6 = H at j7 HVI
  go_upto_region 7 with fail
  go_cut [42] (fun v wx => v = .bool false ∧ JR wx p0 l d q0 (zeros 153) (zeros 153) [] false (zeros 80) ((zeros 80).take 72) (nots 72) (zeros 72) (nots 72) (zeros 72) none F G H ∧ Only (fun k => G k ∨ k = p0) w7 wx)
  case first =>
    cases quiet with
    | true =>
      go_wp2_with fail
      go_meet
      exact ⟨rfl, j7, Only.refl _ _⟩
    | false =>
      obtain ⟨ub, pb, hm7, _⟩ := j7.md
      have C5 := hide (loud_any j7.pg hm7 j7.off j7.map j7.see)
      go_wp2_with fail
      refine (unhide C5).mono ?_
      rintro e w8 ⟨rfl, p8, ho8⟩
      go_wp2_with fail
      go_meet
      exact ⟨rfl, j7.pager ho8 p8, ho8⟩
  case rest =>
  obtain ⟨rfl, j8, ho8⟩ := hcut
  generalize hwc : wc = w8 at *
  clear hwc
  have kv8 := kv7.keep ho8 (by rintro (e | e); exact hFGv _ (.inr e) rfl; exact hv3 e)
  have hVI8 := unhide HVI w8 j8 ho8
  have v0 := kv8.cell 0
  have v1 := kv8.cell 1
  unfold belowC at v0 v1
  obtain ⟨cur8, pc8⟩ := j8.pg.c
  obtain ⟨ub8, pb8, hm8, _⟩ := j8.md
  have C6 := hide (bracket_any pc8.lg hm8)
  clear HVI j7 kv7 ho8
  go_wp2_with fail
  refine (unhide C6).mono ?_
  rintro e w9 ⟨rfl, ho9⟩
  have kv9 := kv8.keep ho9 (fun h => h)
  have u0 := kv9.cell 0
  have u1 := kv9.cell 1
  unfold belowC at u0 u1
  have C7 := hide (bounded_any (pc8.quiet ho9) (hm8.quiet ho9) j8.see)
  clear v0 v1 C6
  go_wp2_with fail
  refine (unhide C7).mono ?_
  rintro e w10 ⟨rfl, ho10⟩
  have kv10 := kv9.keep ho10 (fun h => h)
  have v0 := kv10.cell 0
  have v1 := kv10.cell 1
  unfold belowC at v0 v1
  have C8 : Calls Tryz.prog 9 #[belowV d l] w10 fun e w' => e = .returned (.int .i64 0) ∧ Only (fun _ => False) w10 w' := by simpa using qsteps_any d l _ _ _ _ _ ((pc8.quiet ho9).quiet ho10).lg.dk
  have C8 := hide C8
  clear u0 u1 C7
  go_wp2_with fail
  refine (unhide C8).mono ?_
  rintro e w11 ⟨rfl, ho11⟩
  have hVI11 := ((hVI8.keep ho9).keep ho10).keep ho11
  clear C8 v0 v1 ho11 kv10 ho10 kv9 ho9 pc8 hm8 hVI8 kv8 j8 hGb hp3 hv3 hFGv
  go_wp2_with fail
  go_loopw [10, 11, 12, 13] (fun x mv bv i wr => ∃ k p q qb : Nat, k ≤ len ∧ i = .int .i64 k ∧ x = .pointer (some ⟨p, 0, none⟩) ∧ mv = .pointer (some ⟨q, 0, none⟩) ∧ bv = .pointer (some ⟨qb, 0, none⟩) ∧ VI w vb p q qb wr) (fun _ _ _ i _ => len - (intOf i).toNat)
  case atStart => exact ⟨0, p0, q0, qb0, Nat.zero_le _, rfl, rfl, rfl, rfl, hVI11⟩
  case round =>
    clear hVI11
    obtain ⟨k, p, q, qb, hk, rfl, rfl, rfl, rfl, hvi⟩ := hrel
    by_cases hkl : k < len
    · obtain ⟨hol, hoa⟩ := hops
      obtain ⟨ab, aoff, rfl, hcells⟩ := hoa (by omega)
      obtain ⟨y0, y1, y2, y3, y4, y5, hsz⟩ := hcells k (by omega)
      clear hcells hoa
      have hbel := hvi.bel
      have hab : ab < w.heap.size := World.block_lt_of_cell? w ⟨ab, aoff + k * 6, none⟩ y0
      rw [← hbel.cell (p := ⟨ab, aoff + k * 6, none⟩) hab] at y0
      rw [← hbel.cell (p := ⟨ab, aoff + k * 6 + 1, none⟩) hab] at y1
      rw [← hbel.cell (p := ⟨ab, aoff + k * 6 + 2, none⟩) hab] at y2
      rw [← hbel.cell (p := ⟨ab, aoff + k * 6 + 3, none⟩) hab] at y3
      rw [← hbel.cell (p := ⟨ab, aoff + k * 6 + 4, none⟩) hab] at y4
      rw [← hbel.cell (p := ⟨ab, aoff + k * 6 + 5, none⟩) hab] at y5
      generalize ops[k]'(by omega) = o at *
      obtain ⟨ok, oa, ob, oc, os, ot⟩ := o
      simp only at y0 y1 y2 y3 y4 y5 hsz
      have hkI : (k : Int) < (len : Int) := by omega
      have hkM : decide ((k : Int) < 4398046511104) = true := by simp; omega
      have hvb := hvi.vb
      have hpb := hvi.pb
      have oo : Only (fun _ => False) wr (wr.alloc (.cells #[.int .i64 ok, .int .i64 oa, .int .i64 ob, .int .i64 oc, .string os, .string ot] 40)) := (Only.refl _ wr).alloc _
      have ko := Has.new wr #[.int .i64 ok, .int .i64 oa, .int .i64 ob, .int .i64 oc, .string os, .string ot] 40
      by_cases hten : ok = 13
      · subst hten
        cases steady with
        | true =>
          go_wp2_with fail
          go_roundw
          case rel => exact ⟨k + 1, p, q, qb, by omega, by go_num, rfl, rfl, rfl, hvi.keep oo⟩
          case measure => simp [intOf]; omega
        | false =>
          as_aux_lemma =>
          obtain ⟨⟨l, d, blk, base, recs, op, com, was, view, uc, pc, um, pm, hist, F, G, H, uo, po, B, j0, ⟨bu, bp, bop, hb0⟩, hso, hmo, lwas, hcu, kv, hrg, hB0⟩, _, _, _⟩ := hvi
          have hvl := kv.lt
          have kvo := kv.alloc (.cells #[.int .i64 13, .int .i64 oa, .int .i64 ob, .int .i64 oc, .string os, .string ot] 40)
          have cvo0 := kvo.cell 0
          have cvo1 := kvo.cell 1
          unfold belowC at cvo0 cvo1
          have jo := j0.keep oo
          have hl146 := hcu.short
          have C1 := hide (qsteps_any d l blk base recs F _ jo.pg.dk)
          have hX : ∃ X : List ByteArray, X.length = 80 ∧ Shows (recov (replay base (recs.take oa.toNat))) X ∧ (X = was ∨ X = com) ∧ (oa ≤ 0 → X = was) ∧ ((recs.length : Int) ≤ oa → X = com) := by
            have lcom := j0.pg.lcom
            rcases hcu.either oa.toNat with h | h
            · refine ⟨was, lwas, h, .inl rfl, fun _ => rfl, fun h' => ?_⟩
              exact Shows.inj lwas lcom h (hcu.work oa.toNat (by omega))
            · refine ⟨com, lcom, h, .inr rfl, fun h' => ?_, fun _ => rfl⟩
              have e0 : oa.toNat = 0 := by omega
              have := hcu.foot
              rw [← e0] at this
              exact Shows.inj lcom lwas h this
          obtain ⟨X, lX, hX, hXo, hXf, hXw⟩ := hX
          have hmX : MapOk ((X.take 72).getD 0 emptyB) := by
            rcases hXo with e | e
            · rw [e]; exact hmo
            · rw [e]; exact j0.mac
          have HXo := hide hXo
          have HXf := hide hXf
          have HXw := hide hXw
          have HmX := hide hmX
          have Hso := hide hso
          have Hsem := hide j0.sem
          have fi := j0.pg.inF
          have hiH := j0.inH
          have hiB := hb0.inn
          clear hXo hXf hXw hmX hso hmo
          go_wp2_with fail
          refine (unhide C1).mono ?_
          rintro e w1 ⟨rfl, ho1⟩
          have s1 := ho1.size
          simp only [World.size_alloc] at s1
          have kv1 := kvo.keep ho1 (fun h => h)
          have ko1 := ko.keep ho1 (fun h => h)
          have j1 := jo.keep ho1
          have o2 : Only (fun _ => False) w1 (w1.alloc (.cells (belowC d l) 30)) := (Only.refl _ w1).alloc _
          have vk2 : VK vb (w1.heap.size + 1) d l blk base recs F q um pm H qb uo po B w1.heap.size wr.heap.size #[.int .i64 13, .int .i64 oa, .int .i64 ob, .int .i64 oc, .string os, .string ot] w (w1.alloc (.cells (belowC d l) 30)) := by
            have j2 := j1.keep o2
            obtain ⟨ub, pb, hm2, hh2⟩ := j2.md
            refine ⟨j2.pg.dk, ⟨uc, pc, ub, pb, hist, op, hm2, hh2⟩, ⟨bu, bp, bop, ((hb0.quiet oo).quiet ho1).quiet o2⟩, Has.new w1 _ _, ko1.keep o2 (fun h => h), ?_, ?_, ⟨by omega, hvb⟩, by simp⟩
            · rintro x (h | h | h | h | h)
              · have := fi x h; exact ⟨by omega, (hrg x (.inl h)).2⟩
              · have := hiH x h; exact ⟨by omega, (hrg x (.inr (.inr (.inl h)))).2⟩
              · have := hiB x h; exact ⟨by omega, (hrg x (.inr (.inr (.inr h)))).2⟩
              · omega
              · omega
            · exact Only.bel (Only.bel (Only.bel hbel oo (fun _ h => h.elim)) ho1 (fun _ h => h.elim)) o2 (fun _ h => h.elim)
          have kv2 := kv1.keep o2 (fun h => h)
          have C2 := hide (qafter_any d l blk base recs F oa was com _ vk2.dk hcu)
          have x0 := kv1.cell 0
          have x1 := kv1.cell 1
          have n0 := vk2.kb.cell 0
          have n1 := vk2.kb.cell 1
          have m1 := vk2.kop.cell 1
          have hagain := hide (hcu.again oa.toNat hX)
          have hcut0 := hide hcu
          unfold belowC at x0 x1 n0 n1 m1 C2
          clear C1 cvo0 cvo1 kvo jo ko oo y0 y1 y2 y3 y4 y5 j1 j0 hb0 ho1 ko1 fi hiH hiB hbel
          go_wp2_with fail
          refine (unhide C2).mono ?_
          rintro e w3 ⟨d', l', F', G', rfl, hd3, hl3, hFG3, hFl, ho3⟩
          change Only (fun _ => False) (w1.alloc (.cells (belowC d l) 30)) w3 at ho3
          as_aux_lemma =>
          unfold belowV
          have s3 := ho3.size
          simp only [World.size_alloc] at s3 hFl
          have vk3 := vk2.quiet ho3
          have kv3 := kv2.keep ho3 (fun h => h)
          have x0 := kv3.cell 0
          have x1 := kv3.cell 1
          have z0 := kv3.free 0
          have z1 := kv3.free 1
          unfold belowC at x0 x1
          have kv4 := (kv3.setCell 0 (.pointer (some ⟨d', 0, none⟩))).setCell 1 (.pointer (some ⟨l', 0, none⟩))
          have o4 := (PAt.only1 (w := w3) (p := vb) 0 (.pointer (some ⟨d', 0, none⟩))).trans (PAt.only1 (p := vb) 1 (.pointer (some ⟨l', 0, none⟩))) (fun _ _ h => h)
          have s4 : ((w3.setCell ⟨vb, 0, none⟩ (.pointer (some ⟨d', 0, none⟩))).setCell ⟨vb, 1, none⟩ (.pointer (some ⟨l', 0, none⟩))).heap.size = w3.heap.size := by simp
          have vk4 := vk3.keep o4 (fun k e => .inr e)
          have hd4 := hd3.keep o4 (fun x hx e => by have := hFl x (.inl hx); omega)
          have hl4 := hl3.keep o4 (fun x hx e => by have := hFl x (.inr hx); omega)
          have lg4 := LG.cut hcu lX hX hd4 hl4 hFG3
          have C3 := hide (qsteps_any d' l' _ _ _ _ _ lg4.dk)
          have HX := hide hX
          generalize hD0 : replay base (recs.take oa.toNat) = D0 at *
          have HD0 := hide hD0
          clear hD0 hX
          have y0 := kv4.cell 0
          have y1 := kv4.cell 1
          simp only [belowC] at y0 y1
          clear C2 n0 n1 m1 kv1 kv2 vk2 vk3 hd3 hl3 ho3 hd4 hl4 o2
          go_wp2_with fail
          generalize hw4 : (w3.setCell ⟨vb, 0, none⟩ (.pointer (some ⟨d', 0, none⟩))).setCell ⟨vb, 1, none⟩ (.pointer (some ⟨l', 0, none⟩)) = w4 at *
          clear hw4 o4 x0 x1 z0 z1 kv3
          refine (unhide C3).mono ?_
          rintro e w5 ⟨rfl, ho5⟩
          have s5 := ho5.size
          have vk5 := vk4.quiet ho5
          have kv5 := kv4.keep ho5 (fun h => h)
          have x1 := kv5.cell 1
          simp only [belowC] at x1
          have C4 := hide (popen_any (lg4.quiet ho5))
          clear C3 y0 y1
          go_wp2_with fail
          refine (unhide C4).mono ?_
          rintro e w6 ⟨rfl, p6, ho6⟩
          have s6 := ho6.size
          have vk6 := vk5.quiet ho6
          have pl6 := p6.plt
          have fi6 := p6.inF
          have gi6 := p6.inG
          have vn6 : VN vb (w1.heap.size + 1) w6.heap.size w5.heap.size l' d' D0 X F' G' w6 := by
            refine ⟨p6, kv5.keep ho6 (fun h => h), ?_, by omega, Nat.le_refl _⟩
            rintro x (h | h | h)
            · have := hFl x (.inl h); have := fi6 x h; omega
            · have := hFl x (.inr h); have := gi6 x h; omega
            · omega
          have C5 := hide (inner_any p6 (unhide HmX))
          clear C4 x1 kv4 kv5 vk4 vk5 lg4 ho5 ho6 p6
          go_wp2_with fail
          refine (unhide C5).mono ?_
          rintro e w7 ⟨rfl, ho7⟩
          as_aux_lemma =>
          have s7 := ho7.size
          have vk7 := vk6.quiet ho7
          have vn7 := vn6.quiet ho7
          obtain ⟨bu', bp', bop', hb7⟩ := vk7.mb
          have C6 := hide (ncrashed_none hb7)
          clear C5 vk6 vn6 ho7
          go_wp2_with fail
          refine (unhide C6).mono ?_
          rintro e w8 ⟨rfl, hc8, ho8⟩
          have s8 := ho8.size
          have vk8 := vk7.quiet ho8
          have vn8 := vn7.quiet ho8
          have hE8 : ∀ x, Ext (fun _ => False) w7 w8 x → w6.heap.size ≤ x := fun x hx => by have := newN hx; omega
          have C7 := hide (alike_any vn8.pg hc8 (vn8.off hE8))
          clear C6 vk7 vn7 ho8 hb7
          go_wp2_with fail
          refine (unhide C7).mono ?_
          rintro e w9 ⟨⟨nB, rfl, hnB⟩, p9, ho9⟩
          have s9 := ho9.size
          have hGp : ∀ x, (G' x ∨ x = w5.heap.size) → w1.heap.size + 1 ≤ x ∨ x = vb := by
            rintro x (h | h)
            · have := vn8.rg x (.inr (.inl h)); omega
            · omega
          have vk9 := vk8.keep ho9 hGp
          have vn9 := vn8.look ho9 p9
          obtain ⟨uc', pc', ub', pb', hist', op', hm9, hh9⟩ := vk9.md
          have C8 := hide (ncrashed_com hm9 hh9)
          have HnB := hide hnB
          clear C7 vk8 vn8 ho9 hc8 p9 hnB hE8
          go_wp2_with fail
          refine (unhide C8).mono ?_
          rintro e w10 ⟨rfl, hc10, ho10⟩
          have s10 := ho10.size
          have vk10 := vk9.quiet ho10
          have vn10 := vn9.quiet ho10
          have hE10 : ∀ x, Ext (fun _ => False) w9 w10 x → w6.heap.size ≤ x := fun x hx => by have := newN hx; omega
          have C9 := hide (alike_any vn10.pg hc10 (vn10.off hE10))
          clear C8 vk9 vn9 ho10 hm9
          go_wp2_with fail
          refine (unhide C9).mono ?_
          rintro e w11 ⟨⟨aB, rfl, haB⟩, p11, ho11⟩
          as_aux_lemma =>
          have s11 := ho11.size
          have vk11 := vk10.keep ho11 hGp
          have vn11 := vn10.look ho11 p11
          have HaB := hide haB
          have hnw : X = was → nB = true := fun e => (unhide HnB).2 (e ▸ unhide Hso)
          have hac : X = com → aB = true := fun e => haB.2 (e ▸ unhide Hsem)
          have Hna := hide (show nB = true ∨ aB = true from (unhide HXo).elim (fun e => .inl (hnw e)) (fun e => .inr (hac e)))
          have Hn0 := hide (show oa ≤ 0 → nB = true from fun h => hnw (unhide HXf h))
          have Ha0 := hide (show (recs.length : Int) ≤ oa → aB = true from fun h => hac (unhide HXw h))
          have co11 := vk11.kop.cell 1
          clear C9 vk10 vn10 ho11 hc10 p11 haB hE10 hnw hac HXo HXf HXw Hso Hsem
          go_upto_region 48 with fail
          go_cut [156] (fun v wx => v = .bool false ∧ w11 = wx)
          case first =>
            rcases unhide Hna with h | h
            · subst h
              go_wp2_with fail
              go_meet
              exact ⟨rfl, rfl⟩
            · subst h
              cases nB
              · go_wp2_with fail
                go_meet
                exact ⟨rfl, rfl⟩
              · go_wp2_with fail
                go_meet
                exact ⟨rfl, rfl⟩
          case rest =>
          obtain ⟨rfl, rfl⟩ := hcut
          go_upto_region 50 with fail
          go_cut [165] (fun v wx => v = .bool false ∧ w11 = wx)
          case first =>
            by_cases h0 : oa ≤ 0
            · have h0b := unhide Hn0 h0
              subst h0b
              go_wp2_with fail
              go_meet
              exact ⟨rfl, rfl⟩
            · have h0b : decide (oa ≤ 0) = false := by simpa using h0
              go_wp2_with fail
              go_meet
              exact ⟨rfl, rfl⟩
          case rest =>
          obtain ⟨rfl, rfl⟩ := hcut
          go_upto_region 52 with fail
          go_cut [175] (fun v wx => v = .bool false ∧ w11 = wx)
          case first =>
            by_cases h0 : (recs.length : Int) ≤ oa
            · have h0b := unhide Ha0 h0
              subst h0b
              go_wp2_with fail
              go_meet
              exact ⟨rfl, rfl⟩
            · have h0b : decide ((recs.length : Int) ≤ oa) = false := by simpa using h0
              go_wp2_with fail
              go_meet
              exact ⟨rfl, rfl⟩
          case rest =>
          obtain ⟨rfl, rfl⟩ := hcut
          as_aux_lemma =>
          go_upto_region 54 with fail
          go_upto_if 178 with fail
          go_cut [11] (fun v wx => ∃ u g qX Hx, v = .pointer (some ⟨qX, 0, none⟩) ∧ SeesAll (X.take 72) u g ∧ MPAt wx qX u g u g u g none false Hx ∧ (∀ k, Hx k → w11.heap.size ≤ k) ∧ Only (fun _ => False) w11 wx)
          case first =>
            cases aB with
            | true =>
              refine wp_cond_true rfl ?_
              obtain ⟨uc2, pc2, ub2, pb2, hist2, op2, hm2, hh2⟩ := vk11.md
              have C14 := hide (ncrashed_com hm2 hh2)
              have HsX := hide ((unhide HaB).1 (by first | exact rfl | trivial))
              clear hm2
              go_wp2_with fail
              refine (unhide C14).mono ?_
              rintro e w15 ⟨rfl, hm15, ho15⟩
              go_wp2_with fail
              go_meet
              exact ⟨um, pm, _, _, rfl, unhide HsX, hm15, fun k hk => (newN hk).1, ho15⟩
            | false =>
              refine wp_cond_false rfl ?_
              have hnt : nB = true := (unhide Hna).resolve_right (by simp)
              obtain ⟨bu2, bp2, bop2, hb2⟩ := vk11.mb
              have C14 := hide (ncrashed_none hb2)
              have HsX := hide ((unhide HnB).1 hnt)
              clear hnt hb2
              go_wp2_with fail
              refine (unhide C14).mono ?_
              rintro e w15 ⟨rfl, hm15, ho15⟩
              go_wp2_with fail
              go_meet
              exact ⟨uo, po, _, _, rfl, unhide HsX, hm15, fun k hk => (newN hk).1, ho15⟩
          case rest =>
          obtain ⟨u, g, qX, Hx, rfl, hsX, hm15, hHx, ho15⟩ := hcut
          have HsX := hide hsX
          have HHx := hide hHx
          generalize hwc : wc = w15 at *
          clear hwc hsX
          have s15 := ho15.size
          have vk15 := vk11.quiet ho15
          have vn15 := vn11.quiet ho15
          have C15 := hide (nmark_any hm15)
          clear co11 vk11 vn11 ho15 Hna Hn0 Ha0 HnB HaB
          go_wp2_with fail
          refine (unhide C15).mono ?_
          rintro e w16 ⟨rfl, hm16, ho16⟩
          have s16 := ho16.size
          have hlev := vn15.le
          have vk16 := vk15.keep ho16 (fun k hk => .inl (by have := unhide HHx k hk; omega))
          have vn16 := vn15.keep ho16 (fun k hk => by have := unhide HHx k hk; omega)
          have hH16 : ∀ k, Ext Hx w15 w16 k → w11.heap.size ≤ k ∧ k < w16.heap.size := by
            intro k hk
            refine ⟨?_, hm16.inn k hk⟩
            rcases hk with hk | hk
            · exact unhide HHx k hk
            · omega
          generalize Ext Hx w15 w16 = H16 at hm16 hH16
          have C16 := hide (nclone_any hm16)
          clear C15 vk15 vn15 hm15 ho16 hHx HHx
          go_wp2_with fail
          refine (unhide C16).mono ?_
          rintro e w17 ⟨rfl, hb17, ho17⟩
          as_aux_lemma =>
          have s17 := ho17.size
          have vk17 := vk16.quiet ho17
          have vn17 := vn16.quiet ho17
          have hm17 := hm16.quiet ho17
          have N17 : ∀ k, Ext (fun _ => False) w16 w17 k → w16.heap.size ≤ k ∧ k < w17.heap.size := fun k hk => newN hk
          generalize Ext (fun _ => False) w16 w17 = B17 at hb17 N17
          have C17 := hide (inner_any vn17.pg (unhide HmX))
          clear C16 vk16 vn16 hm16 ho17
          go_wp2_with fail
          refine (unhide C17).mono ?_
          rintro e w18 ⟨rfl, ho18⟩
          have s18 := ho18.size
          have vk18 := vk17.quiet ho18
          have vn18 := vn17.quiet ho18
          have hm18 := hm17.quiet ho18
          have hb18 := hb17.quiet ho18
          have C18 := hide (qsteps_any d' l' _ _ _ _ w18 vn18.pg.dk)
          have v0 := vn18.kv.cell 0
          have v1 := vn18.kv.cell 1
          simp only [belowC] at v0 v1
          have hrr : (((recRecs D0).length : Int) != ((recRecs D0).length : Int)) = false := by simp
          clear C17 vk17 vn17 hm17 hb17 ho18
          go_wp2_with fail
          refine (unhide C18).mono ?_
          rintro e w19 ⟨rfl, ho19⟩
          have s19 := ho19.size
          have vk19 := vk18.quiet ho19
          have vn19 := vn18.quiet ho19
          have hm19 := hm18.quiet ho19
          have hb19 := hb18.quiet ho19
          have hle19 := vk19.h0
          have hl6 : w6.heap.size ≤ w11.heap.size := by omega
          have hfin : ∀ (wx : World) (lo hi p2 l2 d2 : Nat) (F2 G2 : Nat → Prop), VN vb lo hi p2 l2 d2 D0 X F2 G2 wx → MPAt wx qX u g u g u g none false H16 → MPAt wx w16.heap.size u g u g u g none false B17 → w.heap.size ≤ lo → Below w.heap.size w wx → (∀ k, H16 k ∨ B17 k → ¬ (F2 k ∨ G2 k ∨ k = p2)) → VI w vb p2 qX w16.heap.size wx := by
            intro wx lo hi p2 l2 d2 F2 G2 hn hm hb hlo hbl hoff
            refine VN.fin (base := base) (recs := recs) (was := was) (com := com) (kk := 0) hn ?_ lX (unhide HsX) (unhide HmX) hm ⟨_, _, _, hb⟩ hlo hbl hvb ?_ ?_
            · exact unhide hagain
            · intro k hk
              have := hH16 k hk
              exact ⟨by omega, by omega, hoff k (.inl hk)⟩
            · intro k hk
              have := N17 k hk
              exact ⟨by omega, by omega, hoff k (.inr hk), fun h => by have := hH16 k h; omega⟩
          have Hfin := hide hfin
          clear hfin C18 v0 v1 vk18 vn18 hm18 hb18 ho19
          go_upto_region 63 with fail
          go_upto_if 198 with fail
          go_cut [10] (fun v wx => ∃ (lo hi p2 l2 d2 : Nat) (F2 G2 : Nat → Prop), v = .pointer (some ⟨p2, 0, none⟩) ∧ VN vb lo hi p2 l2 d2 D0 X F2 G2 wx ∧ MPAt wx qX u g u g u g none false H16 ∧ MPAt wx w16.heap.size u g u g u g none false B17 ∧ w.heap.size ≤ lo ∧ Below w.heap.size w wx ∧ (∀ k, H16 k ∨ B17 k → ¬ (F2 k ∨ G2 k ∨ k = p2)))
          case first =>
            cases quiet with
            | false =>
              refine wp_cond_false rfl ?_
              go_wp2_with fail
              go_meet
              refine ⟨_, _, _, l', d', F', G', rfl, vn19, hm19, hb19, by omega, vk19.bel, ?_⟩
              intro k hk e
              have hr := vn19.rg k e
              rcases hk with hk | hk
              · have := hH16 k hk; omega
              · have := N17 k hk; omega
            | true =>
              refine wp_cond_true rfl ?_
              have C19 := qafter_any d l blk base recs F oa was com _ vk19.dk (unhide hcut0)
              rw [unhide HD0] at C19
              have C19 := hide C19
              have n0 := vk19.kb.cell 0
              have n1 := vk19.kb.cell 1
              have m1 := vk19.kop.cell 1
              have t0 := vn19.kv.cell 0
              have t1 := vn19.kv.cell 1
              have z0 := vn19.kv.free 0
              have z1 := vn19.kv.free 1
              simp only [belowC] at n0 n1 m1 t0 t1
              have hvlt := vn19.kv.lt
              go_wp2_with fail
              refine (unhide C19).mono ?_
              rintro e w20 ⟨d2, l2, F2, G2, rfl, hd20, hl20, hFG20, hFl20, ho20⟩
              unfold belowV
              have s20 := ho20.size
              have kv20 := vn19.kv.keep ho20 (fun h => h)
              have t0 := kv20.cell 0
              have t1 := kv20.cell 1
              have z0 := kv20.free 0
              have z1 := kv20.free 1
              simp only [belowC] at t0 t1
              have kv21 := (kv20.setCell 0 (.pointer (some ⟨d2, 0, none⟩))).setCell 1 (.pointer (some ⟨l2, 0, none⟩))
              have o21 := (PAt.only1 (w := w20) (p := vb) 0 (.pointer (some ⟨d2, 0, none⟩))).trans (PAt.only1 (p := vb) 1 (.pointer (some ⟨l2, 0, none⟩))) (fun _ _ h => h)
              have s21 : ((w20.setCell ⟨vb, 0, none⟩ (.pointer (some ⟨d2, 0, none⟩))).setCell ⟨vb, 1, none⟩ (.pointer (some ⟨l2, 0, none⟩))).heap.size = w20.heap.size := by simp
              have vb21 : Below w.heap.size w ((w20.setCell ⟨vb, 0, none⟩ (.pointer (some ⟨d2, 0, none⟩))).setCell ⟨vb, 1, none⟩ (.pointer (some ⟨l2, 0, none⟩))) := Only.bel (Only.bel vk19.bel ho20 (fun _ h => h.elim)) o21 (fun x e => by omega)
              have hm21 := (hm19.quiet ho20).keep o21 (fun x hx e => by have := hH16 x hx; omega)
              have hb21 := (hb19.quiet ho20).keep o21 (fun x hx e => by have := N17 x hx; omega)
              have hd21 := hd20.keep o21 (fun x hx e => by have := hFl20 x (.inl hx); omega)
              have hl21 := hl20.keep o21 (fun x hx e => by have := hFl20 x (.inr hx); omega)
              have hXD : Shows (recov (replay base (recs.take oa.toNat))) X := by rw [unhide HD0]; exact unhide HX
              have lg21 : LG ((w20.setCell ⟨vb, 0, none⟩ (.pointer (some ⟨d2, 0, none⟩))).setCell ⟨vb, 1, none⟩ (.pointer (some ⟨l2, 0, none⟩))) l2 d2 (recov D0) D0 (recRecs D0) false X X F2 G2 := by
                have := LG.cut (w := (w20.setCell ⟨vb, 0, none⟩ (.pointer (some ⟨d2, 0, none⟩))).setCell ⟨vb, 1, none⟩ (.pointer (some ⟨l2, 0, none⟩))) (l := l2) (d := d2) (F := F2) (G := G2) (unhide hcut0) lX hXD (by rw [unhide HD0]; exact hd21) hl21 hFG20
                rw [unhide HD0] at this
                exact this
              have C20 := popen_any lg21
              rw [s21] at C20
              have C20 := hide C20
              have q1 := kv21.cell 1
              simp only [belowC] at q1
              clear C19 n0 n1 m1 hXD hd20 hl20 hd21 hl21 kv20
              go_wp2_with fail
              refine (unhide C20).mono ?_
              rintro e w22 ⟨rfl, p22, ho22⟩
              have s22 := ho22.size
              have pl22 := p22.plt
              have fi22 := p22.inF
              have gi22 := p22.inG
              go_wp2_with fail
              go_meet
              refine ⟨w19.heap.size, w22.heap.size, w20.heap.size, l2, d2, F2, G2, rfl, ⟨p22, kv21.keep ho22 (fun h => h), ?_, by omega, Nat.le_refl _⟩, hm21.quiet ho22, hb21.quiet ho22, by omega, Only.bel vb21 ho22 (fun _ h => h.elim), ?_⟩
              · rintro x (h | h | h)
                · have := hFl20 x (.inl h); have := fi22 x h; omega
                · have := hFl20 x (.inr h); have := gi22 x h; omega
                · omega
              · rintro k hk e
                have hk2 : k < w17.heap.size := by
                  rcases hk with hk | hk
                  · have := hH16 k hk; omega
                  · have := N17 k hk; omega
                rcases e with e | e | e
                · have := hFl20 k (.inl e); omega
                · have := hFl20 k (.inr e); omega
                · omega
          case rest =>
          obtain ⟨lo, hi, p2, l2, d2, F2, G2, rfl, vn23, hm23, hb23, hlo, hbel23, hoff23⟩ := hcut
          as_aux_lemma =>
          generalize hwc : wc = w23 at *
          clear hwc vk19 vn19 hm19 hb19
          have Hoff := hide hoff23
          clear hoff23
          obtain ⟨cur23, pc23⟩ := vn23.pg.c
          have C21 := hide (bracket_any pc23.lg hm23)
          have v0 := vn23.kv.cell 0
          have v1 := vn23.kv.cell 1
          simp only [belowC] at v0 v1
          go_wp2_with fail
          refine (unhide C21).mono ?_
          rintro e w24 ⟨rfl, ho24⟩
          have vn24 := vn23.quiet ho24
          have hm24 := hm23.quiet ho24
          have hb24 := hb23.quiet ho24
          have bel24 := Only.bel hbel23 ho24 (fun _ h => h.elim)
          have C22 := hide (bounded_any (pc23.quiet ho24) hm24 (unhide HsX))
          have u0 := vn24.kv.cell 0
          have u1 := vn24.kv.cell 1
          simp only [belowC] at u0 u1
          clear C21 v0 v1 vn23 hm23 hb23 pc23
          go_wp2_with fail
          refine (unhide C22).mono ?_
          rintro e w25 ⟨rfl, ho25⟩
          have vn25 := vn24.quiet ho25
          have hm25 := hm24.quiet ho25
          have hb25 := hb24.quiet ho25
          have bel25 := Only.bel bel24 ho25 (fun _ h => h.elim)
          have C23 := hide (qsteps_any d2 l2 _ _ _ _ w25 vn25.pg.dk)
          have v0 := vn25.kv.cell 0
          have v1 := vn25.kv.cell 1
          simp only [belowC] at v0 v1
          clear C22 u0 u1 vn24 hm24 hb24
          go_wp2_with fail
          refine (unhide C23).mono ?_
          rintro e w26 ⟨rfl, ho26⟩
          go_wp2_with fail
          go_roundw
          case rel => exact ⟨k + 1, p2, qX, w16.heap.size, by omega, by go_num, rfl, rfl, rfl, unhide Hfin w26 lo hi p2 l2 d2 F2 G2 (vn25.quiet ho26) (hm25.quiet ho26) (hb25.quiet ho26) hlo (Only.bel bel25 ho26 (fun _ h => h.elim)) (unhide Hoff)⟩
          case measure => simp [intOf]; omega
      · as_aux_lemma =>
        obtain ⟨⟨l, d, blk, base, recs, op, com, was, view, uc, pc, um, pm, hist, F, G, H, uo, po, B, j0, hb0, hso, hmo, lwas, hcu, kv, hrg, hB0⟩, _, _, _⟩ := hvi
        have hcb : (ok != 13) = true := by simpa using hten
        have kvo := kv.alloc (.cells #[.int .i64 ok, .int .i64 oa, .int .i64 ob, .int .i64 oc, .string os, .string ot] 40)
        have cvo0 := kvo.cell 0
        have cvo1 := kvo.cell 1
        unfold belowC at cvo0 cvo1
        have hvl := kv.lt
        have hpl := j0.pg.plt
        have hpv := j0.pg.pne kv
        have jo := j0.keep oo
        have fi := j0.pg.inF
        have gi := j0.pg.inG
        have hi := j0.inH
        have hjs := hide j0.sem
        have hjm := hide j0.mac
        have lcom := j0.pg.lcom
        have C1 := hide (qmark_any d l blk base recs F _ jo.pg.dk)
        clear hten hb0 hso hmo hcu hB0
        go_wp2_with fail
        refine (unhide C1).mono ?_
        rintro e wm ⟨rfl, hdm, hom⟩
        have sm := hom.size
        simp only [World.size_alloc] at sm
        have jm := jo.marked hdm hom
        have kvm := kvo.keep hom (fun hf => (hrg _ (.inl hf)).2 rfl)
        have kom := ko.keep hom (fun hf => by have := fi _ hf; omega)
        have belm := Only.bel (Only.bel hbel oo (fun _ h => h.elim)) hom (fun x hx => (hrg x (.inl hx)).1)
        have hF1 : ∀ x, Ext F (wr.alloc (.cells #[.int .i64 ok, .int .i64 oa, .int .i64 ob, .int .i64 oc, .string os, .string ot] 40)) wm x → (w.heap.size ≤ x ∧ x ≠ vb) ∧ x ≠ wr.heap.size := by
          intro x hx; rcases hx with hx | hx
          · exact ⟨hrg x (.inl hx), by have := fi x hx; omega⟩
          · simp at hx; omega
        generalize Ext F (wr.alloc (.cells #[.int .i64 ok, .int .i64 oa, .int .i64 ob, .int .i64 oc, .string os, .string ot] 40)) wm = F1 at jm hF1
        obtain ⟨ub, pb, hmm, _⟩ := jm.md
        have C2 := hide (nmark_any hmm)
        clear C1 cvo0 cvo1 y0 y1 y2 y3 y4 y5 kvo jo ko oo hdm
        go_wp2_with fail
        refine (unhide C2).mono ?_
        rintro e w2 ⟨rfl, hm2, ho2⟩
        have s2 := ho2.size
        have j2 := jm.mmarked hm2 ho2
        have kv2 := kvm.keep ho2 (fun hf => (hrg _ (.inr (.inr (.inl hf)))).2 rfl)
        have ko2 := kom.keep ho2 (fun hf => by have := hi _ hf; omega)
        have bel2 := Only.bel belm ho2 (fun x hx => (hrg x (.inr (.inr (.inl hx)))).1)
        have hH1 : ∀ x, Ext H wm w2 x → ((w.heap.size ≤ x ∧ x ≠ vb) ∧ x ≠ wr.heap.size) ∧ x < w2.heap.size := by
          intro x hx
          refine ⟨?_, hm2.inn x hx⟩
          rcases hx with hx | hx
          · exact ⟨hrg x (.inr (.inr (.inl hx))), by have := hi x hx; omega⟩
          · omega
        generalize Ext H wm w2 = H1 at j2 hm2 hH1
        have C3 := hide (nclone_any hm2)
        have fi2 := j2.pg.inF
        have gi2 := j2.pg.inG
        have pl2 := j2.pg.plt
        clear C2 jm hmm
        go_wp2_with fail
        refine (unhide C3).mono ?_
        rintro e w3 ⟨rfl, hb3, ho3⟩
        as_aux_lemma =>
        have s3 := ho3.size
        have j3 := j2.keep ho3
        have kv3 := kv2.keep ho3 (fun h => h)
        have ko3 := ko2.keep ho3 (fun h => h)
        have bel3 := Only.bel bel2 ho3 (fun _ h => h.elim)
        have N3 : ∀ x, Ext (fun _ => False) w2 w3 x → w2.heap.size ≤ x ∧ x < w3.heap.size := fun x hx => newN hx
        generalize Ext (fun _ => False) w2 w3 = B3 at hb3 N3
        have C4 := hide (nintxn_any hb3)
        have C5 := hide (rplay_any ok oa ob oc os ot (!quiet) hsz j3 (by simp))
        have v0 := kv3.cell 0
        have v1 := kv3.cell 1
        have kc0 := ko3.cell 0
        have kc1 := ko3.cell 1
        have kc2 := ko3.cell 2
        have kc3 := ko3.cell 3
        have kc4 := ko3.cell 4
        have kc5 := ko3.cell 5
        unfold belowC at v0 v1
        have oF : ∀ x, (F1 x ∨ G x ∨ H1 x ∨ x = p) → (w.heap.size ≤ x ∧ x ≠ vb) ∧ x ≠ wr.heap.size := by
          rintro x (h | h | h | h)
          · exact hF1 x h
          · exact ⟨hrg x (.inr (.inl h)), by have := gi x h; omega⟩
          · exact (hH1 x h).1
          · subst h; omega
        have oB : ∀ x, B3 x → ¬ (F1 x ∨ G x ∨ H1 x ∨ x = p) := by
          rintro x hx (h | h | h | h)
          · have := N3 x hx; have := fi2 x h; omega
          · have := N3 x hx; have := gi2 x h; omega
          · have := N3 x hx; have := (hH1 x h).2; omega
          · have := N3 x hx; omega
        clear C3 j2 kv2 ko2 bel2 ho3 hm2 kvm kom belm
        go_wp2_with fail
        refine (unhide C4).mono ?_
        rintro e w4 ⟨rfl, rfl⟩
        go_wp2_with fail
        refine (unhide C5).mono ?_
        rintro e w5 ⟨rfl, blk', recs', op', com', view', uc', pc', um', pm', hist', F', H', j5, hfp5, ho5, hwhat⟩
        as_aux_lemma =>
        have s5 := ho5.size
        have kv5 := kv3.keep ho5 (fun h => (oF _ h).1.2 rfl)
        have ko5 := ko3.keep ho5 (fun h => (oF _ h).2 rfl)
        have bel5 := Only.bel bel3 ho5 (fun x h => (oF x h).1.1)
        have hb5 := hb3.keep ho5 oB
        have hcut5 : CutInv blk recs' com com' := by
          rcases hwhat with ⟨rfl, rfl, rfl, h⟩ | ⟨_, _, rs, e1, rfl, h⟩
          · exact h
          · rw [List.nil_append] at e1; subst e1; exact h
        have hq : recs' = [] ∨ (ok = 2 ∧ op = true) := by
          rcases hwhat with ⟨_, h, _, _⟩ | ⟨h1, h2, _⟩
          · exact .inl h
          · exact .inr ⟨h1, h2⟩
        have h146 := hcut5.short
        have hfp6 : ∀ x, F' x ∨ G x ∨ H' x ∨ B3 x → w.heap.size ≤ x ∧ x ≠ vb := by
          have key : ∀ x, F' x ∨ H' x → w.heap.size ≤ x ∧ x ≠ vb := by
            intro x hx
            rcases hfp5 x hx with h | h | h
            · exact (hF1 x h).1
            · exact (hH1 x h).1.1
            · omega
          rintro x (h | h | h | h)
          · exact key x (.inl h)
          · exact hrg x (.inr (.inl h))
          · exact key x (.inr h)
          · have := N3 x h; omega
        have hB6 : ∀ x, B3 x → ¬ (F' x ∨ G x ∨ H' x ∨ x = p) := by
          rintro x hx (h | h | h | h)
          · rcases hfp5 x (.inl h) with e | e | e
            · exact oB x hx (.inl e)
            · exact oB x hx (.inr (.inr (.inl e)))
            · have := N3 x hx; omega
          · exact oB x hx (.inr (.inl h))
          · rcases hfp5 x (.inr h) with e | e | e
            · exact oB x hx (.inl e)
            · exact oB x hx (.inr (.inr (.inl e)))
            · have := N3 x hx; omega
          · exact oB x hx (.inr (.inr (.inr h)))
        obtain ⟨cur5, pc5⟩ := j5.pg.c
        obtain ⟨ub5, pb5, hm5, hh5⟩ := j5.md
        have C6 := hide (outer_any pc5 hm5 j5.see ok oa ob oc os ot op hq h146)
        have u0 := kv5.cell 0
        have u1 := kv5.cell 1
        have t0 := ko5.cell 0
        have t1 := ko5.cell 1
        have t2 := ko5.cell 2
        have t3 := ko5.cell 3
        have t4 := ko5.cell 4
        have t5 := ko5.cell 5
        unfold belowC at u0 u1
        have Hq := hide hq
        have fin : ∀ wx, JR wx p l d q blk' blk recs' op' com' view' uc' pc' um' pm' hist' F' G H' → Only (fun x => G x ∨ x = p) w5 wx → VI w vb p q w2.heap.size wx := fun wx jx hox =>
          ⟨⟨l, d, blk', blk, recs', op', com', com, view', uc', pc', um', pm', hist', F', G, H', um, pm, B3, jx, ⟨_, _, _, hb5.keep hox (fun x hx e => hB6 x hx (by rcases e with e | e; exact .inr (.inl e); exact .inr (.inr (.inr e))))⟩, unhide hjs, unhide hjm, lcom, hcut5, kv5.keep hox (by rintro (e | e); exact (hrg _ (.inr (.inl e))).2 rfl; exact hpv e), hfp6, hB6⟩,
            Only.bel bel5 hox (by rintro x (e | e); exact (hrg x (.inr (.inl e))).1; omega), hvb, hpb⟩
        have Fin := hide fin
        clear hwhat hq fin hfp5 hB6 hfp6 oB oF ho5 v0 v1 kc0 kc1 kc2 kc3 kc4 kc5 C4 C5 kv3 ko3 bel3 hb3 hb5 bel5 j3
        go_wp2_with fail
        refine (unhide C6).mono ?_
        rintro e w6 ⟨rfl, ho6⟩
        have j6 := j5.keep ho6
        have kv6 := kv5.keep ho6 (fun h => h)
        have ko6 := ko5.keep ho6 (fun h => h)
        have v0 := kv6.cell 0
        have v1 := kv6.cell 1
        unfold belowC at v0 v1
        have C7 := hide (qsteps_any d l _ _ _ _ w6 j6.pg.dk)
        have o56 : Only (fun x => G x ∨ x = p) w5 w6 := ho6.mono (fun _ _ h => h.elim)
        clear C6 u0 u1 t0 t1 t2 t3 t4 t5 pc5 hm5 j5 ho6
        go_wp2_with fail
        refine (unhide C7).mono ?_
        rintro e w7 ⟨rfl, ho7⟩
        have j7 := j6.keep ho7
        have kv7 := kv6.keep ho7 (fun h => h)
        have ko7 := ko6.keep ho7 (fun h => h)
        have o57 : Only (fun x => G x ∨ x = p) w5 w7 := o56.trans ho7 (fun _ _ h => h.elim)
        have hrr : ((recs'.length : Int) != (recs'.length : Int)) = false := by simp
        clear C7 v0 v1 j6 kv6 ko6 o56 ho7
        go_upto_region 29 with fail
        go_upto_if 101 with fail
        go_cut [] (fun wx => JR wx p l d q blk' blk recs' op' com' view' uc' pc' um' pm' hist' F' G H' ∧ Only (fun x => G x ∨ x = p) w5 wx)
        case first =>
          cases quiet with
          | true =>
            refine wp_cond_false rfl ?_
            go_wp2_with fail
            go_meet
            exact ⟨j7, o57⟩
          | false =>
            refine wp_cond_true rfl ?_
            obtain ⟨ub7, pb7, hm7, hh7⟩ := j7.md
            have C8 := hide (loud_any j7.pg hm7 j7.off j7.map j7.see)
            go_wp2_with fail
            refine (unhide C8).mono ?_
            rintro e w8 ⟨rfl, p8, ho8⟩
            have j8 := j7.pager ho8 p8
            have kv8 := kv7.keep ho8 (by rintro (e | e); exact (hrg _ (.inr (.inl e))).2 rfl; exact hpv e)
            have ko8 := ko7.keep ho8 (by rintro (e | e); have := gi _ e; omega; omega)
            obtain ⟨cur8, pc8⟩ := j8.pg.c
            obtain ⟨ub8, pb8, hm8, hh8⟩ := j8.md
            have C9 := hide (outer_any pc8 hm8 j8.see ok oa ob oc os ot op (unhide Hq) h146)
            have u0 := kv8.cell 0
            have u1 := kv8.cell 1
            have t0 := ko8.cell 0
            have t1 := ko8.cell 1
            have t2 := ko8.cell 2
            have t3 := ko8.cell 3
            have t4 := ko8.cell 4
            have t5 := ko8.cell 5
            unfold belowC at u0 u1
            clear C8 hm7 pc8 hm8
            go_wp2_with fail
            refine (unhide C9).mono ?_
            rintro e w9 ⟨rfl, ho9⟩
            go_wp2_with fail
            go_meet
            exact ⟨j8.keep ho9, (o57.trans ho8 (fun _ _ h => h)).trans ho9 (fun _ _ h => h.elim)⟩
        case rest =>
        obtain ⟨j9, o59⟩ := hcut
        generalize hwc : wc = w9 at *
        clear hwc
        have kv9 := kv5.keep o59 (by rintro (e | e); exact (hrg _ (.inr (.inl e))).2 rfl; exact hpv e)
        have v0 := kv9.cell 0
        have v1 := kv9.cell 1
        unfold belowC at v0 v1
        have C10 := hide (qsteps_any d l _ _ _ _ w9 j9.pg.dk)
        clear j7 kv7 ko7 o57
        go_wp2_with fail
        refine (unhide C10).mono ?_
        rintro e w10 ⟨rfl, ho10⟩
        go_wp2_with fail
        go_roundw
        case rel => exact ⟨k + 1, p, q, w2.heap.size, by omega, by go_num, rfl, rfl, rfl, unhide Fin w10 (j9.keep ho10) (o59.trans ho10 (fun _ _ h => h.elim))⟩
        case measure => simp [intOf]; omega
    · have hkI : decide ((k : Int) < (len : Int)) = false := by simp; omega
      by_cases hl8 : len < 4398046511104
      · have hl9 : decide ((len : Int) < 4398046511104) = true := by simp; omega
        go_wp2_with fail
        go_ret2
        exact ⟨⟨_, rfl⟩, hvi.bel⟩
      · have hl9 : decide ((len : Int) < 4398046511104) = false := by simp; omega
        go_wp2_with fail
        go_ret2
        exact ⟨⟨_, rfl⟩, hvi.bel⟩
end Go.Proofs.Qxb6500411aGreat
