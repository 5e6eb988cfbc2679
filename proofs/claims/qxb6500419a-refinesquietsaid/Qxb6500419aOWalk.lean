/-
  OWN WORK. THE OBJECT LAW's WALK.
-/
import Derived.Test.Qxb6500419aOWalk0
namespace Go.Proofs.Qxb6500419a
open Go.RowKit
set_option linter.unusedSimpArgs false
set_option linter.unusedVariables false

set_option maxRecDepth 100000 in
set_option maxHeartbeats 16000000 in
theorem olwalk_any (ad : Option Addr) (len cap : Nat) (ops : List OpD) (steady quiet : Bool) (w : World) (hops : OpsAt w ad len ops) (hlen : len ≤ 4398046511104) :
    Calls Try.prog 7 #[.slice ad len cap, .bool steady, .bool quiet] w fun e w' => (∃ v, e = .returned (.tuple #[.int .i64 (-1), v])) ∧ Below w.heap.size w w' := by
  go_enter Try.func7, Try.ntmps7
  go_wp2_with fail
  refine (olground_any _).mono ?_
  rintro e w1 ⟨d, rfl, h1, ho1⟩
  have s1 := ho1.size
  have N1 : ∀ x, Ext (fun _ => False) w w1 x → w.heap.size ≤ x ∧ x < w1.heap.size := fun x hx => newO hx
  generalize Ext (fun _ => False) w w1 = F at h1 N1
  have o2 : Only (fun _ => False) w1 (w1.alloc (.cells #[.pointer (some ⟨d, 0, none⟩)] 29)) := (Only.refl _ w1).alloc _
  have kv := Has.new w1 #[.pointer (some ⟨d, 0, none⟩)] 29
  have h2 := h1.quiet o2
  have C1 := hide (onew_any h2 img_zero)
  have sz2 : (w1.alloc (.cells #[.pointer (some ⟨d, 0, none⟩)] 29)).heap.size = w1.heap.size + 1 := by simp
  rw [sz2] at C1
  go_wp2_with fail
  refine (unhide C1).mono ?_
  rintro e w3 ⟨rfl, h3, ho3⟩
  have s3 := ho3.size
  rw [sz2] at s3
  have kv3 := kv.keep ho3 (fun h => h)
  have sl3 := h3.lt
  clear C1
  go_wp2_with fail
  refine (mnew_any _).mono ?_
  rintro e w4 ⟨rfl, hm4, ho4⟩
  have s4 := ho4.size
  have N4 : ∀ x, Ext (fun _ => False) w3 w4 x → w3.heap.size ≤ x ∧ x < w4.heap.size := fun x hx => newO hx
  generalize Ext (fun _ => False) w3 w4 = H at hm4 N4
  have C2 := hide (mclone_any hm4)
  go_wp2_with fail
  refine (unhide C2).mono ?_
  rintro e w5 ⟨rfl, hb5, ho5⟩
  have s5 := ho5.size
  have N5 : ∀ x, Ext (fun _ => False) w4 w5 x → w4.heap.size ≤ x ∧ x < w5.heap.size := fun x hx => newO hx
  generalize Ext (fun _ => False) w4 w5 = G at hb5 N5
  have j5 : OJ w5 (w1.heap.size + 1) d w3.heap.size (fun _ => 0) (fun _ => 0) [] (fun _ => Ob.free) 0 (.slice none 0 0) F H := by
    refine ⟨(h3.quiet ho4).quiet ho5, hm4.quiet ho5, fun k hk e => ?_⟩
    have := N4 k hk
    rcases e with e | e
    · have := N1 k e; omega
    · omega
  have kv5 := (kv3.keep ho4 (fun h => h)).keep ho5 (fun h => h)
  have bel5 := Only.bel (Only.bel (Only.bel (Only.bel (Only.bel (Below.refl _ _) ho1 (fun _ h => h.elim)) o2 (fun _ h => h.elim)) ho3 (fun _ h => h.elim)) ho4 (fun _ h => h.elim)) ho5 (fun _ h => h.elim)
  have hVI5 : OVI w w1.heap.size (w1.heap.size + 1) w3.heap.size w4.heap.size w5 := by
    refine ⟨⟨d, _, _, [], _, 0, _, F, H, _, 0, G, j5, ⟨_, hb5⟩, rfl, fun kk hk => by simp at hk, j5.os.img, fun _ => ⟨rfl, rfl⟩, fun r hr => by simp at hr, by simp, kv5, ?_, ?_⟩, bel5, s1⟩
    · rintro x (hx | hx | hx | hx)
      · have := N1 x hx; omega
      · have := N4 x hx; omega
      · have := N5 x hx; omega
      · omega
    · rintro x hx (e | e | e)
      · have := N5 x hx; have := N1 x e; omega
      · have := N5 x hx; have := N4 x e; omega
      · have := N5 x hx; omega
  have C3 := olsteps_any j5.os.dev
  have C3 : Calls Try.prog 12 #[.agg #[.pointer (some ⟨d, 0, none⟩)]] w5 fun e w' => e = .returned (.int .i64 0) ∧ Only (fun _ => False) w5 w' := by simpa using C3
  have C3 := hide C3
  have v0 := kv5.cell 0
  clear C2 hb5 hm4 kv3 kv h3 h2 h1 o2 bel5 ho5 ho4 ho3
  generalize w4.heap.size = mb0 at *
  generalize w3.heap.size = m0 at *
  generalize hs0 : w1.heap.size + 1 = sv at *
  generalize hvb0 : w1.heap.size = vb at *
  clear hs0 hvb0
  go_wp2_with fail
  refine (unhide C3).mono ?_
  rintro e w6 ⟨rfl, ho6⟩
  have j6 := j5.quiet ho6
  have hVI6 := hVI5.keep ho6
  have kv6 := kv5.keep ho6 (fun h => h)
  have v0 := kv6.cell 0
  clear C3 j5 hVI5 kv5 ho6
  go_upto_region 7 with fail
  go_upto_if 35 with fail
  go_cut [] (fun wx => Only (fun _ => False) w6 wx)
  case first =>
    cases quiet with
    | true =>
      refine wp_cond_false rfl ?_
      go_wp2_with fail
      go_meet
      exact Only.refl _ _
    | false =>
      refine wp_cond_true rfl ?_
      have C4 := hide (seen_any j6 0 rfl)
      go_wp2_with fail
      refine (unhide C4).mono ?_
      rintro e w7 ⟨rfl, ho7⟩
      go_wp2_with fail
      go_meet
      exact ho7
  case rest =>
  have hVI7 := hVI6.keep hcut
  generalize hwc : wc = w7 at *
  clear hwc hcut hVI6 kv6 v0 j6
  go_wp2_with fail
  go_loopw [9, 10, 11, 12] (fun x mv bv i wr => ∃ k s m mb : Nat, k ≤ len ∧ i = .int .i64 k ∧ x = .pointer (some ⟨s, 0, none⟩) ∧ mv = .pointer (some ⟨m, 0, none⟩) ∧ bv = .pointer (some ⟨mb, 0, none⟩) ∧ OVI w vb s m mb wr) (fun _ _ _ i _ => len - (intOf i).toNat)
  case atStart => exact ⟨0, sv, m0, mb0, Nat.zero_le _, rfl, rfl, rfl, rfl, hVI7⟩
  case round =>
    clear hVI7
    obtain ⟨k, s, m, mb, hk, rfl, rfl, rfl, rfl, hvi⟩ := hrel
    by_cases hkl : k < len
    · obtain ⟨hol, hoa⟩ := hops
      obtain ⟨ab, aoff, rfl, hcells⟩ := hoa (by omega)
      obtain ⟨y0, y1, y2, y3, y4, y5, hsz⟩ := hcells k (by omega)
      clear hcells hoa
      have hbel := hvi.bel
      have hab : ab < w.heap.size := World.block_lt_of_cell? w ⟨ab, aoff + k * 6, none⟩ y0
      rw [← hbel.cell (p := ⟨ab, aoff + k * 6, none⟩) hab] at y0
      rw [← hbel.cell (p := ⟨ab, aoff + k * 6 + 1, none⟩) hab] at y1
      rw [← hbel.cell (p := ⟨ab, aoff + k * 6 + 2, none⟩) hab] at y2
      rw [← hbel.cell (p := ⟨ab, aoff + k * 6 + 3, none⟩) hab] at y3
      rw [← hbel.cell (p := ⟨ab, aoff + k * 6 + 4, none⟩) hab] at y4
      rw [← hbel.cell (p := ⟨ab, aoff + k * 6 + 5, none⟩) hab] at y5
      generalize ops[k]'(by omega) = o at *
      obtain ⟨ok, oa, oo2, oc, os, ot⟩ := o
      simp only at y0 y1 y2 y3 y4 y5 hsz
      have hkI : (k : Int) < (len : Int) := by omega
      have hkM : decide ((k : Int) < 4398046511104) = true := by simp; omega
      have hvb := hvi.vb
      have oo : Only (fun _ => False) wr (wr.alloc (.cells #[.int .i64 ok, .int .i64 oa, .int .i64 oo2, .int .i64 oc, .string os, .string ot] 38)) := (Only.refl _ wr).alloc _
      have ko := Has.new wr #[.int .i64 ok, .int .i64 oa, .int .i64 oo2, .int .i64 oc, .string os, .string ot] 38
      by_cases hten : ok = 6
      · subst hten
        cases steady with
        | true =>
          go_wp2_with fail
          go_roundw
          case rel => exact ⟨k + 1, s, m, mb, by omega, by go_num, rfl, rfl, rfl, hvi.keep oo⟩
          case measure => simp [intOf]; omega
        | false =>
          as_aux_lemma =>
          obtain ⟨⟨d, D, B, recs, ob, rt, hist, F, H, ob0, rt0, G, j0, ⟨hist0, hb0⟩, hDr, hmid, himB, hstill, hkeys, hfew, kv, hrg, hG0⟩, _, _⟩ := hvi
          have hvl := kv.lt
          have kvo := kv.alloc (.cells #[.int .i64 6, .int .i64 oa, .int .i64 oo2, .int .i64 oc, .string os, .string ot] 38)
          have cvo0 := kvo.cell 0
          have jo := j0.quiet oo
          have C1 := hide (olsteps_any jo.os.dev)
          have himA := j0.os.img
          have hX : ∃ (obX : Nat → Ob) (rtX : Nat), Img (replayB B (recs.take oa.toNat)) rtX (per obX) ∧ ((per obX = per ob0 ∧ rtX = rt0) ∨ (per obX = per ob ∧ rtX = rt)) ∧ (oa ≤ 0 → per obX = per ob0 ∧ rtX = rt0) ∧ ((recs.length : Int) ≤ oa → per obX = per ob ∧ rtX = rt) := by
            by_cases hlt : oa.toNat < recs.length
            · exact ⟨ob0, rt0, hmid _ hlt, .inl ⟨rfl, rfl⟩, fun _ => ⟨rfl, rfl⟩, fun h => by omega⟩
            · refine ⟨ob, rt, ?_, .inr ⟨rfl, rfl⟩, fun h => ?_, fun _ => ⟨rfl, rfl⟩⟩
              · rw [List.take_of_length_le (by omega), ← hDr]; exact himA
              · have : recs = [] := List.length_eq_zero_iff.1 (by omega)
                exact hstill this
          obtain ⟨obX, rtX, hI, hXo, hXf, hXw⟩ := hX
          have HXo := hide hXo
          have HXf := hide hXf
          have HXw := hide hXw
          have HI := hide hI
          have HA := hide himA.idle
          have HB := hide himB.idle
          have Hkeys := hide hkeys
          have fi := j0.os.inn
          have hiH := j0.md.inn
          have hiG := hb0.inn
          clear hXo hXf hXw hI himA himB hmid hstill hDr hkeys
          go_wp2_with fail
          refine (unhide C1).mono ?_
          rintro e w1 ⟨rfl, ho1⟩
          have s1 := ho1.size
          simp only [World.size_alloc] at s1
          have kv1 := kvo.keep ho1 (fun h => h)
          have ko1 := ko.keep ho1 (fun h => h)
          have j1 := jo.quiet ho1
          have o2 : Only (fun _ => False) w1 (w1.alloc (.cells #[.pointer (some ⟨d, 0, none⟩)] 29)) := (Only.refl _ w1).alloc _
          have vk2 : OVK vb (w1.heap.size + 1) d D B recs F m ob rt H mb ob0 rt0 G w1.heap.size wr.heap.size #[.int .i64 6, .int .i64 oa, .int .i64 oo2, .int .i64 oc, .string os, .string ot] w (w1.alloc (.cells #[.pointer (some ⟨d, 0, none⟩)] 29)) := by
            have j2 := j1.quiet o2
            refine ⟨j2.os.dev, ⟨_, j2.md⟩, ⟨_, ((hb0.quiet oo).quiet ho1).quiet o2⟩, Has.new w1 _ _, ko1.keep o2 (fun h => h), ?_, ?_, ⟨by omega, hvb⟩, by simp⟩
            · rintro x (h | h | h | h | h)
              · have := fi x h; exact ⟨by omega, (hrg x (.inl h)).2⟩
              · have := hiH x h; exact ⟨by omega, (hrg x (.inr (.inl h))).2⟩
              · have := hiG x h; exact ⟨by omega, (hrg x (.inr (.inr (.inl h)))).2⟩
              · omega
              · omega
            · exact Only.bel (Only.bel (Only.bel hbel oo (fun _ h => h.elim)) ho1 (fun _ h => h.elim)) o2 (fun _ h => h.elim)
          have kv2 := kv1.keep o2 (fun h => h)
          have C2 := hide (olafter_any vk2.dk oa (unhide Hkeys) (by omega))
          have x0 := kv1.cell 0
          have n0 := vk2.kb.cell 0
          have m1 := vk2.kop.cell 1
          clear C1 cvo0 kvo jo ko oo y0 y1 y2 y3 y4 y5 j1 j0 hb0 ho1 ko1 fi hiH hiG hbel
          go_wp2_with fail
          refine (unhide C2).mono ?_
          rintro e w3 ⟨d', F', rfl, hd3, hFl, ho3⟩
          as_aux_lemma =>
          have s3 := ho3.size
          simp only [World.size_alloc] at s3 hFl
          have vk3 := vk2.quiet ho3
          have kv3 := kv2.keep ho3 (fun h => h)
          have x0 := kv3.cell 0
          have z0 := kv3.free 0
          have kv4 := kv3.setCell 0 (.pointer (some ⟨d', 0, none⟩))
          have o4 : Only (fun k => k = vb) w3 (w3.setCell ⟨vb, 0, none⟩ (.pointer (some ⟨d', 0, none⟩))) := (Only.refl (fun k => k = vb) w3).setCell (p := ⟨vb, 0, none⟩) (fun _ => rfl) _
          have s4 : (w3.setCell ⟨vb, 0, none⟩ (.pointer (some ⟨d', 0, none⟩))).heap.size = w3.heap.size := by simp
          have vk4 := vk3.keep o4 (fun k e => .inr e)
          have hd4 := hd3.keep o4 (fun x hx e => by have := hFl x hx; omega)
          have C3 := open_any hd4 (unhide HI)
          rw [s4] at C3
          have C3 := hide C3
          generalize hD0 : replayB B (recs.take oa.toNat) = D0 at *
          have HD0 := hide hD0
          clear hD0
          have y0 := kv4.cell 0
          simp at y0
          clear C2 n0 m1 kv1 kv2 vk2 vk3 hd3 ho3 o2
          go_wp2_with fail
          generalize hw4 : w3.setCell ⟨vb, 0, none⟩ (.pointer (some ⟨d', 0, none⟩)) = w4 at *
          clear hw4 o4 x0 z0 kv3
          refine (unhide C3).mono ?_
          rintro e w5 ⟨rfl, h5, ho5⟩
          have s5 := ho5.size
          have vk5 := vk4.quiet ho5
          have kv5 := kv4.keep ho5 (fun h => h)
          have x1 := kv5.cell 0
          have sl5 := h5.lt
          have fi5 := h5.inn
          have vn5 : OVN vb (w1.heap.size + 1) w5.heap.size w3.heap.size d' D0 (per obX) rtX F' w5 := by
            refine ⟨h5, ?_, ?_, by omega, Nat.le_refl _⟩
            · simpa using kv5
            · rintro x (h | h)
              · have := hFl x h; have := fi5 x h; omega
              · omega
          have C4 := olsteps_any h5.dev
          have C4 : Calls Try.prog 12 #[.agg #[.pointer (some ⟨d', 0, none⟩)]] w5 fun e w' => e = .returned (.int .i64 0) ∧ Only (fun _ => False) w5 w' := by simpa using C4
          have C4 := hide C4
          simp at x1
          clear C3 y0 kv4 kv5 vk4 hd4 ho5 h5
          go_wp2_with fail
          refine (unhide C4).mono ?_
          rintro e w6 ⟨rfl, ho6⟩
          have s6 := ho6.size
          have vk6 := vk5.quiet ho6
          have vn6 := vn5.quiet ho6
          have C5 := hide (check_any vn6.os)
          clear C4 vk5 vn5 ho6 x1
          go_wp2_with fail
          refine (unhide C5).mono ?_
          rintro e w7 ⟨rfl, ho7⟩
          as_aux_lemma =>
          have s7 := ho7.size
          have vk7 := vk6.quiet ho7
          have vn7 := vn6.quiet ho7
          obtain ⟨hist7, hb7⟩ := vk7.mb
          have C6 := hide (mcrashed_any hb7)
          clear C5 vk6 vn6 ho7
          go_wp2_with fail
          refine (unhide C6).mono ?_
          rintro e w8 ⟨rfl, hc8, ho8⟩
          have s8 := ho8.size
          have vk8 := vk7.quiet ho8
          have vn8 := vn7.quiet ho8
          have N8 : ∀ x, Ext (fun _ => False) w7 w8 x → w7.heap.size ≤ x ∧ x < w8.heap.size := fun x hx => newO hx
          generalize Ext (fun _ => False) w7 w8 = H8 at hc8 N8
          have C7 := hide (alike_any vn8.os hc8)
          clear C6 vk7 vn7 ho8 hb7
          go_wp2_with fail
          refine (unhide C7).mono ?_
          rintro e w9 ⟨nB, rfl, hnB, ho9⟩
          have s9 := ho9.size
          have vk9 := vk8.quiet ho9
          have vn9 := vn8.quiet ho9
          have hc9 := hc8.quiet ho9
          obtain ⟨hist9, hm9⟩ := vk9.md
          have C8 := hide (mcrashed_any hm9)
          have HnB := hide hnB
          clear C7 vk8 vn8 ho9 hc8 hnB
          go_wp2_with fail
          refine (unhide C8).mono ?_
          rintro e w10 ⟨rfl, hc10, ho10⟩
          have s10 := ho10.size
          have vk10 := vk9.quiet ho10
          have vn10 := vn9.quiet ho10
          have hcb10 := hc9.quiet ho10
          have N10 : ∀ x, Ext (fun _ => False) w9 w10 x → w9.heap.size ≤ x ∧ x < w10.heap.size := fun x hx => newO hx
          generalize Ext (fun _ => False) w9 w10 = H10 at hc10 N10
          have C9 := hide (alike_any vn10.os hc10)
          clear C8 vk9 vn9 ho10 hm9 hc9
          go_wp2_with fail
          refine (unhide C9).mono ?_
          rintro e w11 ⟨aB, rfl, haB, ho11⟩
          as_aux_lemma =>
          have s11 := ho11.size
          have vk11 := vk10.quiet ho11
          have vn11 := vn10.quiet ho11
          have hcb11 := hcb10.quiet ho11
          have hcm11 := hc10.quiet ho11
          have hnw : per obX = per ob0 ∧ rtX = rt0 → nB = true := fun e => (unhide HnB).2 ⟨e.2, by rw [e.1]; rfl, by rw [e.1]; exact fun i hi => ⟨rfl, fun _ => ⟨rfl, rfl⟩⟩⟩
          have hac : per obX = per ob ∧ rtX = rt → aB = true := fun e => haB.2 ⟨e.2, by rw [e.1]; rfl, by rw [e.1]; exact fun i hi => ⟨rfl, fun _ => ⟨rfl, rfl⟩⟩⟩
          have Hna := hide (show nB = true ∨ aB = true from (unhide HXo).elim (fun e => .inl (hnw e)) (fun e => .inr (hac e)))
          have Hn0 := hide (show oa ≤ 0 → nB = true from fun h => hnw (unhide HXf h))
          have Ha0 := hide (show (recs.length : Int) ≤ oa → aB = true from fun h => hac (unhide HXw h))
          have hna : aB = true → rtX = rt ∧ Same3 (per obX) (per ob) := fun e => ⟨(haB.1 e).1, View.same (rt' := 0) (unhide HI) (unhide HA).1 (unhide HA).2 (haB.1 e).2.2⟩
          have hnn : nB = true → rtX = rt0 ∧ Same3 (per obX) (per ob0) := fun e => ⟨((unhide HnB).1 e).1, View.same (rt' := 0) (unhide HI) (unhide HB).1 (unhide HB).2 ((unhide HnB).1 e).2.2⟩
          have HaB := hide hna
          have HnB := hide hnn
          have co11 := vk11.kop.cell 1
          have C10 := olsteps_any vn11.os.dev
          have C10 : Calls Try.prog 12 #[.agg #[.pointer (some ⟨d', 0, none⟩)]] w11 fun e w' => e = .returned (.int .i64 0) ∧ Only (fun _ => False) w11 w' := by simpa using C10
          have C10 := hide C10
          have v11 := vn11.kv.cell 0
          clear C9 vk10 vn10 ho11 hc10 hcb10 haB hnw hac hna hnn HXo HXf HXw HI HA HB
          go_wp2_with fail
          refine (unhide C10).mono ?_
          rintro e w12 ⟨rfl, ho12⟩
          have s12 := ho12.size
          have vk12 := vk11.quiet ho12
          have vn12 := vn11.quiet ho12
          have hcb12 := hcb11.quiet ho12
          have hcm12 := hcm11.quiet ho12
          have co12 := vk12.kop.cell 1
          clear C10 vk11 vn11 hcb11 hcm11 v11 co11 ho12
          go_upto_region 44 with fail
          go_cut [137] (fun v wx => v = .bool false ∧ w12 = wx)
          case first =>
            rcases unhide Hna with h | h
            · subst h
              go_wp2_with fail
              go_meet
              exact ⟨rfl, rfl⟩
            · subst h
              cases nB
              · go_wp2_with fail
                go_meet
                exact ⟨rfl, rfl⟩
              · go_wp2_with fail
                go_meet
                exact ⟨rfl, rfl⟩
          case rest =>
          obtain ⟨rfl, rfl⟩ := hcut
          go_upto_region 46 with fail
          go_cut [146] (fun v wx => v = .bool false ∧ w12 = wx)
          case first =>
            by_cases h0 : oa ≤ 0
            · have h0b := unhide Hn0 h0
              subst h0b
              have h0c : decide (oa ≤ 0) = true := by simpa using h0
              go_wp2_with fail
              go_meet
              exact ⟨rfl, rfl⟩
            · have h0b : decide (oa ≤ 0) = false := by simpa using h0
              go_wp2_with fail
              go_meet
              exact ⟨rfl, rfl⟩
          case rest =>
          obtain ⟨rfl, rfl⟩ := hcut
          go_upto_region 48 with fail
          go_cut [156] (fun v wx => v = .bool false ∧ w12 = wx)
          case first =>
            by_cases h0 : (recs.length : Int) ≤ oa
            · have h0b := unhide Ha0 h0
              subst h0b
              have h0c : decide ((recs.length : Int) ≤ oa) = true := by simpa using h0
              go_wp2_with fail
              go_meet
              exact ⟨rfl, rfl⟩
            · have h0b : decide ((recs.length : Int) ≤ oa) = false := by simpa using h0
              go_wp2_with fail
              go_meet
              exact ⟨rfl, rfl⟩
          case rest =>
          obtain ⟨rfl, rfl⟩ := hcut
          as_aux_lemma =>
          go_upto_region 50 with fail
          go_upto_if 159 with fail
          go_cut [10] (fun v wx => ∃ qX Hx histX, v = .pointer (some ⟨qX, 0, none⟩) ∧ MAt w12 qX (per obX) rtX histX Hx ∧ (∀ k, Hx k → w5.heap.size ≤ k ∧ k < w12.heap.size) ∧ w12 = wx)
          case first =>
            cases aB with
            | true =>
              refine wp_cond_true rfl ?_
              obtain ⟨e1, e2⟩ := unhide HaB rfl
              have hmX : MAt w12 w9.heap.size (per obX) rtX (.slice none 0 0) H10 := by
                rw [e1]
                exact hcm12.ext (fun i hi => e2 i hi)
              have HmX := hide hmX
              clear hmX e1 e2
              go_wp2_with fail
              go_meet
              exact ⟨_, H10, _, rfl, unhide HmX, fun k hk => by have := N10 k hk; omega, rfl⟩
            | false =>
              refine wp_cond_false rfl ?_
              have hnt : nB = true := (unhide Hna).resolve_right (by simp)
              obtain ⟨e1, e2⟩ := unhide HnB hnt
              have hmX : MAt w12 w7.heap.size (per obX) rtX (.slice none 0 0) H8 := by
                rw [e1]
                exact hcb12.ext (fun i hi => e2 i hi)
              have HmX := hide hmX
              clear hmX e1 e2 hnt
              go_wp2_with fail
              go_meet
              exact ⟨_, H8, _, rfl, unhide HmX, fun k hk => by have := N8 k hk; omega, rfl⟩
          case rest =>
          obtain ⟨qX, Hx, histX, rfl, hmX, hHx, rfl⟩ := hcut
          have C11 := hide (mclone_any hmX)
          clear hcb12 hcm12 Hna Hn0 Ha0 HnB HaB co12
          go_wp2_with fail
          refine (unhide C11).mono ?_
          rintro e w13 ⟨rfl, hb13, ho13⟩
          as_aux_lemma =>
          have s13 := ho13.size
          have vk13 := vk12.quiet ho13
          have vn13 := vn12.quiet ho13
          have hm13 := hmX.quiet ho13
          have N13 : ∀ x, Ext (fun _ => False) w12 w13 x → w12.heap.size ≤ x ∧ x < w13.heap.size := fun x hx => newO hx
          generalize Ext (fun _ => False) w12 w13 = G13 at hb13 N13
          have hle13 := vk13.h0
          have hfin : ∀ (wx : World) (lo hi s2 d2 : Nat) (F2 : Nat → Prop), OVN vb lo hi s2 d2 D0 (per obX) rtX F2 wx → MAt wx qX (per obX) rtX histX Hx → MAt wx w12.heap.size (per obX) rtX (.slice none 0 0) G13 → w.heap.size ≤ lo → Below w.heap.size w wx → (∀ k, Hx k ∨ G13 k → ¬ (F2 k ∨ k = s2)) → OVI w vb s2 qX w12.heap.size wx := by
            intro wx lo hi s2 d2 F2 hn hm hb hlo hbl hoff
            refine OVN.fin hn hm hb hlo hbl hvb ?_ ?_
            · intro k hk
              have := hHx k hk
              exact ⟨by omega, by omega, hoff k (.inl hk)⟩
            · intro k hk
              have := N13 k hk
              exact ⟨by omega, by omega, hoff k (.inr hk), fun h => by have := hHx k h; omega⟩
          have Hfin := hide hfin
          clear hfin C11 vk12 vn12 hmX ho13
          cases quiet with
          | false =>
            have hVIn := unhide Hfin w13 _ _ _ d' F' vn13 hm13 hb13 (by omega) vk13.bel (by
              intro k hk e
              have hr := vn13.rg k e
              rcases hk with hk | hk
              · have := hHx k hk; omega
              · have := N13 k hk; omega)
            clear vn13 hm13 hb13 vk13
            go_wp2_with fail
            go_roundw
            case rel => exact ⟨k + 1, _, qX, w12.heap.size, by omega, by go_num, rfl, rfl, rfl, hVIn⟩
            case measure => simp [intOf]; omega
          | true =>
            have C12 := olafter_any vk13.dk oa (unhide Hkeys) (by omega)
            rw [unhide HD0] at C12
            have C12 := hide C12
            have n0 := vk13.kb.cell 0
            have m1 := vk13.kop.cell 1
            have t0 := vn13.kv.cell 0
            have z0 := vn13.kv.free 0
            have hvlt := vn13.kv.lt
            go_wp2_with fail
            refine (unhide C12).mono ?_
            rintro e w20 ⟨d2, F2, rfl, hd20, hFl20, ho20⟩
            have s20 := ho20.size
            have kv20 := vn13.kv.keep ho20 (fun h => h)
            have t0 := kv20.cell 0
            have z0 := kv20.free 0
            have kv21 := kv20.setCell 0 (.pointer (some ⟨d2, 0, none⟩))
            have o21 : Only (fun k => k = vb) w20 (w20.setCell ⟨vb, 0, none⟩ (.pointer (some ⟨d2, 0, none⟩))) := (Only.refl (fun k => k = vb) w20).setCell (p := ⟨vb, 0, none⟩) (fun _ => rfl) _
            have s21 : (w20.setCell ⟨vb, 0, none⟩ (.pointer (some ⟨d2, 0, none⟩))).heap.size = w20.heap.size := by simp
            have vb21 : Below w.heap.size w (w20.setCell ⟨vb, 0, none⟩ (.pointer (some ⟨d2, 0, none⟩))) := Only.bel (Only.bel vk13.bel ho20 (fun _ h => h.elim)) o21 (fun x e => by omega)
            have hm21 := (hm13.quiet ho20).keep o21 (fun x hx e => by have := hHx x hx; omega)
            have hb21 := (hb13.quiet ho20).keep o21 (fun x hx e => by have := N13 x hx; omega)
            have hd21 := hd20.keep o21 (fun x hx e => by have := hFl20 x hx; omega)
            have hID : Img D0 rtX (per obX) := by
              have h1 := vn13.os.img
              have h2 : per (per obX) = per obX := funext fun i => abort_abort (obX i)
              rw [h2] at h1
              exact h1
            have C13 := open_any hd21 hID
            rw [s21] at C13
            have C13 := hide C13
            have q1 := kv21.cell 0
            simp at q1
            clear C12 n0 m1 hd20 hd21 kv20
            go_wp2_with fail
            refine (unhide C13).mono ?_
            rintro e w22 ⟨rfl, h22, ho22⟩
            have s22 := ho22.size
            have sl22 := h22.lt
            have fi22 := h22.inn
            have hVIn : OVI w vb w20.heap.size qX w12.heap.size w22 := by
              refine unhide Hfin w22 w13.heap.size w22.heap.size w20.heap.size d2 F2 ⟨h22, ?_, ?_, by omega, Nat.le_refl _⟩ (hm21.quiet ho22) (hb21.quiet ho22) (by omega) (Only.bel vb21 ho22 (fun _ h => h.elim)) ?_
              · simpa using kv21.keep ho22 (fun h => h)
              · rintro x (h | h)
                · have := hFl20 x h; have := fi22 x h; omega
                · omega
              · rintro k hk e
                have hk2 : k < w13.heap.size := by
                  rcases hk with hk | hk
                  · have := hHx k hk; omega
                  · have := N13 k hk; omega
                rcases e with e | e
                · have := hFl20 k e; omega
                · omega
            clear C13 vn13 hm13 hb13 vk13 hm21 hb21 vb21 h22
            go_wp2_with fail
            go_roundw
            case rel => exact ⟨k + 1, w20.heap.size, qX, w12.heap.size, by omega, by go_num, rfl, rfl, rfl, hVIn⟩
            case measure => simp [intOf]; omega
      · as_aux_lemma =>
        obtain ⟨⟨d, D, B, recs, ob, rt, hist, F, H, ob0, rt0, G, j0, hb0, hDr, hmid, himB, hstill, hkeys, hfew, kv, hrg, hG0⟩, _, _⟩ := hvi
        have hcb : (ok != 6) = true := by simpa using hten
        have kvo := kv.alloc (.cells #[.int .i64 ok, .int .i64 oa, .int .i64 oo2, .int .i64 oc, .string os, .string ot] 38)
        have cvo0 := kvo.cell 0
        have hvl := kv.lt
        have jo := j0.quiet oo
        have fi := j0.os.inn
        have hiH := j0.md.inn
        have hsl := j0.os.lt
        have C1 := hide (olmark_any jo.os.dev)
        clear hten hb0 hDr hmid himB hstill hkeys hfew hG0
        go_wp2_with fail
        refine (unhide C1).mono ?_
        rintro e wm ⟨rfl, hdm, hom⟩
        have sm := hom.size
        simp only [World.size_alloc] at sm
        have jm : OJ wm s d m D D [] ob rt hist F H := by
          obtain ⟨⟨tab, hd, us, nf, bk, hs, hi⟩, _, hf⟩ := jo.os
          exact ⟨⟨⟨tab, hd, us, nf, bk, hs.keep hom hf, hi⟩, hdm, hf⟩, jo.md.keep hom (fun k hk e => jo.off k hk (.inl e)), jo.off⟩
        have kvm := kvo.keep hom (fun hf => (hrg _ (.inl hf)).2 rfl)
        have kom := ko.keep hom (fun hf => by have := fi _ hf; omega)
        have belm := Only.bel (Only.bel hbel oo (fun _ h => h.elim)) hom (fun x hx => (hrg x (.inl hx)).1)
        have C2 := hide (mmark_any jm.md)
        clear C1 cvo0 y0 y1 y2 y3 y4 y5 kvo jo ko oo hdm hbel
        go_wp2_with fail
        refine (unhide C2).mono ?_
        rintro e w2 ⟨rfl, hm2, ho2⟩
        have s2 := ho2.size
        have hmo := jm.md.own
        have j2 : OJ w2 s d m D D [] ob rt (.slice none 0 0) F H := ⟨jm.os.keep ho2 (fun e => jm.off m hmo (.inr e.symm)) (fun k hk e => jm.off m hmo (.inl (e ▸ hk))), hm2, jm.off⟩
        have kv2 := kvm.keep ho2 (fun e => (hrg _ (.inr (.inl (e ▸ hmo)))).2 rfl)
        have ko2 := kom.keep ho2 (fun e => by have := hiH _ (e ▸ hmo); omega)
        have bel2 := Only.bel belm ho2 (fun x hx => (hrg x (.inr (.inl (hx ▸ hmo)))).1)
        have C3 := hide (mclone_any hm2)
        clear C2 jm kvm kom belm hm2
        go_wp2_with fail
        refine (unhide C3).mono ?_
        rintro e w3 ⟨rfl, hb3, ho3⟩
        as_aux_lemma =>
        have s3 := ho3.size
        have j3 := j2.quiet ho3
        have kv3 := kv2.keep ho3 (fun h => h)
        have ko3 := ko2.keep ho3 (fun h => h)
        have bel3 := Only.bel bel2 ho3 (fun _ h => h.elim)
        have N3 : ∀ x, Ext (fun _ => False) w2 w3 x → w2.heap.size ≤ x ∧ x < w3.heap.size := fun x hx => newO hx
        generalize Ext (fun _ => False) w2 w3 = G3 at hb3 N3
        have C4 := hide (mfree_any j3.md)
        have C5 := hide (oplay_any ok oa oo2 oc os ot hsz j3)
        have kc0 := ko3.cell 0
        have kc1 := ko3.cell 1
        have kc2 := ko3.cell 2
        have kc3 := ko3.cell 3
        have kc4 := ko3.cell 4
        have kc5 := ko3.cell 5
        have fi3 := j3.os.inn
        have hiH3 := j3.md.inn
        have him3 := hide j3.os.img
        clear C3 j2 kv2 ko2 bel2 ho3
        generalize hcf : cntF ob = cf at C4
        have Hcf := hide hcf
        clear hcf
        go_wp2_with fail
        refine (unhide C4).mono ?_
        rintro e w4 ⟨rfl, rfl⟩
        go_wp2_with fail
        refine (unhide C5).mono ?_
        rintro e w5 ⟨rfl, recs', ob', hl, hst, hdue⟩
        as_aux_lemma =>
        obtain ⟨⟨rt', a5, c5, F', H', j5, hfp, hstill⟩, hmid, hkeys, hfew, ho5⟩ := hst
        have s5 := ho5.size
        have oF : ∀ x, (F x ∨ H x ∨ x = s) → (w.heap.size ≤ x ∧ x ≠ vb) ∧ x ≠ wr.heap.size := by
          rintro x (h | h | h)
          · exact ⟨hrg x (.inl h), by have := fi x h; omega⟩
          · exact ⟨hrg x (.inr (.inl h)), by have := hiH x h; omega⟩
          · subst h; exact ⟨hrg x (.inr (.inr (.inr rfl))), by omega⟩
        have oG : ∀ x, G3 x → ¬ (F x ∨ H x ∨ x = s) := by
          rintro x hx (h | h | h)
          · have := N3 x hx; have := fi x h; omega
          · have := N3 x hx; have := hiH x h; omega
          · have := N3 x hx; omega
        have kv5 := kv3.keep ho5 (fun h => (oF _ h).1.2 rfl)
        have ko5 := ko3.keep ho5 (fun h => (oF _ h).2 rfl)
        have bel5 := Only.bel bel3 ho5 (fun x h => (oF x h).1.1)
        have hb5 := hb3.keep ho5 oG
        have hfp6 : ∀ x, F' x ∨ H' x ∨ G3 x ∨ x = s → w.heap.size ≤ x ∧ x ≠ vb := by
          have key : ∀ x, F' x ∨ H' x → w.heap.size ≤ x ∧ x ≠ vb := by
            intro x hx
            rcases hfp x hx with h | h | h
            · exact hrg x (.inl h)
            · exact hrg x (.inr (.inl h))
            · omega
          rintro x (h | h | h | h)
          · exact key x (.inl h)
          · exact key x (.inr h)
          · have := N3 x h; omega
          · exact hrg x (.inr (.inr (.inr h)))
        have hG6 : ∀ x, G3 x → ¬ (F' x ∨ H' x ∨ x = s) := by
          have key : ∀ x, G3 x → F' x ∨ H' x → False := by
            intro x hx h
            rcases hfp x h with e | e | e
            · exact oG x hx (.inl e)
            · exact oG x hx (.inr (.inl e))
            · have := N3 x hx; omega
          rintro x hx (h | h | h)
          · exact key x hx (.inl h)
          · exact key x hx (.inr h)
          · exact oG x hx (.inr (.inr h))
        have fin : ∀ wx, Only (fun _ => False) w5 wx → OVI w vb s m w2.heap.size wx := fun wx hox =>
          ⟨⟨d, _, D, recs', ob', rt', _, F', H', ob, rt, G3, j5.quiet hox, ⟨_, hb5.quiet hox⟩, rfl, hmid, unhide him3, hstill, hkeys, hfew, kv5.keep hox (fun h => h), hfp6, hG6⟩, Only.bel bel5 hox (fun _ h => h.elim), hvb⟩
        have Fin := hide fin
        have C6 := hide (olsteps_any j5.os.dev)
        have u0 := kv5.cell 0
        clear hfp6 hG6 hb5 bel5 fin hmid hkeys hstill hfp oF oG C4 C5 kc0 kc1 kc2 kc3 kc4 kc5 kv3 ko3 bel3 hb3 ho5 j3
        go_wp2_with fail
        refine (unhide C6).mono ?_
        rintro e w6 ⟨rfl, ho6⟩
        have j6 := j5.quiet ho6
        have kv6 := kv5.keep ho6 (fun h => h)
        have ko6 := ko5.keep ho6 (fun h => h)
        have t0 := ko6.cell 0
        have t1 := ko6.cell 1
        have t2 := ko6.cell 2
        have t3 := ko6.cell 3
        have t4 := ko6.cell 4
        have t5 := ko6.cell 5
        have C7 := due_any ok oa oo2 oc os ot j6.md hdue
        rw [unhide Hcf] at C7
        have C7 := hide C7
        have o56 := ho6
        clear C6 u0 kv5 ko5 ho6 hdue
        go_wp2_with fail
        refine (unhide C7).mono ?_
        rintro e w7 ⟨rfl, ho7⟩
        have j7 := j6.quiet ho7
        have kv7 := kv6.keep ho7 (fun h => h)
        have o57 := o56.trans ho7 (fun _ _ h => h)
        have v0 := kv7.cell 0
        have hrr : ((recs'.length : Int) != (recs'.length : Int)) = false := by simp
        clear C7 t0 t1 t2 t3 t4 t5 j6 kv6 ko6 o56 ho7
        cases quiet with
        | true =>
          have hVIn := unhide Fin w7 o57
          clear j7 kv7 o57 v0 Fin
          go_wp2_with fail
          go_roundw
          case rel => exact ⟨k + 1, s, m, w2.heap.size, by omega, by go_num, rfl, rfl, rfl, hVIn⟩
          case measure => simp [intOf]; omega
        | false =>
          have C8 := hide (seen_any j7 recs'.length rfl)
          go_wp2_with fail
          refine (unhide C8).mono ?_
          rintro e w8 ⟨rfl, ho8⟩
          have hVIn := unhide Fin w8 (o57.trans ho8 (fun _ _ h => h))
          clear j7 kv7 o57 v0 Fin
          go_wp2_with fail
          go_roundw
          case rel => exact ⟨k + 1, s, m, w2.heap.size, by omega, by go_num, rfl, rfl, rfl, hVIn⟩
          case measure => simp [intOf]; omega
    · have hkI : decide ((k : Int) < (len : Int)) = false := by simp; omega
      by_cases hl8 : len < 4398046511104
      · have hl9 : decide ((len : Int) < 4398046511104) = true := by simp; omega
        go_wp2_with fail
        go_ret2
        exact ⟨⟨_, rfl⟩, hvi.bel⟩
      · have hl9 : decide ((len : Int) < 4398046511104) = false := by simp; omega
        go_wp2_with fail
        go_ret2
        exact ⟨⟨_, rfl⟩, hvi.bel⟩
end Go.Proofs.Qxb6500419a
