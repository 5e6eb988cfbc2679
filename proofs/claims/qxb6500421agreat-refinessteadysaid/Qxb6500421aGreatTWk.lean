/-
  OWN WORK. THE TREE LAW's WALK.
-/
import Derived.Test.Qxb6500421aGreatTWk0
namespace Go.Proofs.Qxb6500421aGreat
open Go.RowKit Go.PlainAid
set_option linter.unusedSimpArgs false
set_option linter.unusedVariables false

set_option maxRecDepth 100000 in
set_option maxHeartbeats 16000000 in
theorem tlwalk_any (ad : Option Addr) (len cap : Nat) (ops : List OpD) (steady quiet : Bool) (w : World) (hops : OpsAt w ad len ops) (hlen : len ≤ 4398046511104) :
    Calls Tryz.prog 7 #[.slice ad len cap, .bool steady, .bool quiet] w fun e w' => (∃ v, e = .returned (.tuple #[.int .i64 (-1), v])) ∧ Below w.heap.size w w' := by
  go_enter Tryz.func7, Tryz.ntmps7
  go_wp2_with fail
  refine (tlground_any _).mono ?_
  rintro e w1 ⟨d, s, F, rfl, h1, N1, ho1⟩
  have s1 := ho1.size
  have o2 : Only (fun _ => False) w1 (w1.alloc (.cells #[.pointer (some ⟨d, 0, none⟩), .pointer (some ⟨s, 0, none⟩)] 30)) := (Only.refl _ w1).alloc _
  have kv := Has.new w1 #[.pointer (some ⟨d, 0, none⟩), .pointer (some ⟨s, 0, none⟩)] 30
  have h2 := h1.quiet o2
  have C1 := hide (topen_any h2 rep_free inv_free)
  have sz2 : (w1.alloc (.cells #[.pointer (some ⟨d, 0, none⟩), .pointer (some ⟨s, 0, none⟩)] 30)).heap.size = w1.heap.size + 1 := by simp
  rw [sz2] at C1
  go_wp2_with fail
  refine (unhide C1).mono ?_
  rintro e w3 ⟨t, rfl, ht, h3, ho3⟩
  have s3 := ho3.size
  rw [sz2] at s3
  have kv3 := kv.keep ho3 (fun h => h)
  have tl3 := h3.ts_lt.1
  clear C1
  go_wp2_with fail
  refine (unew_any _).mono ?_
  rintro e w4 ⟨rfl, hm4, ho4⟩
  have s4 := ho4.size
  have N4 : ∀ x, Ext (fun _ => False) w3 w4 x → w3.heap.size ≤ x ∧ x < w4.heap.size := fun x hx => newT hx
  generalize Ext (fun _ => False) w3 w4 = H at hm4 N4
  have C2 := hide (uclone_any hm4)
  go_wp2_with fail
  refine (unhide C2).mono ?_
  rintro e w5 ⟨rfl, hb5, ho5⟩
  have s5 := ho5.size
  have N5 : ∀ x, Ext (fun _ => False) w4 w5 x → w4.heap.size ≤ x ∧ x < w5.heap.size := fun x hx => newT hx
  generalize Ext (fun _ => False) w4 w5 = G at hb5 N5
  have oD : Only (fun _ => False) w5 (w5.alloc (.cells #[.slice none 0 0] 39)) := (Only.refl _ w5).alloc _
  have kd := Has.new w5 #[.slice none 0 0] 39
  have j5 : TW (w5.alloc (.cells #[.slice none 0 0] 39)) t s d w3.heap.size (fun _ => 0) (fun _ => 0) [] (fun _ => Sl.free) 0 (.slice none 0 0) F H := by
    refine ⟨((h3.quiet ho4).quiet ho5).quiet oD, (hm4.quiet ho5).quiet oD, fun k hk e => ?_⟩
    have := N4 k hk
    rcases e with e | e | e
    · have := N1 k (.inl e); omega
    · have := N1 k (.inr e); omega
    · omega
  have kv5 := (((kv3.keep ho4 (fun h => h)).keep ho5 (fun h => h))).keep oD (fun h => h)
  have bel5 := Only.bel (Only.bel (Only.bel (Only.bel (Only.bel (Only.bel (Below.refl _ _) ho1 (fun _ h => h.elim)) o2 (fun _ h => h.elim)) ho3 (fun _ h => h.elim)) ho4 (fun _ h => h.elim)) ho5 (fun _ h => h.elim)) oD (fun _ h => h.elim)
  have hDk : DeskAt (w5.alloc (.cells #[.slice none 0 0] 39)) w5.heap.size (fun k => k = w5.heap.size) := ⟨⟨.slice none 0 0, [], kd, OwnE.nil _, by simp, fun y hy => by simp [Value.ownBlock] at hy⟩, rfl, fun k hk => by rw [hk]; simp⟩
  have hVI5 : TVI w w1.heap.size t w3.heap.size w4.heap.size w5.heap.size (w5.alloc (.cells #[.slice none 0 0] 39)) := by
    refine ⟨⟨s, d, _, _, [], _, 0, _, F, H, _, 0, G, fun k => k = w5.heap.size, j5, ⟨_, hb5.quiet oD⟩, inv_free, hDk, rfl, fun kk hk => by simp at hk, fun _ => ⟨JEq.refl _, rfl⟩, fun r hr => by simp at hr, by simp, kv5, ?_, ?_, ?_⟩, bel5, s1⟩
    · rintro x (hx | hx | hx | hx | hx | hx)
      · have := N1 x (.inl hx); omega
      · have := N4 x hx; omega
      · have := N5 x hx; omega
      · omega
      · have := N1 x (.inr hx); omega
      · omega
    · rintro x hx (e | e | e | e | e)
      · have := N5 x hx; have := N1 x (.inl e); omega
      · have := N5 x hx; have := N4 x e; omega
      · have := N5 x hx; omega
      · have := N5 x hx; have := N1 x (.inr e); omega
      · have := N5 x hx; omega
    · rintro x hx (e | e | e | e)
      · have := N1 x (.inl e); omega
      · have := N4 x e; omega
      · have := N1 x (.inr e); omega
      · omega
  have C3 := tlsteps_any j5.ts.dev s
  have C3 : Calls Tryz.prog 12 #[.agg #[.pointer (some ⟨d, 0, none⟩), .pointer (some ⟨s, 0, none⟩)]] (w5.alloc (.cells #[.slice none 0 0] 39)) fun e w' => e = .returned (.int .i64 0) ∧ Only (fun _ => False) (w5.alloc (.cells #[.slice none 0 0] 39)) w' := by simpa using C3
  have C3 := hide C3
  have v0 := kv5.cell 0
  have v1 := kv5.cell 1
  clear C2 hb5 hm4 kv3 kv h3 h2 h1 o2 bel5 ho5 ho4 ho3 hDk kd oD
  generalize w4.heap.size = mb0 at *
  generalize w3.heap.size = m0 at *
  generalize hvb0 : w1.heap.size = vb at *
  clear hvb0 ht sz2
  go_upto_region 6 with fail
  generalize w5.alloc (.cells #[.slice none 0 0] 39) = w5' at *
  generalize w5.heap.size = dk at *
  go_wp2_with fail
  refine (unhide C3).mono ?_
  rintro e w6 ⟨rfl, ho6⟩
  have j6 := j5.quiet ho6
  have hVI6 := hVI5.keep ho6
  have kv6 := kv5.keep ho6 (fun h => h)
  have v0 := kv6.cell 0
  have v1 := kv6.cell 1
  clear C3 j5 hVI5 kv5 ho6
  go_wp2_with fail
  refine (tlcounted_any 0 0 w6).mono ?_
  rintro e w6' ⟨rfl, rfl⟩
  go_upto_region 9 with fail
  go_upto_if 40 with fail
  go_cut [] (fun wx => Only (fun _ => False) w6 wx)
  case first =>
    cases quiet with
    | true =>
      refine wp_cond_false rfl ?_
      go_wp2_with fail
      go_meet
      exact Only.refl _ _
    | false =>
      refine wp_cond_true rfl ?_
      have C4 := hide (talike_any j6.ts j6.md inv_free)
      go_wp2_with fail
      refine (unhide C4).mono ?_
      rintro e w7 ⟨b, rfl, hb, ho7⟩
      obtain rfl : b = true := hb.2 (Allike.refl _ _)
      have C5 := tlsteps_any (j6.quiet ho7).ts.dev s
      have C5 : Calls Tryz.prog 12 #[.agg #[.pointer (some ⟨d, 0, none⟩), .pointer (some ⟨s, 0, none⟩)]] w7 fun e w' => e = .returned (.int .i64 0) ∧ Only (fun _ => False) w7 w' := by simpa using C5
      have C5 := hide C5
      have kv7 := kv6.keep ho7 (fun h => h)
      have v0 := kv7.cell 0
      have v1 := kv7.cell 1
      clear C4 hb
      go_wp2_with fail
      refine (unhide C5).mono ?_
      rintro e w8 ⟨rfl, ho8⟩
      go_wp2_with fail
      go_meet
      exact ho7.trans ho8 (fun _ _ h => h)
  case rest =>
  have hVI7 := hVI6.keep hcut
  generalize hwc : wc = w7 at *
  clear hwc hcut hVI6 kv6 v0 v1 j6
  go_wp2_with fail
  go_loopw [9, 10, 11, 14] (fun x mv bv i wr => ∃ k t m mb : Nat, k ≤ len ∧ i = .int .i64 k ∧ x = .pointer (some ⟨t, 0, none⟩) ∧ mv = .pointer (some ⟨m, 0, none⟩) ∧ bv = .pointer (some ⟨mb, 0, none⟩) ∧ TVI w vb t m mb dk wr) (fun _ _ _ i _ => len - (intOf i).toNat)
  case atStart => exact ⟨0, t, m0, mb0, Nat.zero_le _, rfl, rfl, rfl, rfl, hVI7⟩
  case round =>
    clear hVI7
    obtain ⟨k, t, m, mb, hk, rfl, rfl, rfl, rfl, hvi⟩ := hrel
    by_cases hkl : k < len
    · obtain ⟨hol, hoa⟩ := hops
      obtain ⟨ab, aoff, rfl, hcells⟩ := hoa (by omega)
      obtain ⟨y0, y1, y2, y3, y4, y5, hsz⟩ := hcells k (by omega)
      clear hcells hoa
      have hbel := hvi.bel
      have hab : ab < w.heap.size := World.block_lt_of_cell? w ⟨ab, aoff + k * 6, none⟩ y0
      rw [← hbel.cell (p := ⟨ab, aoff + k * 6, none⟩) hab] at y0
      rw [← hbel.cell (p := ⟨ab, aoff + k * 6 + 1, none⟩) hab] at y1
      rw [← hbel.cell (p := ⟨ab, aoff + k * 6 + 2, none⟩) hab] at y2
      rw [← hbel.cell (p := ⟨ab, aoff + k * 6 + 3, none⟩) hab] at y3
      rw [← hbel.cell (p := ⟨ab, aoff + k * 6 + 4, none⟩) hab] at y4
      rw [← hbel.cell (p := ⟨ab, aoff + k * 6 + 5, none⟩) hab] at y5
      generalize ops[k]'(by omega) = o at *
      obtain ⟨ok, oa, oo2, oc, os, ot⟩ := o
      simp only at y0 y1 y2 y3 y4 y5 hsz
      have hkI : (k : Int) < (len : Int) := by omega
      have hkM : decide ((k : Int) < 4398046511104) = true := by simp; omega
      have hvb := hvi.vb
      have oo : Only (fun _ => False) wr (wr.alloc (.cells #[.int .i64 ok, .int .i64 oa, .int .i64 oo2, .int .i64 oc, .string os, .string ot] 44)) := (Only.refl _ wr).alloc _
      have ko := Has.new wr #[.int .i64 ok, .int .i64 oa, .int .i64 oo2, .int .i64 oc, .string os, .string ot] 44
      by_cases hten : ok = 10
      · subst hten
        cases steady with
        | true =>
          go_wp2_with fail
          go_roundw
          case rel => exact ⟨k + 1, t, m, mb, by omega, by go_num, rfl, rfl, rfl, hvi.keep oo⟩
          case measure => simp [intOf]; omega
        | false =>
          as_aux_lemma =>
          obtain ⟨⟨s, d, D, B, recs, J, rt, hist, F, H, J0, rt0, G, R, j0, ⟨hist0, hb0⟩, hI0, hdk0, hDr, hmid, hstill, hkeys, hfew, kv, hrg, hG0, hR0⟩, _, _⟩ := hvi
          have hvl := kv.lt
          have kvo := kv.alloc (.cells #[.int .i64 10, .int .i64 oa, .int .i64 oo2, .int .i64 oc, .string os, .string ot] 44)
          have cvo0 := kvo.cell 0
          have cvo1 := kvo.cell 1
          have jo := j0.quiet oo
          have C1 := hide (tlsteps_any jo.ts.dev s)
          have hIJ := j0.ts.inv
          have hIA : Inv (abortJ J) := hIJ.abort
          have hIB : Inv (abortJ J0) := hI0.abort
          have hX : ∃ (JX : Nat → Sl) (rtX : Nat), Inv JX ∧ (∀ i, In i → (JX i).st = 0 ∨ (JX i).st = 2) ∧ Shows (replayB B (recs.take oa.toNat)) rtX JX ∧ ((JEq JX (abortJ J0) ∧ rtX = rt0) ∨ (JEq JX (abortJ J) ∧ rtX = rt)) ∧ (oa ≤ 0 → JEq JX (abortJ J0) ∧ rtX = rt0) ∧ ((recs.length : Int) ≤ oa → JEq JX (abortJ J) ∧ rtX = rt) := by
            by_cases hlt : oa.toNat < recs.length
            · exact ⟨abortJ J0, rt0, hIB, abort_idle hI0, hmid _ hlt, .inl ⟨JEq.refl _, rfl⟩, fun _ => ⟨JEq.refl _, rfl⟩, fun h => by omega⟩
            · refine ⟨abortJ J, rt, hIA, abort_idle hIJ, ?_, .inr ⟨JEq.refl _, rfl⟩, fun h => ?_, fun _ => ⟨JEq.refl _, rfl⟩⟩
              · rw [List.take_of_length_le (by omega), ← hDr]; exact j0.ts.shows
              · have : recs = [] := List.length_eq_zero_iff.1 (by omega)
                exact hstill this
          obtain ⟨JX, rtX, hIX, hdX, hSX, hXo, hXf, hXw⟩ := hX
          obtain ⟨po, himg, hrep⟩ := hSX
          have HXo := hide hXo
          have HXf := hide hXf
          have HXw := hide hXw
          have HIm := hide himg
          have HRp := hide hrep
          have Hkeys := hide hkeys
          have HA := hide (And.intro hIA (abort_idle hIJ))
          have HB := hide (And.intro hIB (abort_idle hI0))
          have HX := hide (And.intro hIX hdX)
          obtain ⟨tl0, sl0, fi⟩ := j0.ts.ts_lt
          have hiH := j0.md.inn
          have hiG := hb0.inn
          have hiR := hdk0.inn
          clear hXo hXf hXw himg hrep hmid hstill hDr hkeys hIA hIB hIJ hI0 hIX hdX
          go_wp2_with fail
          refine (unhide C1).mono ?_
          rintro e w1 ⟨rfl, ho1⟩
          have s1 := ho1.size
          simp only [World.size_alloc] at s1
          have kv1 := kvo.keep ho1 (fun h => h)
          have ko1 := ko.keep ho1 (fun h => h)
          have j1 := jo.quiet ho1
          have o2 : Only (fun _ => False) w1 (w1.alloc (.cells #[.pointer (some ⟨d, 0, none⟩), .pointer (some ⟨s, 0, none⟩)] 30)) := (Only.refl _ w1).alloc _
          have vk2 : TVK vb (w1.heap.size + 1) d s D B recs F m J rt H mb J0 rt0 G dk R w1.heap.size wr.heap.size #[.int .i64 10, .int .i64 oa, .int .i64 oo2, .int .i64 oc, .string os, .string ot] w (w1.alloc (.cells #[.pointer (some ⟨d, 0, none⟩), .pointer (some ⟨s, 0, none⟩)] 30)) := by
            have j2 := j1.quiet o2
            refine ⟨j2.ts.dev, ⟨_, j2.md⟩, ⟨_, ((hb0.quiet oo).quiet ho1).quiet o2⟩, ((hdk0.keep oo (fun _ _ h => h)).keep ho1 (fun _ _ h => h)).keep o2 (fun _ _ h => h), Has.new w1 _ _, ko1.keep o2 (fun h => h), ?_, ?_, ⟨by omega, hvb⟩, by simp⟩
            · rintro x (h | h | h | h | h | h)
              · have := fi x h; exact ⟨by omega, (hrg x (.inl h)).2⟩
              · have := hiH x h; exact ⟨by omega, (hrg x (.inr (.inl h))).2⟩
              · have := hiG x h; exact ⟨by omega, (hrg x (.inr (.inr (.inl h)))).2⟩
              · have := hiR x h; exact ⟨by omega, (hrg x (.inr (.inr (.inr (.inl h))))).2⟩
              · omega
              · omega
            · exact Only.bel (Only.bel (Only.bel hbel oo (fun _ h => h.elim)) ho1 (fun _ h => h.elim)) o2 (fun _ h => h.elim)
          have kv2 := kv1.keep o2 (fun h => h)
          have hRw : ∀ k, R k → w.heap.size ≤ k := fun k hk => (hrg k (.inr (.inr (.inr (.inl hk))))).1
          have C2 := hide (tlafter_any vk2.dv s oa (unhide Hkeys) (by omega) (unhide HIm))
          have x0 := kv1.cell 0
          have x1 := kv1.cell 1
          have n0 := vk2.kb.cell 0
          have n1 := vk2.kb.cell 1
          have m1 := vk2.kop.cell 1
          clear C1 cvo0 cvo1 kvo jo ko oo y0 y1 y2 y3 y4 y5 j1 j0 hb0 ho1 ko1 fi hiH hiG hiR hbel hdk0
          go_wp2_with fail
          refine (unhide C2).mono ?_
          rintro e w3 ⟨d', s', F', rfl, hO3, hFl, ho3⟩
          as_aux_lemma =>
          have s3 := ho3.size
          simp only [World.size_alloc] at s3 hFl
          have vk3 := vk2.quiet ho3
          have kv3 := kv2.keep ho3 (fun h => h)
          have x0 := kv3.cell 0
          have z0 := kv3.free 0
          have x1 := kv3.cell 1
          have z1 := kv3.free 1
          have kv4 := (kv3.setCell 0 (.pointer (some ⟨d', 0, none⟩))).setCell 1 (.pointer (some ⟨s', 0, none⟩))
          have o4 : Only (fun k => k = vb) w3 ((w3.setCell ⟨vb, 0, none⟩ (.pointer (some ⟨d', 0, none⟩))).setCell ⟨vb, 1, none⟩ (.pointer (some ⟨s', 0, none⟩))) := ((Only.refl (fun k => k = vb) w3).setCell (p := ⟨vb, 0, none⟩) (fun _ => rfl) _).setCell (p := ⟨vb, 1, none⟩) (fun _ => rfl) _
          have s4 : ((w3.setCell ⟨vb, 0, none⟩ (.pointer (some ⟨d', 0, none⟩))).setCell ⟨vb, 1, none⟩ (.pointer (some ⟨s', 0, none⟩))).heap.size = w3.heap.size := by simp
          have vk4 := vk3.keep o4 (fun k e => .inr e)
          have hO4 := hO3.keep o4 (fun e => by have := hFl s' (.inr rfl); omega) (fun x hx e => by have := hFl x (.inl hx); omega)
          have C3 := hide (topen_any hO4 (unhide HRp) (unhide HX).1)
          generalize hD0 : replayB B (recs.take oa.toNat) = D0 at *
          have HD0 := hide hD0
          clear hD0
          have y0 := kv4.cell 0
          have y1 := kv4.cell 1
          simp at y0 y1
          clear C2 n0 n1 m1 kv1 kv2 vk2 vk3 hO3 ho3 o2
          go_upto_region 37 with fail
          generalize hw4 : (w3.setCell ⟨vb, 0, none⟩ (.pointer (some ⟨d', 0, none⟩))).setCell ⟨vb, 1, none⟩ (.pointer (some ⟨s', 0, none⟩)) = w4 at *
          clear hw4 o4 x0 z0 x1 z1 kv3
          go_wp2_with fail
          refine (unhide C3).mono ?_
          rintro e w5 ⟨t', rfl, ht', h5, ho5⟩
          have s5 := ho5.size
          have vk5 := vk4.quiet ho5
          have kv5 := kv4.keep ho5 (fun h => h)
          have x1 := kv5.cell 0
          have x2 := kv5.cell 1
          obtain ⟨tl5, sl5, fi5⟩ := h5.ts_lt
          have vn5 : TVN vb (w1.heap.size + 1) w5.heap.size t' s' d' D0 JX rtX F' w5 := by
            refine ⟨h5, ?_, ?_, by omega, Nat.le_refl _⟩
            · simpa using kv5
            · rintro x (h | h | h)
              · have := hFl x (.inl h); have := fi5 x h; omega
              · have := hFl x (.inr h); omega
              · omega
          have C4 := tlsteps_any h5.dev s'
          have C4 : Calls Tryz.prog 12 #[.agg #[.pointer (some ⟨d', 0, none⟩), .pointer (some ⟨s', 0, none⟩)]] w5 fun e w' => e = .returned (.int .i64 0) ∧ Only (fun _ => False) w5 w' := by simpa using C4
          have C4 := hide C4
          simp at x1 x2
          clear C3 y0 y1 kv4 kv5 vk4 hO4 ho5 h5
          go_wp2_with fail
          refine (unhide C4).mono ?_
          rintro e w6 ⟨rfl, ho6⟩
          have s6 := ho6.size
          have vk6 := vk5.quiet ho6
          have vn6 := vn5.quiet ho6
          clear C4 vk5 vn5 ho6 x1 x2
          go_wp2_with fail
          refine (tlcounted_any 0 0 w6).mono ?_
          rintro e w7 ⟨rfl, rfl⟩
          as_aux_lemma =>
          obtain ⟨hist7, hb7⟩ := vk6.mb
          have C6 := hide (ucrashed_any hb7)
          go_wp2_with fail
          refine (unhide C6).mono ?_
          rintro e w8 ⟨rfl, hc8, ho8⟩
          have s8 := ho8.size
          have vk8 := vk6.quiet ho8
          have vn8 := vn6.quiet ho8
          have N8 : ∀ x, Ext (fun _ => False) w6 w8 x → w6.heap.size ≤ x ∧ x < w8.heap.size := fun x hx => newT hx
          generalize Ext (fun _ => False) w6 w8 = H8 at hc8 N8
          have hc8 : UAt w8 w6.heap.size (abortJ J0) rt0 (.slice none 0 0) H8 := hc8
          have C7 := hide (talike_any vn8.ts hc8 (unhide HB).1)
          clear C6 vk6 vn6 ho8 hb7
          go_wp2_with fail
          refine (unhide C7).mono ?_
          rintro e w9 ⟨nB, rfl, hnB, ho9⟩
          have s9 := ho9.size
          have vk9 := vk8.quiet ho9
          have vn9 := vn8.quiet ho9
          obtain ⟨hist9, hm9⟩ := vk9.md
          have C8 := hide (ucrashed_any hm9)
          have HnB := hide hnB
          clear C7 vk8 vn8 ho9 hc8 hnB
          go_wp2_with fail
          refine (unhide C8).mono ?_
          rintro e w10 ⟨rfl, hc10, ho10⟩
          have s10 := ho10.size
          have vk10 := vk9.quiet ho10
          have vn10 := vn9.quiet ho10
          have hc10 : UAt w10 w9.heap.size (abortJ J) rt (.slice none 0 0) (Ext (fun _ => False) w9 w10) := hc10
          have C9 := hide (talike_any vn10.ts hc10 (unhide HA).1)
          clear C8 vk9 vn9 ho10 hm9
          go_wp2_with fail
          refine (unhide C9).mono ?_
          rintro e w11 ⟨aB, rfl, haB, ho11⟩
          as_aux_lemma =>
          have s11 := ho11.size
          have vk11 := vk10.quiet ho11
          have vn11 := vn10.quiet ho11
          have hnw : JEq JX (abortJ J0) ∧ rtX = rt0 → nB = true := fun e => (unhide HnB).2 (Allike.of e.1 (unhide HX).1 e.2)
          have hac : JEq JX (abortJ J) ∧ rtX = rt → aB = true := fun e => haB.2 (Allike.of e.1 (unhide HX).1 e.2)
          have Hna := hide (show nB = true ∨ aB = true from (unhide HXo).elim (fun e => .inl (hnw e)) (fun e => .inr (hac e)))
          have Hn0 := hide (show oa ≤ 0 → nB = true from fun h => hnw (unhide HXf h))
          have Ha0 := hide (show (recs.length : Int) ≤ oa → aB = true from fun h => hac (unhide HXw h))
          have hna : aB = true → rtX = rt ∧ JEq JX (abortJ J) := fun e => (haB.1 e).eq (unhide HX).1 (unhide HA).1 (unhide HX).2 (unhide HA).2
          have hnn : nB = true → rtX = rt0 ∧ JEq JX (abortJ J0) := fun e => ((unhide HnB).1 e).eq (unhide HX).1 (unhide HB).1 (unhide HX).2 (unhide HB).2
          have HaB := hide hna
          have HnB := hide hnn
          have co11 := vk11.kop.cell 1
          have C10 := tlsteps_any vn11.ts.dev s'
          have C10 : Calls Tryz.prog 12 #[.agg #[.pointer (some ⟨d', 0, none⟩), .pointer (some ⟨s', 0, none⟩)]] w11 fun e w' => e = .returned (.int .i64 0) ∧ Only (fun _ => False) w11 w' := by simpa using C10
          have C10 := hide C10
          have v11 := vn11.kv.cell 0
          have v12 := vn11.kv.cell 1
          clear C9 vk10 vn10 ho11 hc10 haB hnw hac hna hnn HXo HXf HXw HA HB
          go_wp2_with fail
          refine (unhide C10).mono ?_
          rintro e w12 ⟨rfl, ho12⟩
          have s12 := ho12.size
          have vk12 := vk11.quiet ho12
          have vn12 := vn11.quiet ho12
          have co12 := vk12.kop.cell 1
          clear C10 vk11 vn11 v11 v12 co11 ho12
          go_upto_region 47 with fail
          go_cut [144] (fun v wx => v = .bool false ∧ w12 = wx)
          case first =>
            rcases unhide Hna with h | h
            · subst h
              go_wp2_with fail
              go_meet
              exact ⟨rfl, rfl⟩
            · subst h
              cases nB
              · go_wp2_with fail
                go_meet
                exact ⟨rfl, rfl⟩
              · go_wp2_with fail
                go_meet
                exact ⟨rfl, rfl⟩
          case rest =>
          obtain ⟨rfl, rfl⟩ := hcut
          go_upto_region 49 with fail
          go_cut [153] (fun v wx => v = .bool false ∧ w12 = wx)
          case first =>
            by_cases h0 : oa ≤ 0
            · have h0b := unhide Hn0 h0
              subst h0b
              have h0c : decide (oa ≤ 0) = true := by simpa using h0
              go_wp2_with fail
              go_meet
              exact ⟨rfl, rfl⟩
            · have h0b : decide (oa ≤ 0) = false := by simpa using h0
              go_wp2_with fail
              go_meet
              exact ⟨rfl, rfl⟩
          case rest =>
          obtain ⟨rfl, rfl⟩ := hcut
          go_upto_region 51 with fail
          go_cut [163] (fun v wx => v = .bool false ∧ w12 = wx)
          case first =>
            by_cases h0 : (recs.length : Int) ≤ oa
            · have h0b := unhide Ha0 h0
              subst h0b
              have h0c : decide ((recs.length : Int) ≤ oa) = true := by simpa using h0
              go_wp2_with fail
              go_meet
              exact ⟨rfl, rfl⟩
            · have h0b : decide ((recs.length : Int) ≤ oa) = false := by simpa using h0
              go_wp2_with fail
              go_meet
              exact ⟨rfl, rfl⟩
          case rest =>
          obtain ⟨rfl, rfl⟩ := hcut
          as_aux_lemma =>
          go_upto_region 53 with fail
          go_upto_if 166 with fail
          go_cut [10] (fun v wx => ∃ qX Hx histX, v = .pointer (some ⟨qX, 0, none⟩) ∧ UAt wx qX JX rtX histX Hx ∧ (∀ k, Hx k → w12.heap.size ≤ k ∧ k < wx.heap.size) ∧ Only (fun _ => False) w12 wx)
          case first =>
            cases aB with
            | true =>
              refine wp_cond_true rfl ?_
              obtain ⟨e1, e2⟩ := unhide HaB rfl
              obtain ⟨histm, hmm⟩ := vk12.md
              have C11 := hide (ucrashed_any hmm)
              go_wp2_with fail
              refine (unhide C11).mono ?_
              rintro e wz ⟨rfl, hcz, hoz⟩
              have hcz : UAt wz w12.heap.size (abortJ J) rt (.slice none 0 0) (Ext (fun _ => False) w12 wz) := hcz
              rw [← e1] at hcz
              have HmX := hide (hcz.ext (J' := JX) (fun i hi => e2 i hi))
              clear hcz C11 hmm
              go_wp2_with fail
              go_meet
              exact ⟨_, _, _, rfl, unhide HmX, fun k hk => newT hk, hoz⟩
            | false =>
              refine wp_cond_false rfl ?_
              have hnt : nB = true := (unhide Hna).resolve_right (by simp)
              obtain ⟨e1, e2⟩ := unhide HnB hnt
              clear hnt
              obtain ⟨histm, hmm⟩ := vk12.mb
              have C11 := hide (ucrashed_any hmm)
              go_wp2_with fail
              refine (unhide C11).mono ?_
              rintro e wz ⟨rfl, hcz, hoz⟩
              have hcz : UAt wz w12.heap.size (abortJ J0) rt0 (.slice none 0 0) (Ext (fun _ => False) w12 wz) := hcz
              rw [← e1] at hcz
              have HmX := hide (hcz.ext (J' := JX) (fun i hi => e2 i hi))
              clear hcz C11 hmm
              go_wp2_with fail
              go_meet
              exact ⟨_, _, _, rfl, unhide HmX, fun k hk => newT hk, hoz⟩
          case rest =>
          obtain ⟨qX, Hx, histX, rfl, hmX, hHx, hoZ⟩ := hcut
          have vkZ := vk12.quiet hoZ
          have vnZ := vn12.quiet hoZ
          have sZ := hoZ.size
          generalize hwz : wc = wz at *
          clear hwz vk12 vn12 hoZ
          have C11 := hide (uclone_any hmX)
          clear Hna Hn0 Ha0 HnB HaB co12
          go_wp2_with fail
          refine (unhide C11).mono ?_
          rintro e w13 ⟨rfl, hb13, ho13⟩
          as_aux_lemma =>
          have s13 := ho13.size
          have vk13 := vkZ.quiet ho13
          have vn13 := vnZ.quiet ho13
          have hm13 := hmX.quiet ho13
          have N13 : ∀ x, Ext (fun _ => False) wz w13 x → wz.heap.size ≤ x ∧ x < w13.heap.size := fun x hx => newT hx
          generalize Ext (fun _ => False) wz w13 = G13 at hb13 N13
          have hle13 := vk13.h0
          have hRlt : ∀ k, R k → k < w1.heap.size + 1 ∧ k ≠ vb := fun k hk => vk13.lt k (.inr (.inr (.inr (.inl hk))))
          have hle12 := vk13.le
          have hfin : ∀ (wx : World) (lo hi t2 s2 d2 : Nat) (F2 : Nat → Prop), TVN vb lo hi t2 s2 d2 D0 JX rtX F2 wx → UAt wx qX JX rtX histX Hx → UAt wx wz.heap.size JX rtX (.slice none 0 0) G13 → DeskAt wx dk R → w1.heap.size + 1 ≤ lo → Below w.heap.size w wx → (∀ k, Hx k ∨ G13 k → ¬ (F2 k ∨ k = s2 ∨ k = t2)) → TVI w vb t2 qX wz.heap.size dk wx := by
            intro wx lo hi t2 s2 d2 F2 hn hm hb hdd hlo hbl hoff
            refine TVN.fin hn hm hb hdd (by omega) hbl hvb ?_ ?_ ?_
            · intro k hk
              have := hHx k hk
              exact ⟨by omega, by omega, hoff k (.inl hk)⟩
            · intro k hk
              have := N13 k hk
              exact ⟨by omega, by omega, hoff k (.inr hk), fun h => by have := hHx k h; omega, fun h => by have := hRlt k h; omega⟩
            · intro k hk
              have h1 := hRlt k hk
              refine ⟨hRw k hk, h1.2, fun e => ?_, fun h => by have := hHx k h; omega⟩
              have h2 := hn.rg k e
              omega
          have Hfin := hide hfin
          have hsX := (unhide HX).1
          clear hfin C11 vkZ vnZ hmX ho13
          cases quiet with
          | false =>
            have hVIn := unhide Hfin w13 _ _ _ _ d' F' vn13 hm13 hb13 vk13.de (Nat.le_refl _) vk13.bel (by
              intro k hk e
              have hr := vn13.rg k e
              rcases hk with hk | hk
              · have := hHx k hk; omega
              · have := N13 k hk; omega)
            clear vn13 hm13 hb13 vk13
            go_wp2_with fail
            go_roundw
            case rel => exact ⟨k + 1, _, qX, wz.heap.size, by omega, by go_num, rfl, rfl, rfl, hVIn⟩
            case measure => simp [intOf]; omega
          | true =>
            have himD := unhide HIm
            have C12 := tlafter_any vk13.dv s oa (unhide Hkeys) (by omega) (by rw [unhide HD0]; exact himD)
            rw [unhide HD0] at C12
            have C12 := hide C12
            have n0 := vk13.kb.cell 0
            have n1 := vk13.kb.cell 1
            have m1 := vk13.kop.cell 1
            have t0 := vn13.kv.cell 0
            have z0 := vn13.kv.free 0
            have t1 := vn13.kv.cell 1
            have z1 := vn13.kv.free 1
            have hvlt := vn13.kv.lt
            go_wp2_with fail
            refine (unhide C12).mono ?_
            rintro e w20 ⟨d2, s2, F2, rfl, hO20, hFl20, ho20⟩
            have s20 := ho20.size
            have kv20 := vn13.kv.keep ho20 (fun h => h)
            have t0 := kv20.cell 0
            have z0 := kv20.free 0
            have t1 := kv20.cell 1
            have z1 := kv20.free 1
            have kv21 := (kv20.setCell 0 (.pointer (some ⟨d2, 0, none⟩))).setCell 1 (.pointer (some ⟨s2, 0, none⟩))
            have o21 : Only (fun k => k = vb) w20 ((w20.setCell ⟨vb, 0, none⟩ (.pointer (some ⟨d2, 0, none⟩))).setCell ⟨vb, 1, none⟩ (.pointer (some ⟨s2, 0, none⟩))) := ((Only.refl (fun k => k = vb) w20).setCell (p := ⟨vb, 0, none⟩) (fun _ => rfl) _).setCell (p := ⟨vb, 1, none⟩) (fun _ => rfl) _
            have s21 : ((w20.setCell ⟨vb, 0, none⟩ (.pointer (some ⟨d2, 0, none⟩))).setCell ⟨vb, 1, none⟩ (.pointer (some ⟨s2, 0, none⟩))).heap.size = w20.heap.size := by simp
            have vb21 : Below w.heap.size w ((w20.setCell ⟨vb, 0, none⟩ (.pointer (some ⟨d2, 0, none⟩))).setCell ⟨vb, 1, none⟩ (.pointer (some ⟨s2, 0, none⟩))) := Only.bel (Only.bel vk13.bel ho20 (fun _ h => h.elim)) o21 (fun x e => by omega)
            have hm21 := (hm13.quiet ho20).keep o21 (fun x hx e => by have := hHx x hx; omega)
            have hb21 := (hb13.quiet ho20).keep o21 (fun x hx e => by have := N13 x hx; omega)
            have hdd21 := (vk13.de.keep ho20 (fun _ _ h => h)).keep o21 (fun x hx e => (hRlt x hx).2 e)
            have hO21 := hO20.keep o21 (fun e => by have := hFl20 s2 (.inr rfl); omega) (fun x hx e => by have := hFl20 x (.inl hx); omega)
            have C13 := hide (topen_any hO21 (unhide HRp) hsX)
            have q1 := kv21.cell 0
            have q2 := kv21.cell 1
            simp at q1 q2
            clear C12 n0 n1 m1 hO20 hO21 kv20
            go_upto_region 59 with fail
            generalize hw21 : (w20.setCell ⟨vb, 0, none⟩ (.pointer (some ⟨d2, 0, none⟩))).setCell ⟨vb, 1, none⟩ (.pointer (some ⟨s2, 0, none⟩)) = w21 at *
            clear hw21
            go_wp2_with fail
            refine (unhide C13).mono ?_
            rintro e w22 ⟨t2, rfl, ht2, h22, ho22⟩
            have s22 := ho22.size
            obtain ⟨tl22, sl22, fi22⟩ := h22.ts_lt
            have hVIn : TVI w vb t2 qX wz.heap.size dk w22 := by
              refine unhide Hfin w22 w13.heap.size w22.heap.size t2 s2 d2 F2 ⟨h22, ?_, ?_, by omega, Nat.le_refl _⟩ (hm21.quiet ho22) (hb21.quiet ho22) (hdd21.keep ho22 (fun _ _ h => h)) (by omega) (Only.bel vb21 ho22 (fun _ h => h.elim)) ?_
              · simpa using kv21.keep ho22 (fun h => h)
              · rintro x (h | h | h)
                · have := hFl20 x (.inl h); have := fi22 x h; omega
                · have := hFl20 x (.inr h); omega
                · omega
              · rintro k hk e
                have hk2 : k < w13.heap.size := by
                  rcases hk with hk | hk
                  · have := hHx k hk; omega
                  · have := N13 k hk; omega
                rcases e with e | e | e
                · have := hFl20 k (.inl e); omega
                · have := hFl20 k (.inr e); omega
                · omega
            clear C13 vn13 hm13 hb13 vk13 hm21 hb21 vb21 h22
            go_wp2_with fail
            go_roundw
            case rel => exact ⟨k + 1, t2, qX, wz.heap.size, by omega, by go_num, rfl, rfl, rfl, hVIn⟩
            case measure => simp [intOf]; omega
      · as_aux_lemma =>
        obtain ⟨⟨s, d, D, B, recs, J, rt, hist, F, H, J0, rt0, G, R, j0, hb0, hI0, hdk0, hDr, hmid, hstill, hkeys, hfew, kv, hrg, hG0, hR0⟩, _, _⟩ := hvi
        have hcb : (ok != 10) = true := by simpa using hten
        have kvo := kv.alloc (.cells #[.int .i64 ok, .int .i64 oa, .int .i64 oo2, .int .i64 oc, .string os, .string ot] 44)
        have cvo0 := kvo.cell 0
        have cvo1 := kvo.cell 1
        have hvl := kv.lt
        have jo := j0.quiet oo
        have hdko := hdk0.keep oo (fun _ _ h => h)
        obtain ⟨tl, sl, fi⟩ := j0.ts.ts_lt
        have hiH := j0.md.inn
        have hiR := hdk0.inn
        have C1 := hide (tlmark_any jo.ts.dev s)
        clear hten hb0 hI0 hDr hmid hstill hkeys hfew hG0 hdk0
        go_wp2_with fail
        refine (unhide C1).mono ?_
        rintro e wm ⟨rfl, hdm, hom⟩
        have sm := hom.size
        simp only [World.size_alloc] at sm
        have jm : TW wm t s d m D D [] J rt hist F H := ⟨jo.ts.marked hdm hom, jo.md.keep hom (fun k hk e => jo.off k hk (.inl e)), jo.off⟩
        have hdkm := hdko.keep hom (fun k hk e => hR0 k hk (.inl e))
        have kvm := kvo.keep hom (fun hf => (hrg _ (.inl hf)).2 rfl)
        have kom := ko.keep hom (fun hf => by have := fi _ hf; omega)
        have belm := Only.bel (Only.bel hbel oo (fun _ h => h.elim)) hom (fun x hx => (hrg x (.inl hx)).1)
        have C2 := hide (umark_any jm.md)
        clear C1 cvo0 cvo1 y0 y1 y2 y3 y4 y5 kvo jo ko oo hdm hbel hdko
        go_wp2_with fail
        refine (unhide C2).mono ?_
        rintro e w2 ⟨rfl, hm2, ho2⟩
        have s2 := ho2.size
        have hmo := jm.md.own
        obtain ⟨mt, ms, mF⟩ := jm.apart
        have j2 : TW w2 t s d m D D [] J rt (.slice none 0 0) F H := ⟨jm.ts.keep ho2 (fun e => mt e.symm) (fun e => ms e.symm) (fun k hk e => mF k hk e), hm2, jm.off⟩
        have hdk2 := hdkm.keep ho2 (fun k hk e => hR0 k hk (.inr (.inl (e ▸ hmo))))
        have kv2 := kvm.keep ho2 (fun e => (hrg _ (.inr (.inl (e ▸ hmo)))).2 rfl)
        have ko2 := kom.keep ho2 (fun e => by have := hiH _ (e ▸ hmo); omega)
        have bel2 := Only.bel belm ho2 (fun x hx => (hrg x (.inr (.inl (hx ▸ hmo)))).1)
        have C3 := hide (uclone_any hm2)
        clear C2 jm kvm kom belm hm2 hdkm
        go_wp2_with fail
        refine (unhide C3).mono ?_
        rintro e w3 ⟨rfl, hb3, ho3⟩
        as_aux_lemma =>
        have s3 := ho3.size
        have j3 : PW w3 t s d m dk D J rt F H R := ⟨j2.quiet ho3, hdk2.keep ho3 (fun _ _ h => h), hR0⟩
        have kv3 := kv2.keep ho3 (fun h => h)
        have ko3 := ko2.keep ho3 (fun h => h)
        have bel3 := Only.bel bel2 ho3 (fun _ h => h.elim)
        have N3 : ∀ x, Ext (fun _ => False) w2 w3 x → w2.heap.size ≤ x ∧ x < w3.heap.size := fun x hx => newT hx
        generalize Ext (fun _ => False) w2 w3 = G3 at hb3 N3
        have C5 := hide (tplay_any ok oa oo2 oc os ot hsz j3)
        have kc0 := ko3.cell 0
        have kc1 := ko3.cell 1
        have kc2 := ko3.cell 2
        have kc3 := ko3.cell 3
        have kc4 := ko3.cell 4
        have kc5 := ko3.cell 5
        have hInv := hide j3.tw.ts.inv
        clear C3 j2 kv2 ko2 bel2 ho3 hdk2 j3
        go_wp2_with fail
        refine (unhide C5).mono ?_
        rintro e w5 ⟨rfl, ⟨recs', J', rt', hist', F', H', R', j5, ⟨a5, hl5, c5, rfl⟩, hfp, hdk5, hR5, hstill, hmid, hkeys, hfew⟩, ho5⟩
        as_aux_lemma =>
        have s5 := ho5.size
        have oF : ∀ x, (F x ∨ H x ∨ R x ∨ x = s ∨ x = t) → (w.heap.size ≤ x ∧ x ≠ vb) ∧ x ≠ wr.heap.size := by
          rintro x (h | h | h | h | h)
          · exact ⟨hrg x (.inl h), by have := fi x h; omega⟩
          · exact ⟨hrg x (.inr (.inl h)), by have := hiH x h; omega⟩
          · exact ⟨hrg x (.inr (.inr (.inr (.inl h)))), by have := hiR x h; omega⟩
          · subst h; exact ⟨hrg x (.inr (.inr (.inr (.inr (.inl rfl))))), by omega⟩
          · subst h; exact ⟨hrg x (.inr (.inr (.inr (.inr (.inr rfl))))), by omega⟩
        have oG : ∀ x, G3 x → ¬ (F x ∨ H x ∨ R x ∨ x = s ∨ x = t) := by
          rintro x hx (h | h | h | h | h)
          · have := N3 x hx; have := fi x h; omega
          · have := N3 x hx; have := hiH x h; omega
          · have := N3 x hx; have := hiR x h; omega
          · have := N3 x hx; omega
          · have := N3 x hx; omega
        have kv5 := kv3.keep ho5 (fun h => (oF _ h).1.2 rfl)
        have bel5 := Only.bel bel3 ho5 (fun x h => (oF x h).1.1)
        have hb5 := hb3.keep ho5 oG
        have key : ∀ x, F' x ∨ H' x ∨ R' x → (w.heap.size ≤ x ∧ x ≠ vb) ∧ ¬ G3 x := by
          intro x hx
          rcases hfp x hx with h | h | h | h
          · exact ⟨(oF x (.inl h)).1, fun e => oG x e (.inl h)⟩
          · exact ⟨(oF x (.inr (.inl h))).1, fun e => oG x e (.inr (.inl h))⟩
          · exact ⟨(oF x (.inr (.inr (.inl h)))).1, fun e => oG x e (.inr (.inr (.inl h)))⟩
          · exact ⟨by omega, fun e => by have := N3 x e; omega⟩
        have hfp6 : ∀ x, F' x ∨ H' x ∨ G3 x ∨ R' x ∨ x = s ∨ x = t → w.heap.size ≤ x ∧ x ≠ vb := by
          rintro x (h | h | h | h | h | h)
          · exact (key x (.inl h)).1
          · exact (key x (.inr (.inl h))).1
          · have := N3 x h; omega
          · exact (key x (.inr (.inr h))).1
          · exact (oF x (.inr (.inr (.inr (.inl h))))).1
          · exact (oF x (.inr (.inr (.inr (.inr h))))).1
        have hG6 : ∀ x, G3 x → ¬ (F' x ∨ H' x ∨ R' x ∨ x = s ∨ x = t) := by
          rintro x hx (h | h | h | h | h)
          · exact (key x (.inl h)).2 hx
          · exact (key x (.inr (.inl h))).2 hx
          · exact (key x (.inr (.inr h))).2 hx
          · exact oG x hx (.inr (.inr (.inr (.inl h))))
          · exact oG x hx (.inr (.inr (.inr (.inr h))))
        have fin : ∀ wx, Only (fun _ => False) w5 wx → TVI w vb t m w2.heap.size dk wx := fun wx hox =>
          ⟨⟨s, d, _, D, recs', J', rt', _, F', H', J, rt, G3, R', j5.quiet hox, ⟨_, hb5.quiet hox⟩, unhide hInv, hdk5.keep hox (fun _ _ h => h), rfl, hmid, hstill, hkeys, hfew, kv5.keep hox (fun h => h), hfp6, hG6, hR5⟩, Only.bel bel5 hox (fun _ h => h.elim), hvb⟩
        have Fin := hide fin
        have C6 := hide (tlsteps_any j5.ts.dev s)
        have u0 := kv5.cell 0
        have u1 := kv5.cell 1
        clear hfp6 hG6 hb5 bel5 fin hmid hkeys hstill hfp oF oG C5 kc0 kc1 kc2 kc3 kc4 kc5 kv3 ko3 bel3 hb3 ho5 key hdk5 hR5 hfew
        go_wp2_with fail
        refine (unhide C6).mono ?_
        rintro e w6 ⟨rfl, ho6⟩
        have j6 := j5.quiet ho6
        have kv6 := kv5.keep ho6 (fun h => h)
        have C7 := hide (usteps_any j6.md)
        clear C6 u0 u1 kv5 j5
        go_wp2_with fail
        refine (unhide C7).mono ?_
        rintro e w7 ⟨rfl, rfl⟩
        have v0 := kv6.cell 0
        have v1 := kv6.cell 1
        have C7b := hide (tlcounted_any (recs'.length : Int) (hl5 : Int) w6)
        clear C7
        go_wp2_with fail
        refine (unhide C7b).mono ?_
        rintro e w7 ⟨rfl, rfl⟩
        clear C7b
        have hrr : ((recs'.length : Int) != (recs'.length : Int)) = false := by simp
        cases quiet with
        | true =>
          have hVIn := unhide Fin w6 ho6
          clear j6 kv6 ho6 v0 v1 Fin
          go_wp2_with fail
          go_roundw
          case rel => exact ⟨k + 1, t, m, w2.heap.size, by omega, by go_num, rfl, rfl, rfl, hVIn⟩
          case measure => simp [intOf]; omega
        | false =>
          have C8 := hide (talike_any j6.ts j6.md j6.ts.inv)
          go_wp2_with fail
          refine (unhide C8).mono ?_
          rintro e w8 ⟨b8, rfl, hb8, ho8⟩
          obtain rfl : b8 = true := hb8.2 (Allike.refl _ _)
          have C9 := hide (tlsteps_any (j6.quiet ho8).ts.dev s)
          have kv8 := kv6.keep ho8 (fun h => h)
          have v0 := kv8.cell 0
          have v1 := kv8.cell 1
          have o58 := ho6.trans ho8 (fun _ _ h => h)
          clear C8 hb8 j6 kv6
          go_wp2_with fail
          refine (unhide C9).mono ?_
          rintro e w9 ⟨rfl, ho9⟩
          have hVIn := unhide Fin w9 (o58.trans ho9 (fun _ _ h => h))
          clear C9 kv8 Fin o58 ho8 ho9 v0 v1
          go_wp2_with fail
          go_roundw
          case rel => exact ⟨k + 1, t, m, w2.heap.size, by omega, by go_num, rfl, rfl, rfl, hVIn⟩
          case measure => simp [intOf]; omega
    · have hkI : decide ((k : Int) < (len : Int)) = false := by simp; omega
      by_cases hl8 : len < 4398046511104
      · have hl9 : decide ((len : Int) < 4398046511104) = true := by simp; omega
        go_wp2_with fail
        go_ret2
        exact ⟨⟨_, rfl⟩, hvi.bel⟩
      · have hl9 : decide ((len : Int) < 4398046511104) = false := by simp; omega
        go_wp2_with fail
        go_ret2
        exact ⟨⟨_, rfl⟩, hvi.bel⟩
end Go.Proofs.Qxb6500421aGreat
