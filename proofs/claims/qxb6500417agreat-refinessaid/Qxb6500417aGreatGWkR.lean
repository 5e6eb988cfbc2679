/-
  OWN WORK. THE GRAPH LAW's WALK (written by tools/gen_gwk.py R).
-/
import Derived.Test.Qxb6500417aGreatGWk2
namespace Go.Proofs.Qxb6500417aGreat
open Go.RowKit Go.PlainAid
set_option linter.unusedSimpArgs false
set_option linter.unusedVariables false

set_option maxRecDepth 100000 in
set_option maxHeartbeats 32000000 in
theorem glwalkR_any (ad : Option Addr) (len cap : Nat) (ops : List OpD) (w : World) (hops : OpsAt w ad len ops) (hlen : len ≤ 4398046511104) :
    Calls Tryz.prog 7 #[.slice ad len cap, .bool false, .bool false] w fun e w' => (∃ v, e = .returned (.tuple #[.int .i64 (-1), v])) ∧ Below w.heap.size w w' := by
  have C0 := hide (glground_any w)
  go_enter Tryz.func7, Tryz.ntmps7
  go_wp2_with fail
  refine (unhide C0).mono ?_
  rintro e w1 ⟨d, s, t, F, rfl, h1, N1, ho1⟩
  have o2 : Only (fun _ => False) w1 (w1.alloc (.cells (belC d t) 30)) := (Only.refl _ w1).alloc _
  have kv := Has.new w1 (belC d t) 30
  have s1 := ho1.size
  have hlt1 : ∀ y, F y ∨ y = s ∨ y = t → y ≠ w1.heap.size := fun y hy => by
    obtain ⟨t1, t2, t3⟩ := h1.ts_lt
    rcases hy with e | e | e
    · have := t3 y e; omega
    · omega
    · omega
  have C1 := hide (gnew_any (h1.quiet o2) (Fnd.blank (fun i hi => rfl) rfl rfl : Fnd (fun _ => Sl.free) 0 GA.fresh) (by simp))
  have bel2 : Below w.heap.size w (w1.alloc (.cells (belC d t) 30)) := Only.bel (Only.bel (Below.refl _ _) ho1 (fun _ h => h.elim)) o2 (fun _ h => h.elim)
  have HN1 := hide N1
  have Hlt1 := hide hlt1
  have Hbel2 := hide bel2
  have Hkv := hide kv
  clear C0 h1 N1 ho1 o2 kv hlt1 bel2
  unfold belC at C1 Hbel2 Hkv
  go_upto_region 2 with fail
  generalize w1.alloc (.cells #[.pointer (some ⟨d, 0, none⟩), .pointer (some ⟨t, 0, none⟩)] 30) = W2 at *
  generalize hvb : w1.heap.size = vb at *
  have k1 := (unhide Hkv).cell 1
  simp only [List.getElem?_toArray, List.getElem?_cons_zero, List.getElem?_cons_succ] at k1
  have kl := (unhide Hkv).lt
  go_wp2_with fail
  refine (unhide C1).mono ?_
  rintro e w3 ⟨g, rfl, hgl, T, R, F', J', rt', hO, hcase⟩
  as_aux_lemma =>
  obtain ⟨hR, hf⟩ : 1 ≤ R.length ∧ frJ J' = 46 := by
    rcases hcase with ⟨_, a, _, b⟩ | h
    · exact ⟨a, b⟩
    · exact absurd rfl h.1
  have HO := hide hO
  have C2 := hide (hnew_any w3)
  clear C1 hO hcase k1 kl
  go_wp2_with fail
  refine (unhide C2).mono ?_
  rintro e w4 ⟨m, rfl, h4⟩
  have C3 := hide (hlax_any h4.mg)
  have H4 := hide h4
  clear C2 h4
  go_wp2_with fail
  refine (unhide C3).mono ?_
  rintro e w5 ⟨rfl, h5, ho5⟩
  have C4 := hide (hclone_any h5 ASm.fresh ASm.fresh)
  have H5 := hide h5
  have HO5 := hide ho5
  clear C3 h5 ho5
  go_wp2_with fail
  refine (unhide C4).mono ?_
  rintro e w6 ⟨mb, rfl, h6⟩
  as_aux_lemma =>
  have hvi := GV.start (w0 := w) (vb := vb) (unhide HO) hR hf hgl (unhide HN1) (unhide Hkv) (unhide Hlt1) s1 (unhide Hbel2) (unhide H4) (unhide H5) (unhide HO5) h6
  clear C4 h6 HO H4 H5 HO5 HN1 Hlt1 Hbel2 Hkv
  obtain ⟨q, hq, hq1, hq2⟩ : ∃ q : GS, GV q w vb g m mb false (.slice none 0 0) 0 w6 ∧ q.recs.length = R.length ∧ frJ q.J = 46 := ⟨_, hvi, rfl, hf⟩
  have hgR : 1 ≤ q.recs.length := by rw [hq1]; exact hR
  clear hvi hf hq1 hgl
  have HV := hide hq
  have kvl := hq.kv.lt
  have kv0 : w6.cell? ⟨vb, 0, none⟩ = some (.pointer (some ⟨q.d, 0, none⟩)) := hq.kv.cell 0
  have kv1 : w6.cell? ⟨vb, 1, none⟩ = some (.pointer (some ⟨q.t, 0, none⟩)) := hq.kv.cell 1
  have C5 := hide hq.steps
  clear hq hR
  go_wp2_with fail
  refine (unhide C5).mono ?_
  rintro e w7 ⟨rfl, o7⟩
  have HV7 := hide ((unhide HV).quiet o7)
  clear C5 o7 HV kv0 kv1 kvl
  have kv0 : w7.cell? ⟨vb, 0, none⟩ = some (.pointer (some ⟨q.d, 0, none⟩)) := (unhide HV7).kv.cell 0
  have kv1 : w7.cell? ⟨vb, 1, none⟩ = some (.pointer (some ⟨q.t, 0, none⟩)) := (unhide HV7).kv.cell 1
  have kvl := (unhide HV7).kv.lt
  have C6 := hide (unhide HV7).free
  go_wp2_with fail
  refine (unhide C6).mono ?_
  rintro e w8 ⟨rfl, o8⟩
  have HV8 := hide ((unhide HV7).quiet o8)
  have C7 := hide (glone_any q.recs.length w8 hgR)
  clear C6 o8 HV7 kv0 kv1 kvl
  go_wp2_with fail
  refine (unhide C7).mono ?_
  rintro e w9 ⟨rfl, rfl⟩
  clear C7
  have kv0 : w8.cell? ⟨vb, 0, none⟩ = some (.pointer (some ⟨q.d, 0, none⟩)) := (unhide HV8).kv.cell 0
  have kv1 : w8.cell? ⟨vb, 1, none⟩ = some (.pointer (some ⟨q.t, 0, none⟩)) := (unhide HV8).kv.cell 1
  have kvl := (unhide HV8).kv.lt
  have C8 := hide (unhide HV8).room
  go_wp2_with fail
  refine (unhide C8).mono ?_
  rintro e w9 ⟨rfl, o9⟩
  have HV9 := hide ((unhide HV8).quiet o9)
  clear C8 o9 HV8 kv0 kv1 kvl
  have kv0 : w9.cell? ⟨vb, 0, none⟩ = some (.pointer (some ⟨q.d, 0, none⟩)) := (unhide HV9).kv.cell 0
  have kv1 : w9.cell? ⟨vb, 1, none⟩ = some (.pointer (some ⟨q.t, 0, none⟩)) := (unhide HV9).kv.cell 1
  have kvl := (unhide HV9).kv.lt
  have C9 := hide (unhide HV9).alike
  go_wp2_with fail
  refine (unhide C9).mono ?_
  rintro e w10 ⟨rfl, o10⟩
  have HV10 := hide ((unhide HV9).quiet o10)
  clear C9 o10 HV9 kv0 kv1 kvl
  have kv0 : w10.cell? ⟨vb, 0, none⟩ = some (.pointer (some ⟨q.d, 0, none⟩)) := (unhide HV10).kv.cell 0
  have kv1 : w10.cell? ⟨vb, 1, none⟩ = some (.pointer (some ⟨q.t, 0, none⟩)) := (unhide HV10).kv.cell 1
  have kvl := (unhide HV10).kv.lt
  have C10 := hide (unhide HV10).steps
  have n0 := neI (q.recs.length : Int)
  go_wp2_with fail
  refine (unhide C10).mono ?_
  rintro e w11 ⟨rfl, o11⟩
  have HV11 := hide ((unhide HV10).quiet o11)
  clear C10 o11 HV10 kv0 kv1 kvl
  have kv0 : w11.cell? ⟨vb, 0, none⟩ = some (.pointer (some ⟨q.d, 0, none⟩)) := (unhide HV11).kv.cell 0
  have kv1 : w11.cell? ⟨vb, 1, none⟩ = some (.pointer (some ⟨q.t, 0, none⟩)) := (unhide HV11).kv.cell 1
  have kvl := (unhide HV11).kv.lt
  have C11 := hide (unhide HV11).free
  have n1 := neI ((frJ q.J : Nat) : Int)
  go_wp2_with fail
  refine (unhide C11).mono ?_
  rintro e w12 ⟨rfl, o12⟩
  have HVs := hide ((unhide HV11).quiet o12)
  clear C11 o12 HV11 kv0 kv1 kvl n0 n1
  go_wp2_with fail
  clear hgR hq2
  go_loopw [9, 10, 11, 12, 13, 16] (fun xv mv bv rz ev iv wr => ∃ (q : GS) (g m mb : Nat) (rv : Value) (ex : Bool) (k : Nat), rv = rz ∧ xv = .pointer (some ⟨g, 0, none⟩) ∧ mv = .pointer (some ⟨m, 0, none⟩) ∧ bv = .pointer (some ⟨mb, 0, none⟩) ∧ ev = .bool ex ∧ iv = .int .i64 k ∧ k ≤ len ∧ GV q w vb g m mb ex rv k wr) (fun _ _ _ _ _ iv _ => len - (intOf iv).toNat)
  case atStart => exact ⟨q, g, m, mb, _, false, 0, rfl, rfl, rfl, rfl, rfl, rfl, by omega, unhide HVs⟩
  case round =>
    clear HVs
    obtain ⟨q, g, m, mb, rv, ex, k, rfl, rfl, rfl, rfl, rfl, rfl, hk, hvi⟩ := hrel
    as_aux_lemma =>
    by_cases hkl : k < len
    · obtain ⟨hol, hoa⟩ := hops
      obtain ⟨ab, aoff, rfl, hcells⟩ := hoa (by omega)
      obtain ⟨y0, y1, y2, y3, y4, y5, hsz⟩ := hcells k (by omega)
      clear hcells hoa
      have hbel := hvi.bel
      have hab : ab < w.heap.size := World.block_lt_of_cell? w ⟨ab, aoff + k * 6, none⟩ y0
      rw [← hbel.cell (p := ⟨ab, aoff + k * 6, none⟩) hab] at y0
      rw [← hbel.cell (p := ⟨ab, aoff + k * 6 + 1, none⟩) hab] at y1
      rw [← hbel.cell (p := ⟨ab, aoff + k * 6 + 2, none⟩) hab] at y2
      rw [← hbel.cell (p := ⟨ab, aoff + k * 6 + 3, none⟩) hab] at y3
      rw [← hbel.cell (p := ⟨ab, aoff + k * 6 + 4, none⟩) hab] at y4
      rw [← hbel.cell (p := ⟨ab, aoff + k * 6 + 5, none⟩) hab] at y5
      generalize ops[k]'(by omega) = o at *
      obtain ⟨ok, oa, ob, oc, os, ot⟩ := o
      simp only at y0 y1 y2 y3 y4 y5
      have hkI : (k : Int) < (len : Int) := by omega
      have hkM : decide ((k : Int) < 4398046511104) = true := by simp; omega
      have oo : Only (fun _ => False) wr (wr.alloc (.cells #[.int .i64 ok, .int .i64 oa, .int .i64 ob, .int .i64 oc, .string os, .string ot] 42)) := (Only.refl _ wr).alloc _
      have ko := Has.new wr #[.int .i64 ok, .int .i64 oa, .int .i64 ob, .int .i64 oc, .string os, .string ot] 42
      clear hsz hol hbel
      by_cases hten : ok = 13
      · subst hten
        have hv1 := hvi.quiet oo
        have HV := hide hvi
        have HKo := hide ko
        have HKv := hide hv1.kv
        have HO : Hid (Only (fun y => y = vb) wr (wr.alloc (.cells #[.int .i64 13, .int .i64 oa, .int .i64 ob, .int .i64 oc, .string os, .string ot] 42))) := hide (oo.mono (fun _ _ h => h.elim))
        have C1 := hide hv1.steps
        have kv0 : (wr.alloc (.cells #[.int .i64 13, .int .i64 oa, .int .i64 ob, .int .i64 oc, .string os, .string ot] 42)).cell? ⟨vb, 0, none⟩ = some (.pointer (some ⟨q.d, 0, none⟩)) := (unhide HKv).cell 0
        have kv1 : (wr.alloc (.cells #[.int .i64 13, .int .i64 oa, .int .i64 ob, .int .i64 oc, .string os, .string ot] 42)).cell? ⟨vb, 1, none⟩ = some (.pointer (some ⟨q.t, 0, none⟩)) := (unhide HKv).cell 1
        have kvl := (unhide HKv).lt
        obtain ⟨JX, rtX, SX, hc⟩ := hvi.cutR oa
        have HC := hide hc
        have s0 : wr.heap.size < (wr.alloc (.cells #[.int .i64 13, .int .i64 oa, .int .i64 ob, .int .i64 oc, .string os, .string ot] 42)).heap.size := ko.lt
        have hvbl : vb < wr.heap.size := hvi.kv.lt
        have Hkeys := hide (And.intro hvi.keys hvi.len)
        clear hvi oo ko hc hv1
        go_upto_region 25 with fail
        generalize (wr.alloc (.cells #[.int .i64 13, .int .i64 oa, .int .i64 ob, .int .i64 oc, .string os, .string ot] 42)) = W1 at *
        generalize hko : wr.heap.size = kb at *
        have x0 : W1.cell? ⟨kb, 0, none⟩ = some (.int .i64 13) := (unhide HKo).cell 0
        have xl := (unhide HKo).lt
        clear y0 y1 y2 y3 y4 y5
        go_wp2_with fail
        refine (unhide C1).mono ?_
        rintro e w2 ⟨rfl, o2⟩
        as_aux_lemma =>
        have HKo2 := hide ((unhide HKo).keep o2 (fun h => h))
        have HKv2 := hide ((unhide HKv).keep o2 (fun h => h))
        have HO2 := hide ((unhide HO).trans (o2.mono (T := fun y => y = vb) (fun _ _ h => h.elim)) (fun _ _ e => e))
        have s2 := o2.size
        clear C1 o2 kv0 kv1 kvl x0 xl HKo HKv HO
        have o3 : Only (fun _ => False) w2 (w2.alloc (.cells #[.pointer (some ⟨q.d, 0, none⟩), .pointer (some ⟨q.t, 0, none⟩)] 30)) := (Only.refl _ w2).alloc _
        have kn := Has.new w2 #[.pointer (some ⟨q.d, 0, none⟩), .pointer (some ⟨q.t, 0, none⟩)] 30
        have s3 : w2.heap.size < (w2.alloc (.cells #[.pointer (some ⟨q.d, 0, none⟩), .pointer (some ⟨q.t, 0, none⟩)] 30)).heap.size := kn.lt
        have HKb3 := hide kn
        have HKo3 := hide ((unhide HKo2).keep o3 (fun h => h))
        have HKv3 := hide ((unhide HKv2).keep o3 (fun h => h))
        have HO3 := hide ((unhide HO2).trans (o3.mono (T := fun y => y = vb) (fun _ _ h => h.elim)) (fun _ _ e => e))
        have dv3 := ((unhide HV).gr.ts.dev.keep (unhide HO3) (fun y hy e => ((unhide HV).fK y (.inl (.inl hy))).2 e))
        have C2 := glafter_any dv3 q.t oa (unhide Hkeys).1 (by have := (unhide Hkeys).2; omega) (unhide HC).shows (unhide HC).inv
        generalize hD0 : replayB q.B (q.recs.take oa.toNat) = D0 at C2
        have HD0 := hide hD0
        have C2 := hide C2
        have kv0 : w2.cell? ⟨vb, 0, none⟩ = some (.pointer (some ⟨q.d, 0, none⟩)) := (unhide HKv2).cell 0
        have kv1 : w2.cell? ⟨vb, 1, none⟩ = some (.pointer (some ⟨q.t, 0, none⟩)) := (unhide HKv2).cell 1
        have kvl := (unhide HKv2).lt
        clear o3 kn dv3 hD0
        go_upto_region 74 with fail
        generalize w2.alloc (.cells #[.pointer (some ⟨q.d, 0, none⟩), .pointer (some ⟨q.t, 0, none⟩)] 30) = w3 at *
        generalize hbb : w2.heap.size = bb at *
        clear kv0 kv1 kvl HKv2 HKo2 HO2
        have n0 : w3.cell? ⟨bb, 0, none⟩ = some (.pointer (some ⟨q.d, 0, none⟩)) := (unhide HKb3).cell 0
        have n1 : w3.cell? ⟨bb, 1, none⟩ = some (.pointer (some ⟨q.t, 0, none⟩)) := (unhide HKb3).cell 1
        have nl := (unhide HKb3).lt
        have x1 : w3.cell? ⟨kb, 1, none⟩ = some (.int .i64 oa) := (unhide HKo3).cell 1
        have xl := (unhide HKo3).lt
        go_wp2_with fail
        refine (unhide C2).mono ?_
        rintro e w4 ⟨d', s', t', F1, rfl, hT4, hF4, ho4⟩
        as_aux_lemma =>
        have s4 := ho4.size
        have HKo4 := hide ((unhide HKo3).keep ho4 (fun h => h))
        have HKv4 := hide ((unhide HKv3).keep ho4 (fun h => h))
        have HKb4 := hide ((unhide HKb3).keep ho4 (fun h => h))
        have HO4 := hide ((unhide HO3).trans (ho4.mono (T := fun y => y = vb) (fun _ _ h => h.elim)) (fun _ _ e => e))
        clear C2 n0 n1 nl x1 xl HKo3 HKv3 HKb3 HO3 ho4
        have o5 : Only (fun y => y = vb) w4 ((w4.setCell ⟨vb, 0, none⟩ (.pointer (some ⟨d', 0, none⟩))).setCell ⟨vb, 1, none⟩ (.pointer (some ⟨t', 0, none⟩))) := onlyS (onlyS (Only.refl (fun y => y = vb) w4) _ _) _ _
        have s5 : ((w4.setCell ⟨vb, 0, none⟩ (.pointer (some ⟨d', 0, none⟩))).setCell ⟨vb, 1, none⟩ (.pointer (some ⟨t', 0, none⟩))).heap.size = w4.heap.size := by simp
        have HKv5 : Hid (Has ((w4.setCell ⟨vb, 0, none⟩ (.pointer (some ⟨d', 0, none⟩))).setCell ⟨vb, 1, none⟩ (.pointer (some ⟨t', 0, none⟩))) vb (belC d' t') 30) := hide (by first | exact ((unhide HKv4).setCell 0 (.pointer (some ⟨d', 0, none⟩))).setCell 1 (.pointer (some ⟨t', 0, none⟩)) | simpa [belC] using ((unhide HKv4).setCell 0 (.pointer (some ⟨d', 0, none⟩))).setCell 1 (.pointer (some ⟨t', 0, none⟩)))
        have hT5 := hT4.keep o5 (fun e => by have := hF4 t' (.inr (.inr rfl)); have e' : t' = vb := e; omega) (fun e => by have := hF4 s' (.inr (.inl rfl)); have e' : s' = vb := e; omega) (fun y hy e => by have := hF4 y (.inl hy); have e' : y = vb := e; omega)
        have HKo5 := hide ((unhide HKo4).keep o5 (fun e => by have e' : kb = vb := e; omega))
        have HKb5 := hide ((unhide HKb4).keep o5 (fun e => by have e' : bb = vb := e; omega))
        have HO5 := hide ((unhide HO4).trans o5 (fun _ _ e => e))
        have HF := hide hF4
        obtain ⟨rb, hrb⟩ : ∃ b : Bool, decide (rtX ≠ 0) = b := ⟨_, rfl⟩
        have C3 := glrooted_any hT5
        rw [hrb] at C3
        have C3 := hide C3
        have HT5 := hide hT5
        have Hrb := hide hrb
        have kv0 : w4.cell? ⟨vb, 0, none⟩ = some (.pointer (some ⟨q.d, 0, none⟩)) := (unhide HKv4).cell 0
        have kv1 : w4.cell? ⟨vb, 1, none⟩ = some (.pointer (some ⟨q.t, 0, none⟩)) := (unhide HKv4).cell 1
        have kvl := (unhide HKv4).lt
        have kz0 := (unhide HKv4).free 0
        have kz1 := (unhide HKv4).free 1
        clear hT4 hT5 o5 hF4 HKo4 HKb4 HO4 hrb
        go_upto_region 75 with fail
        generalize (w4.setCell ⟨vb, 0, none⟩ (.pointer (some ⟨d', 0, none⟩))).setCell ⟨vb, 1, none⟩ (.pointer (some ⟨t', 0, none⟩)) = w5 at *
        clear kv0 kv1 kvl kz0 kz1 HKv4
        have kv0 : w5.cell? ⟨vb, 0, none⟩ = some (.pointer (some ⟨d', 0, none⟩)) := (unhide HKv5).cell 0
        have kv1 : w5.cell? ⟨vb, 1, none⟩ = some (.pointer (some ⟨t', 0, none⟩)) := (unhide HKv5).cell 1
        have kvl := (unhide HKv5).lt
        go_wp2_with fail
        refine (unhide C3).mono ?_
        rintro e w6 ⟨rfl, o6⟩
        have s6 := o6.size
        have HKo6 := hide ((unhide HKo5).keep o6 (fun h => h))
        have HKv6 := hide ((unhide HKv5).keep o6 (fun h => h))
        have HKb6 := hide ((unhide HKb5).keep o6 (fun h => h))
        have HO6 := hide ((unhide HO5).trans (o6.mono (T := fun y => y = vb) (fun _ _ h => h.elim)) (fun _ _ e => e))
        have C4 := hide (gopen_any ((unhide HT5).quiet o6) (unhide HC).fnd (by simp))
        clear C3 o6 kv0 kv1 kvl HKo5 HKv5 HKb5 HO5 HT5
        have kv0 : w6.cell? ⟨vb, 0, none⟩ = some (.pointer (some ⟨d', 0, none⟩)) := (unhide HKv6).cell 0
        have kv1 : w6.cell? ⟨vb, 1, none⟩ = some (.pointer (some ⟨t', 0, none⟩)) := (unhide HKv6).cell 1
        have kvl := (unhide HKv6).lt
        go_wp2_with fail
        refine (unhide C4).mono ?_
        rintro e w7 ⟨g', rfl, hgl, T, R, F', J', rt', hO, hcas⟩
        as_aux_lemma =>
        have hop := hO.went.only
        have s7 := hop.size
        have HN7 := hide (GNw.start (vb := vb) (lo := w3.heap.size) hO hcas hgl (unhide HF) (by omega) (unhide HKv6) (by omega))
        have HO7 := hide (GNw.only (wr := wr) hO hgl (unhide HF) (by omega) (unhide HO6))
        have hkx : ∀ y, y < w3.heap.size → ¬ (y = g' ∨ y = t' ∨ y = s' ∨ F1 y) := fun y hy e => by
          rcases e with e | e | e | e
          · omega
          · have := unhide HF y (.inr (.inr e)); omega
          · have := unhide HF y (.inr (.inl e)); omega
          · have := unhide HF y (.inl e); omega
        have HKo7 := hide ((unhide HKo6).keep hop (hkx kb (by omega)))
        have HKb7 := hide ((unhide HKb6).keep hop (hkx bb (by omega)))
        have HKv7 := hide (unhide HN7).kv
        have C5 := glsteps_any (unhide HN7).gr.ts.dev t'
        obtain ⟨nR, hnR⟩ : ∃ n : Nat, R.length = n := ⟨_, rfl⟩
        rw [hnR] at C5
        have C5 := hide C5
        have HnR := hide hnR
        clear C4 hO hcas hop hkx kv0 kv1 kvl HKo6 HKv6 HKb6 HO6 HF hnR
        have kv0 : w7.cell? ⟨vb, 0, none⟩ = some (.pointer (some ⟨d', 0, none⟩)) := (unhide HKv7).cell 0
        have kv1 : w7.cell? ⟨vb, 1, none⟩ = some (.pointer (some ⟨t', 0, none⟩)) := (unhide HKv7).cell 1
        have kvl := (unhide HKv7).lt
        go_wp2_with fail
        refine (unhide C5).mono ?_
        rintro e w8 ⟨rfl, o8⟩
        have s8 := o8.size
        have HN8 := hide ((unhide HN7).quiet o8)
        have HKo8 := hide ((unhide HKo7).keep o8 (fun h => h))
        have HKb8 := hide ((unhide HKb7).keep o8 (fun h => h))
        have HO8 := hide ((unhide HO7).trans (o8.mono (T := fun y => y = vb) (fun _ _ h => h.elim)) (fun _ _ e => e))
        clear C5 o8 kv0 kv1 kvl HN7 HKo7 HKb7 HO7 HKv7
        go_upto_if 251 with fail
        go_cut [] from 252 to 260 (fun wx => w8 = wx)
        case first =>
          rcases (unhide HN8).cas with ⟨a, b, _⟩ | ⟨a, b, _⟩
          · have eb : rb = false := by rw [← unhide Hrb, a]; rfl
            subst eb
            have hn1 : 1 ≤ nR := by rw [← unhide HnR]; exact b
            have C6 := hide (glone_any nR w8 hn1)
            clear a b
            go_wp2_with fail
            refine (unhide C6).mono ?_
            rintro e wy ⟨rfl, rfl⟩
            go_wp2_with fail
            go_meet
            first | exact rfl | trivial
          · have eb : rb = true := by rw [← unhide Hrb]; exact decide_eq_true a
            subst eb
            have hn0 : nR = 0 := by rw [← unhide HnR, b]; rfl
            have e0 : (((nR : Nat) : Int) != 0) = false := by rw [hn0]; rfl
            clear a b hn0
            go_wp2_with fail
            go_meet
            first | exact rfl | trivial
        case rest =>
        obtain rfl := hcut
        have C6 := hide (glfree_any (unhide HN8).gr.ts d')
        have HKv8 := hide (unhide HN8).kv
        clear Hrb
        have kv0 : w8.cell? ⟨vb, 0, none⟩ = some (.pointer (some ⟨d', 0, none⟩)) := (unhide HKv8).cell 0
        have kv1 : w8.cell? ⟨vb, 1, none⟩ = some (.pointer (some ⟨t', 0, none⟩)) := (unhide HKv8).cell 1
        have kvl := (unhide HKv8).lt
        go_wp2_with fail
        refine (unhide C6).mono ?_
        rintro e w9 ⟨rfl, o9⟩
        as_aux_lemma =>
        have s9 := o9.size
        have HN9 := hide ((unhide HN8).quiet o9)
        have HKl : Hid (∀ y, (F' y ∨ y = s' ∨ y = t' ∨ y = g') → y < w9.heap.size) := hide (fun y hy => (unhide HN9).lt hy)
        have Hrm := hide (unhide HN9).rm
        have HKo9 := hide ((unhide HKo8).keep o9 (fun h => h))
        have HKb9 := hide ((unhide HKb8).keep o9 (fun h => h))
        have HO9 := hide ((unhide HO8).trans (o9.mono (T := fun y => y = vb) (fun _ _ h => h.elim)) (fun _ _ e => e))
        clear C6 o9 kv0 kv1 kvl HN8 HKo8 HKb8 HO8 HKv8
        obtain ⟨hz0, hmb⟩ := (unhide HV).mb
        have C7 := hide (hcrash_any (hmb.keep (unhide HO9) (fun y hy e => ((unhide HV).fK y (.inr (.inr (.inl hy)))).2 e)) (unhide HV).a0.2.1 (unhide HV).a0.2.1)
        clear hmb
        go_wp2_with fail
        refine (unhide C7).mono ?_
        rintro e w10 ⟨cb, rfl, h10⟩
        have s10 := h10.ho.size
        have HB10 := hide h10.mg
        have HN10 := hide ((unhide HN9).quiet h10.ho)
        have HKo10 := hide ((unhide HKo9).keep h10.ho (fun h => h))
        have HKb10 := hide ((unhide HKb9).keep h10.ho (fun h => h))
        have HO10 := hide ((unhide HO9).trans (h10.ho.mono (T := fun y => y = vb) (fun _ _ h => h.elim)) (fun _ _ e => e))
        clear C7 h10 HN9 HKo9 HKb9 HO9
        obtain ⟨hz1, hmm⟩ := (unhide HV).mg
        have C8 := hide (hcrash_any (hmm.keep (unhide HO10) (fun y hy e => ((unhide HV).fK y (.inr (.inl hy))).2 e)) (unhide HV).gr.asmS (unhide HV).gr.asmS)
        clear hmm
        go_wp2_with fail
        refine (unhide C8).mono ?_
        rintro e w11 ⟨cm, rfl, h11⟩
        have s11 := h11.ho.size
        have HB11 := hide ((unhide HB10).quiet h11.ho)
        have HM11 := hide h11.mg
        have HN11 := hide ((unhide HN10).quiet h11.ho)
        have HKo11 := hide ((unhide HKo10).keep h11.ho (fun h => h))
        have HKb11 := hide ((unhide HKb10).keep h11.ho (fun h => h))
        have HO11 := hide ((unhide HO10).trans (h11.ho.mono (T := fun y => y = vb) (fun _ _ h => h.elim)) (fun _ _ e => e))
        have HKv11 := hide (unhide HN11).kv
        clear C8 h11 HN10 HKo10 HKb10 HO10 HB10
        have C9 := hide (galike_any (unhide HN11).gr (unhide HB11) (unhide HV).a0.2.1 (unhide HV).a0.2.2 d' false)
        have kv0 : w11.cell? ⟨vb, 0, none⟩ = some (.pointer (some ⟨d', 0, none⟩)) := (unhide HKv11).cell 0
        have kv1 : w11.cell? ⟨vb, 1, none⟩ = some (.pointer (some ⟨t', 0, none⟩)) := (unhide HKv11).cell 1
        have kvl := (unhide HKv11).lt
        go_wp2_with fail
        refine (unhide C9).mono ?_
        rintro e w12 ⟨nB, rfl, hnB, o12⟩
        as_aux_lemma =>
        have s12 := o12.size
        rw [(unhide HN11).ab] at hnB
        have HnB := hide hnB
        have HB12 := hide ((unhide HB11).quiet o12)
        have HM12 := hide ((unhide HM11).quiet o12)
        have HN12 := hide ((unhide HN11).quiet o12)
        have HKo12 := hide ((unhide HKo11).keep o12 (fun h => h))
        have HKb12 := hide ((unhide HKb11).keep o12 (fun h => h))
        have HO12 := hide ((unhide HO11).trans (o12.mono (T := fun y => y = vb) (fun _ _ h => h.elim)) (fun _ _ e => e))
        have HKv12 := hide (unhide HN12).kv
        clear C9 o12 hnB kv0 kv1 kvl HN11 HKo11 HKb11 HO11 HB11 HM11 HKv11
        have C10 := hide (galike_any (unhide HN12).gr (unhide HM12) (unhide HV).gr.asmS (unhide HV).gr.seqS d' ex)
        have kv0 : w12.cell? ⟨vb, 0, none⟩ = some (.pointer (some ⟨d', 0, none⟩)) := (unhide HKv12).cell 0
        have kv1 : w12.cell? ⟨vb, 1, none⟩ = some (.pointer (some ⟨t', 0, none⟩)) := (unhide HKv12).cell 1
        have kvl := (unhide HKv12).lt
        go_wp2_with fail
        refine (unhide C10).mono ?_
        rintro e w13 ⟨aB, rfl, haB, o13⟩
        as_aux_lemma =>
        have s13 := o13.size
        rw [(unhide HN12).ab] at haB
        obtain ⟨t1, t2, t3⟩ := (unhide HC).tests (unhide HN12).rm (unhide HnB) haB
        obtain ⟨t4, t5⟩ := CutR.goes t1 (unhide HnB) haB
        obtain ⟨rX, hrX⟩ : ∃ x : Int, (if aB = true then q.sr else q.sr0) = x := ⟨_, rfl⟩
        rw [hrX] at t5
        have Ht1 := hide t1
        have Ht2 := hide t2
        have Ht3 := hide t3
        have Ht4 := hide t4
        have Ht5 := hide t5
        have HrX := hide hrX
        have HB13 := hide ((unhide HB12).quiet o13)
        have HM13 := hide ((unhide HM12).quiet o13)
        have HN13 := hide ((unhide HN12).quiet o13)
        have HKo13 := hide ((unhide HKo12).keep o13 (fun h => h))
        have HKb13 := hide ((unhide HKb12).keep o13 (fun h => h))
        have HO13 := hide ((unhide HO12).trans (o13.mono (T := fun y => y = vb) (fun _ _ h => h.elim)) (fun _ _ e => e))
        have HKv13 := hide (unhide HN13).kv
        clear C10 o13 haB t1 t2 t3 t4 t5 hrX HnB kv0 kv1 kvl HN12 HKo12 HKb12 HO12 HB12 HM12 HKv12
        have C11 := glsteps_any (unhide HN13).gr.ts.dev t'
        rw [unhide HnR] at C11
        have C11 := hide C11
        have ne0 := neI (nR : Int)
        have kv0 : w13.cell? ⟨vb, 0, none⟩ = some (.pointer (some ⟨d', 0, none⟩)) := (unhide HKv13).cell 0
        have kv1 : w13.cell? ⟨vb, 1, none⟩ = some (.pointer (some ⟨t', 0, none⟩)) := (unhide HKv13).cell 1
        have kvl := (unhide HKv13).lt
        go_wp2_with fail
        refine (unhide C11).mono ?_
        rintro e w14 ⟨rfl, o14⟩
        have s14 := o14.size
        have HB14 := hide ((unhide HB13).quiet o14)
        have HM14 := hide ((unhide HM13).quiet o14)
        have HN14 := hide ((unhide HN13).quiet o14)
        have HKo14 := hide ((unhide HKo13).keep o14 (fun h => h))
        have HKb14 := hide ((unhide HKb13).keep o14 (fun h => h))
        have HO14 := hide ((unhide HO13).trans (o14.mono (T := fun y => y = vb) (fun _ _ h => h.elim)) (fun _ _ e => e))
        have HKv14 := hide (unhide HN14).kv
        clear C11 o14 kv0 kv1 kvl HN13 HKo13 HKb13 HO13 HB13 HM13 HKv13
        have C12 := hide (glfree_any (unhide HN14).gr.ts d')
        have ne1 := neI ((frJ J' : Nat) : Int)
        have kv0 : w14.cell? ⟨vb, 0, none⟩ = some (.pointer (some ⟨d', 0, none⟩)) := (unhide HKv14).cell 0
        have kv1 : w14.cell? ⟨vb, 1, none⟩ = some (.pointer (some ⟨t', 0, none⟩)) := (unhide HKv14).cell 1
        have kvl := (unhide HKv14).lt
        go_wp2_with fail
        refine (unhide C12).mono ?_
        rintro e w15 ⟨rfl, o15⟩
        as_aux_lemma =>
        have s15 := o15.size
        have HB15 := hide ((unhide HB14).quiet o15)
        have HM15 := hide ((unhide HM14).quiet o15)
        have HN15 := hide ((unhide HN14).quiet o15)
        have HKo15 := hide ((unhide HKo14).keep o15 (fun h => h))
        have HKb15 := hide ((unhide HKb14).keep o15 (fun h => h))
        have HO15 := hide ((unhide HO14).trans (o15.mono (T := fun y => y = vb) (fun _ _ h => h.elim)) (fun _ _ e => e))
        clear C12 o15 kv0 kv1 kvl HN14 HKo14 HKb14 HO14 HB14 HM14 HKv14
        have x1 : w15.cell? ⟨kb, 1, none⟩ = some (.int .i64 oa) := (unhide HKo15).cell 1
        have xl := (unhide HKo15).lt
        go_upto_region 92 with fail
        clear ne0 ne1
        go_cut [293] from 288 to 293 (fun v wx => v = .bool false ∧ w15 = wx)
        case first =>
          rcases unhide Ht1 with h | h
          · subst h
            go_wp2_with fail
            go_meet
            exact ⟨rfl, rfl⟩
          · subst h
            cases nB
            · go_wp2_with fail
              go_meet
              exact ⟨rfl, rfl⟩
            · go_wp2_with fail
              go_meet
              exact ⟨rfl, rfl⟩
        case rest =>
        obtain ⟨rfl, rfl⟩ := hcut
        go_upto_region 94 with fail
        go_cut [302] from 296 to 302 (fun v wx => v = .bool false ∧ w15 = wx)
        case first =>
          by_cases h0 : oa ≤ 0
          · have h0b := unhide Ht2 h0
            subst h0b
            have h0c : decide (oa ≤ 0) = true := by simpa using h0
            go_wp2_with fail
            go_meet
            exact ⟨rfl, rfl⟩
          · have h0b : decide (oa ≤ 0) = false := by simpa using h0
            go_wp2_with fail
            go_meet
            exact ⟨rfl, rfl⟩
        case rest =>
        obtain ⟨rfl, rfl⟩ := hcut
        go_upto_region 96 with fail
        go_cut [312] from 305 to 312 (fun v wx => v = .bool false ∧ w15 = wx)
        case first =>
          by_cases h0 : (q.recs.length : Int) ≤ oa
          · have h0b := unhide Ht3 h0
            subst h0b
            have h0c : decide ((q.recs.length : Int) ≤ oa) = true := by simpa using h0
            go_wp2_with fail
            go_meet
            exact ⟨rfl, rfl⟩
          · have h0b : decide ((q.recs.length : Int) ≤ oa) = false := by simpa using h0
            go_wp2_with fail
            go_meet
            exact ⟨rfl, rfl⟩
        case rest =>
        obtain ⟨rfl, rfl⟩ := hcut
        as_aux_lemma =>
        have hcl : cb < w15.heap.size ∧ cm < w15.heap.size := ⟨(unhide HB15).lt, (unhide HM15).lt⟩
        clear x1 xl
        go_upto_region 98 with fail
        go_upto_if 315 with fail
        go_cut [10] from 316 to 317 (fun v wx => ∃ (m2 : Nat) (H2 : Nat → Prop), v = .pointer (some ⟨m2, 0, none⟩) ∧ MG w15 m2 true SX rX SX rX true H2 ∧ (∀ y, H2 y → w9.heap.size ≤ y) ∧ w15 = wx)
        case first =>
          cases aB with
          | true =>
            refine wp_cond_true rfl ?_
            have e1 : q.S = SX := unhide Ht4
            have e2 : q.sr = rX := unhide HrX
            have hM := unhide HM15
            rw [e1, e2] at hM
            have HM := hide hM
            clear e1 e2 hM
            go_wp2_with fail
            go_meet
            exact ⟨cm, _, rfl, unhide HM, fun y hy => by have := hy.1; omega, rfl⟩
          | false =>
            refine wp_cond_false rfl ?_
            have e1 : q.S0 = SX := unhide Ht4
            have e2 : q.sr0 = rX := unhide HrX
            have hM := unhide HB15
            rw [e1, e2] at hM
            have HM := hide hM
            clear e1 e2 hM
            go_wp2_with fail
            go_meet
            exact ⟨cb, _, rfl, unhide HM, fun y hy => hy.1, rfl⟩
        case rest =>
        obtain ⟨m2, H2, rfl, hm2, hH2, rfl⟩ := hcut
        have hax : ASm SX := by
          rw [← unhide Ht4]
          cases aB with
          | true => exact (unhide HV).gr.asmS
          | false => exact (unhide HV).a0.2.1
        have C13 := hide (hclone_any hm2 hax hax)
        have HM := hide hm2
        have HH2 := hide hH2
        clear hm2 hH2 hcl hax HB15 HM15
        go_wp2_with fail
        refine (unhide C13).mono ?_
        rintro e w16 ⟨mb2, rfl, h16⟩
        as_aux_lemma =>
        have s16 := h16.ho.size
        have HMx := hide ((unhide HM).quiet h16.ho)
        have HBx := hide h16.mg
        have HN16 := hide ((unhide HN15).quiet h16.ho)
        have HKo16 := hide ((unhide HKo15).keep h16.ho (fun h => h))
        have HKb16 := hide ((unhide HKb15).keep h16.ho (fun h => h))
        have HO16 := hide ((unhide HO15).trans (h16.ho.mono (T := fun y => y = vb) (fun _ _ h => h.elim)) (fun _ _ e => e))
        have HH2l := hide (unhide HM).inn
        clear C13 h16 HM HN15 HKo15 HKb15 HO15
        obtain ⟨ex2, hex2⟩ : ∃ b : Bool, (ex && aB) = b := ⟨_, rfl⟩
        go_upto_region 102 with fail
        go_cut [13] from 320 to 323 (fun v wx => v = .bool ex2 ∧ w16 = wx)
        case first =>
          cases ex with
          | true =>
            have e1 : aB = ex2 := by rw [← hex2]; rfl
            subst e1
            clear hex2
            go_wp2_with fail
            go_meet
            exact ⟨rfl, rfl⟩
          | false =>
            have e1 : ex2 = false := by rw [← hex2]; rfl
            subst e1
            clear hex2
            go_wp2_with fail
            go_meet
            exact ⟨rfl, rfl⟩
        case rest =>
        obtain ⟨rfl, rfl⟩ := hcut
        obtain ⟨q2, hq2, _, _⟩ := (unhide HV).recov (unhide HC) (unhide HN16) (unhide HO16) (by omega) (unhide HrX) (unhide Ht4) (unhide Ht5) (unhide HMx) (unhide HBx) (fun y hy => ⟨by have := unhide HH2 y hy; omega, fun e => by have := unhide HH2 y hy; have := unhide HKl y e; omega⟩) (fun y hy => ⟨by have := hy.1; omega, fun e => by have := hy.1; have := unhide HKl y e; omega, fun e => by have := hy.1; have := unhide HH2l y e; omega⟩)
        rw [hex2] at hq2
        have HVn := hide hq2
        clear hq2 hex2
        go_wp2_with fail
        go_roundw
        case rel =>
          exact ⟨q2, g', m2, mb2, rv, ex2, k + 1, rfl, rfl, rfl, rfl, rfl, by go_num, by omega, unhide HVn⟩
        case measure =>
          simp [intOf]; omega
      · have hcb : (ok != 13) = true := by simpa using hten
        have HV0 := hide hvi
        have HV1 := hide (hvi.quiet oo)
        have HK1 := hide ko
        have s0 : wr.heap.size < (wr.alloc (.cells #[.int .i64 ok, .int .i64 oa, .int .i64 ob, .int .i64 oc, .string os, .string ot] 42)).heap.size := ko.lt
        have Hkl := hide (fun y hy => hvi.lt y hy)
        have kv0 : (wr.alloc (.cells #[.int .i64 ok, .int .i64 oa, .int .i64 ob, .int .i64 oc, .string os, .string ot] 42)).cell? ⟨vb, 0, none⟩ = some (.pointer (some ⟨q.d, 0, none⟩)) := (unhide HV1).kv.cell 0
        have kv1 : (wr.alloc (.cells #[.int .i64 ok, .int .i64 oa, .int .i64 ob, .int .i64 oc, .string os, .string ot] 42)).cell? ⟨vb, 1, none⟩ = some (.pointer (some ⟨q.t, 0, none⟩)) := (unhide HV1).kv.cell 1
        have kvl := (unhide HV1).kv.lt
        have C1 := hide (glmark_any (unhide HV1).gr.ts.dev q.t)
        clear hvi oo ko hten
        go_upto_region 25 with fail
        generalize wr.alloc (.cells #[.int .i64 ok, .int .i64 oa, .int .i64 ob, .int .i64 oc, .string os, .string ot] 42) = W1 at *
        generalize hko : wr.heap.size = kb at *
        have x0 : W1.cell? ⟨kb, 0, none⟩ = some (.int .i64 ok) := (unhide HK1).cell 0
        have xl := (unhide HK1).lt
        clear y0 y1 y2 y3 y4 y5
        go_wp2_with fail
        refine (unhide C1).mono ?_
        rintro e wm ⟨rfl, hdm, hom⟩
        as_aux_lemma =>
        have hkF : ∀ y, q.K g y ∨ q.H y ∨ q.G y ∨ rv.ownBlock = some y → y ≠ kb := fun y hy => by have := unhide Hkl y hy; omega
        have HkF := hide hkF
        obtain ⟨hz, hmW⟩ := (unhide HV1).mg
        have hHm := hmW.hm
        have mgm := hmW.keep hom (fun y hy e => (unhide HV1).fH y hy (.inl e))
        have HKm := hide ((unhide HK1).keep hom (fun e => hkF kb (.inl (.inl e)) rfl))
        have C2 := hide (hmark_any mgm (unhide HV1).gr.asmS)
        have Hdm := hide hdm
        have Hom := hide hom
        have sm := hom.size
        clear C1 hdm hom mgm hmW kv0 kv1 kvl x0 xl HK1
        go_wp2_with fail
        refine (unhide C2).mono ?_
        rintro e w2 ⟨rfl, hm2, ho2⟩
        have HK2 := hide ((unhide HKm).keep ho2 (fun e => hkF m (.inr (.inl hHm)) e.symm))
        have C3 := hide (hclone_any hm2 (unhide HV1).gr.asm (unhide HV1).gr.asmS)
        have Hm2 := hide hm2
        have Ho2 := hide ho2
        have s2 := ho2.size
        clear C2 hm2 ho2 HKm hkF
        go_wp2_with fail
        refine (unhide C3).mono ?_
        rintro e w3 ⟨mb', rfl, h3⟩
        as_aux_lemma =>
        have HR3 := hide ((unhide HV1).ready (by omega) (unhide Hdm) (unhide Hom) (unhide Hm2) (unhide Ho2) h3)
        have HK3 := hide ((unhide HK2).keep h3.ho (fun h => h))
        have s3 := h3.ho.size
        clear C3 h3 Hdm Hom Hm2 Ho2 HK2
        have kv0 : w3.cell? ⟨vb, 0, none⟩ = some (.pointer (some ⟨q.d, 0, none⟩)) := (unhide HR3).kv.cell 0
        have kv1 : w3.cell? ⟨vb, 1, none⟩ = some (.pointer (some ⟨q.t, 0, none⟩)) := (unhide HR3).kv.cell 1
        have kvl := (unhide HR3).kv.lt
        have C4 := hide (glfree_any (unhide HR3).gj.gr.ts q.d)
        go_wp2_with fail
        refine (unhide C4).mono ?_
        rintro e w4 ⟨rfl, o4⟩
        have HR4 := hide ((unhide HR3).quiet o4)
        have HK4 := hide ((unhide HK3).keep o4 (fun h => h))
        have s4 := o4.size
        clear C4 o4 HR3 HK3 kv0 kv1 kvl
        have C5 := hide (hroom_any (unhide HR4).gj.mg)
        go_wp2_with fail
        refine (unhide C5).mono ?_
        rintro e w5 ⟨rfl, rfl⟩
        clear C5
        have kv0 : w4.cell? ⟨vb, 0, none⟩ = some (.pointer (some ⟨q.d, 0, none⟩)) := (unhide HR4).kv.cell 0
        have kv1 : w4.cell? ⟨vb, 1, none⟩ = some (.pointer (some ⟨q.t, 0, none⟩)) := (unhide HR4).kv.cell 1
        have kvl := (unhide HR4).kv.lt
        have x0 : w4.cell? ⟨kb, 0, none⟩ = some (.int .i64 ok) := (unhide HK4).cell 0
        have x1 : w4.cell? ⟨kb, 1, none⟩ = some (.int .i64 oa) := (unhide HK4).cell 1
        have x2 : w4.cell? ⟨kb, 2, none⟩ = some (.int .i64 ob) := (unhide HK4).cell 2
        have x3 : w4.cell? ⟨kb, 3, none⟩ = some (.int .i64 oc) := (unhide HK4).cell 3
        have x4 : w4.cell? ⟨kb, 4, none⟩ = some (.string os) := (unhide HK4).cell 4
        have x5 : w4.cell? ⟨kb, 5, none⟩ = some (.string ot) := (unhide HK4).cell 5
        have xl := (unhide HK4).lt
        have C6 := hide (glplay_any (unhide HR4).gj (unhide HR4).rg ok oa ob oc os ot)
        go_wp2_with fail
        refine (unhide C6).mono ?_
        rintro e w5 ⟨full, rfl, hX⟩
        as_aux_lemma =>
        obtain ⟨J', rt', R, F', T', S', A', r', S2, sr', H', hp⟩ := hX
        have HP := hide hp
        have HK5 := hide ((unhide HK4).keep hp.only (fun e => (unhide HkF kb (by rcases e with e | e | e | e | e; exact .inl (GS.K4 (.inl e)); exact .inl (GS.K4 (.inr (.inl e))); exact .inl (GS.K4 (.inr (.inr (.inl e)))); exact .inl (GS.K4 (.inr (.inr (.inr e)))); exact .inr (.inl e))) rfl))
        have HB5 : Hid (Has w5 vb (belC q.d q.t) 30) := hide ((unhide HR4).kv.keep hp.only (fun e => ((unhide HV1).fK vb (by rcases e with e | e | e | e | e; exact .inl (GS.K4 (.inl e)); exact .inl (GS.K4 (.inr (.inl e))); exact .inl (GS.K4 (.inr (.inr (.inl e)))); exact .inl (GS.K4 (.inr (.inr (.inr e)))); exact .inr (.inl e))).2 rfl))
        have HRv5 := hide ((unhide HR4).rg.own.keep hp.only (fun y hy e => (unhide HR4).rg.off y hy e))
        have s5 := hp.only.size
        have C7 := hide (glsteps_any hp.gr.ts.dev q.t)
        clear C6 hp kv0 kv1 kvl x0 x1 x2 x3 x4 x5 xl HK4
        have kv0 : w5.cell? ⟨vb, 0, none⟩ = some (.pointer (some ⟨q.d, 0, none⟩)) := (unhide HB5).cell 0
        have kv1 : w5.cell? ⟨vb, 1, none⟩ = some (.pointer (some ⟨q.t, 0, none⟩)) := (unhide HB5).cell 1
        have kvl := (unhide HB5).lt
        go_wp2_with fail
        refine (unhide C7).mono ?_
        rintro e w6 ⟨rfl, o6⟩
        as_aux_lemma =>
        have HO6 := hide o6
        have HK6 := hide ((unhide HK5).keep o6 (fun h => h))
        have HB6 := hide ((unhide HB5).keep o6 (fun h => h))
        have HRv6 := hide ((unhide HRv5).keep o6 (fun _ _ h => h))
        have s6 := o6.size
        clear C7 o6 kv0 kv1 kvl HK5 HB5 HRv5
        have x0 : w6.cell? ⟨kb, 0, none⟩ = some (.int .i64 ok) := (unhide HK6).cell 0
        have xl := (unhide HK6).lt
        obtain ⟨tb, htb⟩ : ∃ b : Bool, (!full && (ok == 8 || ok == 12)) = b := ⟨_, rfl⟩
        go_upto_region 35 with fail
        go_cut [125] from 114 to 125 (fun v wx => v = .bool tb ∧ w6 = wx)
        case first =>
          cases full with
          | true =>
            have e1 : tb = false := by rw [← htb]; rfl
            subst e1
            clear htb
            go_wp2_with fail
            go_meet
            exact ⟨rfl, rfl⟩
          | false =>
            by_cases h8 : ok = 8
            · have e1 : tb = true := by rw [← htb, h8]; rfl
              subst e1
              have e8 : (ok == 8) = true := by simp [h8]
              clear htb h8
              go_wp2_with fail
              go_meet
              exact ⟨rfl, rfl⟩
            · have e8 : (ok == 8) = false := ne_intO h8
              by_cases h12 : ok = 12
              · have e1 : tb = true := by rw [← htb, h12]; rfl
                subst e1
                have e12 : (ok == 12) = true := by simp [h12]
                clear htb h8 h12
                go_wp2_with fail
                go_meet
                exact ⟨rfl, rfl⟩
              · have e12 : (ok == 12) = false := ne_intO h12
                have e1 : tb = false := by rw [← htb, e8, e12]; rfl
                subst e1
                clear htb h8 h12
                go_wp2_with fail
                go_meet
                exact ⟨rfl, rfl⟩
        case rest =>
        obtain ⟨rfl, rfl⟩ := hcut
        as_aux_lemma =>
        have Htb := hide htb
        clear htb
        go_upto_if 125 with fail
        go_cut [] from 126 to 135 (fun wx => w6 = wx)
        case first =>
          cases tb with
          | true =>
            have hR1 : 1 ≤ R.length := by
              have ht := unhide Htb
              cases full with
              | true => cases ht
              | false =>
                refine ((unhide HP).ok rfl).2.2.2.2.2.2.1 ?_
                simp at ht
                exact ht
            have C8 := hide (glone_any R.length w6 hR1)
            clear hR1
            go_wp2_with fail
            refine (unhide C8).mono ?_
            rintro e w7 ⟨rfl, rfl⟩
            clear C8
            go_wp2_with fail
            go_meet
            rfl
          | false =>
            have C8 := hide (glno_any R.length w6)
            go_wp2_with fail
            refine (unhide C8).mono ?_
            rintro e w7 ⟨rfl, rfl⟩
            clear C8
            go_wp2_with fail
            go_meet
            rfl
        case rest =>
        obtain rfl := hcut
        as_aux_lemma =>
        clear Htb x0 xl
        have x0 : w6.cell? ⟨kb, 0, none⟩ = some (.int .i64 ok) := (unhide HK6).cell 0
        have x1 : w6.cell? ⟨kb, 1, none⟩ = some (.int .i64 oa) := (unhide HK6).cell 1
        have x2 : w6.cell? ⟨kb, 2, none⟩ = some (.int .i64 ob) := (unhide HK6).cell 2
        have x3 : w6.cell? ⟨kb, 3, none⟩ = some (.int .i64 oc) := (unhide HK6).cell 3
        have x4 : w6.cell? ⟨kb, 4, none⟩ = some (.string os) := (unhide HK6).cell 4
        have x5 : w6.cell? ⟨kb, 5, none⟩ = some (.string ot) := (unhide HK6).cell 5
        have xl := (unhide HK6).lt
        have C9 := hide (glreg_any (unhide HRv6) (unhide HV1).rl ok oa ob oc os ot)
        go_wp2_with fail
        refine (unhide C9).mono ?_
        rintro e w7 ⟨rv2, l2, rfl, hr2, hl2, hrb2, o7⟩
        have s7 := o7.size
        have hrne : ∀ y, rv.ownBlock = some y → y ≠ kb ∧ y ≠ vb := fun y hy => ⟨unhide HkF y (.inr (.inr (.inr hy))), ((unhide HV1).fK y (.inr (.inr (.inr hy)))).2⟩
        have HK7 := hide ((unhide HK6).keep o7 (fun e => (hrne kb e).1 rfl))
        have HB7 := hide ((unhide HB6).keep o7 (fun e => (hrne vb e).2 rfl))
        obtain ⟨hzp, hmp⟩ := (unhide HP).mg
        have hrvH : ∀ y, rv.ownBlock = some y → ¬ H' y := fun y hy e => by
          rcases (unhide HP).fp y (.inr e) with e | e | e
          · exact (unhide HR4).rg.off y hy (.inr (.inr (.inr (.inl e))))
          · exact (unhide HR4).rg.off y hy (.inr (.inr (.inr (.inr e))))
          · have := ownsRow_lt (unhide HR4).rg.own y hy
            omega
        have mg7 := (hmp.quiet (unhide HO6)).keep o7 (fun y hy e => hrvH y e hy)
        have C10 := hide (hroom_any mg7)
        have HM7 := hide mg7
        have HrvH := hide hrvH
        have Hr2 := hide hr2
        have Hl2 := hide hl2
        have Hrb2 : Hid (∀ y, rv2.ownBlock = some y → rv.ownBlock = some y ∨ w5.heap.size ≤ y) := hide (fun y hy => (hrb2 y hy).imp id (fun e => by omega))
        have HO57 : Hid (Only (fun y => rv.ownBlock = some y ∨ w5.heap.size ≤ y) w5 w7) := hide (((unhide HO6).mono (fun _ _ h => h.elim)).trans o7 (fun y _ e => .inl e))
        obtain ⟨ra2, rc2, hrv2⟩ := ownsRow_shape hr2
        clear C9 o7 hmp mg7 hrne hrvH hr2 hl2 hrb2 x0 x1 x2 x3 x4 x5 xl HK6 HB6 HRv6 HO6
        subst hrv2
        go_wp2_with fail
        refine (unhide C10).mono ?_
        rintro e w8 ⟨rfl, rfl⟩
        clear C10
        have x0 : w7.cell? ⟨kb, 0, none⟩ = some (.int .i64 ok) := (unhide HK7).cell 0
        have xl := (unhide HK7).lt
        have rb := (unhide HR4).gj.rb
        have rb' := (unhide HP).rb
        obtain ⟨pd, hpd⟩ : ∃ x : Int, (if ok = 12 then 1 else q.r - r') = x := ⟨_, rfl⟩
        obtain ⟨tb, htb⟩ : ∃ b : Bool, (ok == 12) = b := ⟨_, rfl⟩
        go_upto_if 146 with fail
        go_cut [24] from 147 to 147 (fun v wx => v = .int .i64 pd ∧ w7 = wx)
        case first =>
          have Hpd := hide hpd
          have Htb := hide htb
          clear hpd htb rb rb'
          cases tb with
          | true =>
            have e1 : pd = 1 := by have := unhide Hpd; rw [if_pos (by simpa using unhide Htb)] at this; exact this.symm
            subst e1
            go_wp2_with fail
            go_meet
            exact ⟨rfl, rfl⟩
          | false =>
            have e1 : pd = q.r - r' := by have := unhide Hpd; rw [if_neg (by simpa using unhide Htb)] at this; exact this.symm
            subst e1
            go_wp2_with fail
            go_meet
            exact ⟨rfl, rfl⟩
        case rest =>
        obtain ⟨rfl, rfl⟩ := hcut
        as_aux_lemma =>
        have Hpd := hide hpd
        clear hpd htb x0 xl
        have kv0 : w7.cell? ⟨vb, 0, none⟩ = some (.pointer (some ⟨q.d, 0, none⟩)) := (unhide HB7).cell 0
        have kv1 : w7.cell? ⟨vb, 1, none⟩ = some (.pointer (some ⟨q.t, 0, none⟩)) := (unhide HB7).cell 1
        have kvl := (unhide HB7).lt
        have gr7 : TS w7 q.t q.s q.d (replayB (replayB q.B q.recs) R) (replayB q.B q.recs) R J' rt' F' := (unhide HP).gr.ts.keep (unhide HO57) (GV_off (unhide HR4) (unhide HP) (.inl rfl)) (GV_off (unhide HR4) (unhide HP) (.inr (.inl rfl))) (fun y hy => GV_off (unhide HR4) (unhide HP) (.inr (.inr hy)))
        have C11 := hide (glfree_any gr7 q.d)
        clear gr7
        go_wp2_with fail
        refine (unhide C11).mono ?_
        rintro e w8 ⟨rfl, o8⟩
        have s8 := o8.size
        have HO58 : Hid (Only (fun y => (Value.slice ra2 l2.length rc2).ownBlock = some y ∨ rv.ownBlock = some y ∨ w5.heap.size ≤ y) w5 w8) := hide (((unhide HO57).mono (fun y _ e => .inr e)).trans (o8.mono (fun _ _ h => h.elim)) (fun y _ e => e))
        have HO58 : Hid (Only (fun y => rv.ownBlock = some y ∨ w5.heap.size ≤ y) w5 w8) := hide ((unhide HO57).trans (o8.mono (fun _ _ h => h.elim)) (fun y _ e => e))
        have HK8 := hide ((unhide HK7).keep o8 (fun h => h))
        have HM8 := hide ((unhide HM7).quiet o8)
        have Hr8 := hide ((unhide Hr2).keep o8 (fun _ _ h => h))
        clear C11 o8 kv0 kv1 kvl HB7 HK7 HM7 Hr2 HO57
        have x0 : w8.cell? ⟨kb, 0, none⟩ = some (.int .i64 ok) := (unhide HK8).cell 0
        have xl := (unhide HK8).lt
        obtain ⟨ex2, hex2⟩ : ∃ b : Bool, (if chgK ok = true then (ok == 12 && !full) else ex) = b := ⟨_, rfl⟩
        have fJ := frJ_le q.J
        have fJ' := frJ_le J'
        go_upto_if 149 with fail
        go_cut [10, 24] from 150 to 194 (fun mv pv wx => ∃ (m2 : Nat) (q2 : GS), mv = .pointer (some ⟨m2, 0, none⟩) ∧ GV q2 w vb g m2 mb' ex2 (.slice ra2 l2.length rc2) (k + 1) wx ∧ q2.recs = R ∧ frJ q2.J = frJ J' ∧ Has wx kb #[.int .i64 ok, .int .i64 oa, .int .i64 ob, .int .i64 oc, .string os, .string ot] 42)
        case first =>
          as_aux_lemma =>
          cases full with
          | true =>
            obtain ⟨n1, n2, n3, n4, n5, n6, n7, n8⟩ := (unhide HP).no rfl
            have hge : decide ((frJ q.J : Int) ≥ pd) = false := decide_eq_false (by
              rw [← unhide Hpd]
              by_cases h12 : ok = 12
              · rw [if_pos h12]; have := n4 h12; omega
              · rw [if_neg h12]; have := n5 h12; omega)
            have hge' : decide (pd ≤ (frJ q.J : Int)) = false := hge
            obtain ⟨pd2, hpd2⟩ : ∃ x : Int, (if ok = 8 ∨ ok = 12 then 0 else q.r - r') = x := ⟨_, rfl⟩
            have hpn : ¬ (ok = 8 ∨ ok = 12) → pd = pd2 := fun e => by
              rw [← unhide Hpd, ← hpd2, if_neg e, if_neg (fun h => e (.inr h))]
            have hgt : (frJ q.J : Int) - (frJ J' : Int) ≤ pd2 := by
              rw [← hpd2]
              by_cases e : ok = 8 ∨ ok = 12
              · rw [if_pos e]; have := n6 e; omega
              · rw [if_neg e]; exact n7 (fun h => e (.inl h)) (fun h => e (.inr h))
            have hgt2 : decide ((frJ q.J : Int) - (frJ J' : Int) > pd2) = false := decide_eq_false (by omega)
            have hgt3 : decide (pd2 < (frJ q.J : Int) - (frJ J' : Int)) = false := hgt2
            have hb2 : -4000000000000000000 < q.r - pd2 ∧ q.r - pd2 < 4611686018427387904 := by
              rw [← hpd2]
              by_cases e : ok = 8 ∨ ok = 12
              · rw [if_pos e]; omega
              · rw [if_neg e]; omega
            have hx2 : ex2 = false := by rw [← hex2, if_pos n8]; simp
            have mb8 := GV_mb (unhide HV0) (by omega : wr.heap.size ≤ w2.heap.size) (unhide HR4) (unhide HP) (unhide HO58)
            have C12 := hide (hclone_any mb8 (unhide HR4).gj.gr.asm (unhide HR4).gj.gr.asmS)
            have Hn := hide hgt
            have Hpd2 := hide hpd2
            have Hpn := hide hpn
            clear mb8 n1 n2 n3 n4 n5 n6 n7 n8 hgt hpd2 hpn hgt2 hgt3
            by_cases h8 : ok = 8
            · have e8 : (ok == 8) = true := by simp [h8]
              have e0 : pd2 = 0 := by rw [← unhide Hpd2, if_pos (.inl h8)]
              subst e0
              clear h8
              go_upto_if 162 with fail
              refine wp_cond_true (by first | rfl | (rw [← e8]; rfl)) ?_
              have hgt2 : decide ((frJ q.J : Int) - (frJ J' : Int) > 0) = false := decide_eq_false (by have := unhide Hn; omega)
              have hgt3 : decide (0 < (frJ q.J : Int) - (frJ J' : Int)) = false := hgt2
              have hgt4 : decide ((frJ J' : Int) < (frJ q.J : Int)) = false := decide_eq_false (by have := unhide Hn; omega)
              have hgt5 : decide (frJ J' < frJ q.J) = false := decide_eq_false (by have := unhide Hn; omega)
              go_wp2_with fail
              refine (unhide C12).mono ?_
              rintro e w9 ⟨m2, rfl, h9⟩
              have C13 := hide (hPay_any h9.mg 0 (by omega) (by omega))
              have HO9 := hide h9.ho
              clear C12 h9 hgt2 hgt3
              go_wp2_with fail
              refine (unhide C13).mono ?_
              rintro e w10 ⟨rfl, h10, o10⟩
              have HVx := hide ((unhide HV0).paid (by omega : wr.heap.size ≤ w2.heap.size) (by omega) (unhide HR4) (unhide HP) (unhide HO58) (unhide Hr8) (unhide Hl2) (unhide Hrb2) (unhide HO9) (unhide Hpd2) h10 o10)
              have hm2 : w8.heap.size ≤ m2 ∧ m2 < w9.heap.size := h10.hm
              have HKx := hide (((unhide HK8).keep (unhide HO9) (fun h => h)).keep o10 (fun e => by have e' : kb = m2 := e; have := (unhide HK8).lt; omega))
              clear C13 h10 o10
              go_wp2_with fail
              go_meet
              rw [hx2]
              exact ⟨m2, _, rfl, unhide HVx, rfl, rfl, unhide HKx⟩
            · have e8 : (ok == 8) = false := ne_intO h8
              by_cases h12 : ok = 12
              · have e12 : (ok == 12) = true := by simp [h12]
                have e0 : pd2 = 0 := by rw [← unhide Hpd2, if_pos (.inr h12)]
                subst e0
                clear h8 h12
                go_upto_if 162 with fail
                refine wp_cond_true (by first | rfl | (rw [← e12]; rfl)) ?_
                have hgt2 : decide ((frJ q.J : Int) - (frJ J' : Int) > 0) = false := decide_eq_false (by have := unhide Hn; omega)
                have hgt3 : decide (0 < (frJ q.J : Int) - (frJ J' : Int)) = false := hgt2
                have hgt4 : decide ((frJ J' : Int) < (frJ q.J : Int)) = false := decide_eq_false (by have := unhide Hn; omega)
                have hgt5 : decide (frJ J' < frJ q.J) = false := decide_eq_false (by have := unhide Hn; omega)
                go_wp2_with fail
                refine (unhide C12).mono ?_
                rintro e w9 ⟨m2, rfl, h9⟩
                have C13 := hide (hPay_any h9.mg 0 (by omega) (by omega))
                have HO9 := hide h9.ho
                clear C12 h9 hgt2 hgt3
                go_wp2_with fail
                refine (unhide C13).mono ?_
                rintro e w10 ⟨rfl, h10, o10⟩
                have HVx := hide ((unhide HV0).paid (by omega : wr.heap.size ≤ w2.heap.size) (by omega) (unhide HR4) (unhide HP) (unhide HO58) (unhide Hr8) (unhide Hl2) (unhide Hrb2) (unhide HO9) (unhide Hpd2) h10 o10)
                have hm2 : w8.heap.size ≤ m2 ∧ m2 < w9.heap.size := h10.hm
                have HKx := hide (((unhide HK8).keep (unhide HO9) (fun h => h)).keep o10 (fun e => by have e' : kb = m2 := e; have := (unhide HK8).lt; omega))
                clear C13 h10 o10
                go_wp2_with fail
                go_meet
                rw [hx2]
                exact ⟨m2, _, rfl, unhide HVx, rfl, rfl, unhide HKx⟩
              · have e12 : (ok == 12) = false := ne_intO h12
                have e0 := unhide Hpn (fun h => h.elim h8 h12)
                subst e0
                clear h8 h12
                go_upto_if 162 with fail
                refine wp_cond_false (by first | rfl | (rw [← e12]; rfl)) ?_
                have hgt2 : decide ((frJ q.J : Int) - (frJ J' : Int) > pd) = false := decide_eq_false (by have := unhide Hn; omega)
                have hgt3 : decide (pd < (frJ q.J : Int) - (frJ J' : Int)) = false := hgt2
                go_wp2_with fail
                refine (unhide C12).mono ?_
                rintro e w9 ⟨m2, rfl, h9⟩
                have C13 := hide (hPay_any h9.mg pd (by omega) (by omega))
                have HO9 := hide h9.ho
                clear C12 h9 hgt2 hgt3
                go_wp2_with fail
                refine (unhide C13).mono ?_
                rintro e w10 ⟨rfl, h10, o10⟩
                have HVx := hide ((unhide HV0).paid (by omega : wr.heap.size ≤ w2.heap.size) (by omega) (unhide HR4) (unhide HP) (unhide HO58) (unhide Hr8) (unhide Hl2) (unhide Hrb2) (unhide HO9) (unhide Hpd2) h10 o10)
                have hm2 : w8.heap.size ≤ m2 ∧ m2 < w9.heap.size := h10.hm
                have HKx := hide (((unhide HK8).keep (unhide HO9) (fun h => h)).keep o10 (fun e => by have e' : kb = m2 := e; have := (unhide HK8).lt; omega))
                clear C13 h10 o10
                go_wp2_with fail
                go_meet
                rw [hx2]
                exact ⟨m2, _, rfl, unhide HVx, rfl, rfl, unhide HKx⟩
          | false =>
            obtain ⟨n1, n2, n3, n4, n5, n6, n7, n8⟩ := (unhide HP).ok rfl
            have HVx := hide ((unhide HV0).went (by omega : wr.heap.size ≤ w2.heap.size) (by omega) (unhide HR4) (unhide HP) (unhide HO58) (unhide Hr8) (unhide Hl2) (unhide Hrb2) (unhide HrvH) (unhide HM8) hex2)
            clear n1 n2 n3 n4 n7 n8 hex2
            by_cases h9 : ok = 9
            · have e9 : (ok == 9) = true := by simp [h9]
              have h5 := n5 h9
              have hlt : decide ((frJ J' : Int) < (frJ q.J : Int)) = false := decide_eq_false (by omega)
              have hlt2 : decide (frJ J' < frJ q.J) = false := decide_eq_false (by omega)
              clear h9 n5 n6 h5
              go_upto_if 177 with fail
              refine wp_cond_true (by first | rfl | (rw [← e9]; rfl)) ?_
              go_wp2_with fail
              go_meet
              exact ⟨m, _, rfl, unhide HVx, rfl, rfl, unhide HK8⟩
            · have e9 : (ok == 9) = false := ne_intO h9
              by_cases h12 : ok = 12
              · have e12 : (ok != 12) = false := by simp [h12]
                clear h9 h12 n5 n6
                go_upto_if 177 with fail
                refine wp_cond_false (by first | rfl | (rw [← e9]; rfl)) ?_
                go_upto_if 192 with fail
                refine wp_cond_false (by first | rfl | (rw [← e12]; rfl)) ?_
                go_wp2_with fail
                go_meet
                exact ⟨m, _, rfl, unhide HVx, rfl, rfl, unhide HK8⟩
              · have e12 : (ok != 12) = true := by simpa using h12
                have h6 := n6 h9 h12
                have hgt2 : decide ((frJ q.J : Int) - (frJ J' : Int) > pd) = false := decide_eq_false (by rw [← unhide Hpd, if_neg h12]; omega)
                have hgt3 : decide (pd < (frJ q.J : Int) - (frJ J' : Int)) = false := hgt2
                clear h9 h12 n5 n6 h6
                go_upto_if 177 with fail
                refine wp_cond_false (by first | rfl | (rw [← e9]; rfl)) ?_
                go_upto_if 192 with fail
                refine wp_cond_false (by first | rfl | (rw [← hgt2]; rfl) | (rw [← hgt3]; rfl)) ?_
                go_wp2_with fail
                go_meet
                exact ⟨m, _, rfl, unhide HVx, rfl, rfl, unhide HK8⟩
        case rest =>
        as_aux_lemma =>
        obtain ⟨m2, q2, rfl, hv2, hR2, hf2, hk2⟩ := hcut
        have HW := hide hv2
        have HKw := hide hk2
        have x0 : wc.cell? ⟨kb, 0, none⟩ = some (.int .i64 ok) := hk2.cell 0
        have xl := hk2.lt
        clear hv2 hk2 HK8 HM8 Hr8 HO58 HP HR4 HV1 HV0 Hrb2 HrvH Hl2 HkF Hkl Hpd fJ fJ' rb rb' s0 sm s2 s3 s4 s5 s6 s7 s8 hHm
        obtain ⟨cb, hcb2⟩ : ∃ b : Bool, chgK ok = b := ⟨_, rfl⟩
        have C12 := gllooks_any ok wc
        rw [hcb2] at C12 hex2
        have C12 := hide C12
        have nl : (!(!cb)) = cb := Bool.not_not _
        clear hcb2
        go_wp2_with fail
        refine (unhide C12).mono ?_
        rintro e wy ⟨rfl, rfl⟩
        clear C12
        go_upto_if 198 with fail
        go_cut [13] from 199 to 205 (fun v wx => v = .bool ex2 ∧ wc = wx)
        case first =>
          cases cb with
          | true =>
            rw [if_pos rfl] at hex2
            by_cases h12 : ok = 12
            · have e12 : (ok == 12) = true := by simp [h12]
              rw [e12, Bool.true_and] at hex2
              clear h12
              subst hex2
              go_wp2_with fail
              go_meet
              exact ⟨rfl, rfl⟩
            · have e12 : (ok == 12) = false := ne_intO h12
              rw [e12, Bool.false_and] at hex2
              clear h12
              subst hex2
              go_wp2_with fail
              go_meet
              exact ⟨rfl, rfl⟩
          | false =>
            rw [if_neg (by simp)] at hex2
            subst hex2
            go_wp2_with fail
            go_meet
            exact ⟨rfl, rfl⟩
        case rest =>
        obtain ⟨rfl, rfl⟩ := hcut
        clear hex2 nl x0 xl
        have kv0 : wc.cell? ⟨vb, 0, none⟩ = some (.pointer (some ⟨q2.d, 0, none⟩)) := (unhide HW).kv.cell 0
        have kv1 : wc.cell? ⟨vb, 1, none⟩ = some (.pointer (some ⟨q2.t, 0, none⟩)) := (unhide HW).kv.cell 1
        have kvl := (unhide HW).kv.lt
        have C13 := hide (unhide HW).room
        go_wp2_with fail
        refine (unhide C13).mono ?_
        rintro e y1 ⟨rfl, o1⟩
        have HW1 := hide ((unhide HW).quiet o1)
        clear C13 o1 HW kv0 kv1 kvl HKw
        have hkL : k + 1 ≤ len := by omega
        have kv0 : y1.cell? ⟨vb, 0, none⟩ = some (.pointer (some ⟨q2.d, 0, none⟩)) := (unhide HW1).kv.cell 0
        have kv1 : y1.cell? ⟨vb, 1, none⟩ = some (.pointer (some ⟨q2.t, 0, none⟩)) := (unhide HW1).kv.cell 1
        have kvl := (unhide HW1).kv.lt
        have C14 := hide (unhide HW1).alike
        go_wp2_with fail
        refine (unhide C14).mono ?_
        rintro e y2 ⟨rfl, o2⟩
        have HW2 := hide ((unhide HW1).quiet o2)
        clear C14 o2 HW1 kv0 kv1 kvl
        have kv0 : y2.cell? ⟨vb, 0, none⟩ = some (.pointer (some ⟨q2.d, 0, none⟩)) := (unhide HW2).kv.cell 0
        have kv1 : y2.cell? ⟨vb, 1, none⟩ = some (.pointer (some ⟨q2.t, 0, none⟩)) := (unhide HW2).kv.cell 1
        have kvl := (unhide HW2).kv.lt
        have C15 := (unhide HW2).steps
        rw [hR2] at C15
        have C15 := hide C15
        have n0 := neI (R.length : Int)
        go_wp2_with fail
        refine (unhide C15).mono ?_
        rintro e y3 ⟨rfl, o3⟩
        have HW3 := hide ((unhide HW2).quiet o3)
        clear C15 o3 HW2 kv0 kv1 kvl
        have kv0 : y3.cell? ⟨vb, 0, none⟩ = some (.pointer (some ⟨q2.d, 0, none⟩)) := (unhide HW3).kv.cell 0
        have kv1 : y3.cell? ⟨vb, 1, none⟩ = some (.pointer (some ⟨q2.t, 0, none⟩)) := (unhide HW3).kv.cell 1
        have kvl := (unhide HW3).kv.lt
        have C16 := (unhide HW3).free
        rw [hf2] at C16
        have C16 := hide C16
        have n1 := neI ((frJ J' : Nat) : Int)
        go_wp2_with fail
        refine (unhide C16).mono ?_
        rintro e y4 ⟨rfl, o4⟩
        have HWx := hide ((unhide HW3).quiet o4)
        clear C16 o4 HW3 kv0 kv1 kvl n0 n1
        go_wp2_with fail
        go_roundw
        case rel => exact ⟨q2, g, m2, mb', _, ex2, k + 1, rfl, rfl, rfl, rfl, rfl, by go_num, hkL, unhide HWx⟩
        case measure => simp [intOf]; omega
    · have hkI : decide ((k : Int) < (len : Int)) = false := by simp; omega
      have HB := hide hvi.bel
      clear hvi
      by_cases hl8 : len < 4398046511104
      · have hl9 : decide ((len : Int) < 4398046511104) = true := by simp; omega
        go_wp2_with fail
        go_ret2
        exact ⟨⟨_, rfl⟩, unhide HB⟩
      · have hl9 : decide ((len : Int) < 4398046511104) = false := by simp; omega
        go_wp2_with fail
        go_ret2
        exact ⟨⟨_, rfl⟩, unhide HB⟩
end Go.Proofs.Qxb6500417aGreat
