/-
  OWN WORK. THE INDEX: sound.
-/
import Derived.Test.Qxb6500418aIMeet
namespace Go.Proofs.Qxb6500418a
open Go.RowKit Go.PlainAid
set_option linter.unusedSimpArgs false
set_option linter.unusedVariables false

/-- What a row of siblings owes sound. -/
structure SnI (P : Nat → Nd) (n : Nat) (pre : Str) (G : Fo) (p : Nat) (last : Str) (S : Nat → Bool) : Prop where
  lay : Lay P G p
  len : G.ids.length ≤ 48
  nd : G.ids.Nodup
  hgt : G.hgt ≤ n
  sh : G.Short
  wf : G.Wf
  fu : G.Full
  ky : ∀ k ∈ G.keys, bl last k = true
  good : ∀ f ∈ G.gather pre, GoodF f
  un : ∀ c ∈ G.ids, S c = false
theorem SnI.file {P : Nat → Nd} {n : Nat} {pre : Str} {c : Nat} {nm d : Str} {m : Int} {r : Fo} {p : Nat} {last : Str} {S : Nat → Bool} (h : SnI P n pre (.file c nm d m r) p last S) :
    SnI P n pre r (P c).next nm (updT S c true) ∧ p = c ∧ (1 ≤ c ∧ c < 49) ∧ P c = ⟨nm, 0, (P c).next, true, d, m, d.length, hashL d⟩ ∧ bl last nm = true ∧ 1 ≤ n ∧ nm.length ≤ 12 ∧ S c = false ∧ goodB (pre ++ nm) = true ∧ 0 ≤ m ∧ m ≤ 3 ∧ d.length ≤ 180 := by
  obtain ⟨h1, h2, h3, h4⟩ := h.lay
  have hn := List.nodup_cons.1 h.nd
  have hg := h.good (mkFl (pre ++ nm) d m) (by simp [Fo.gather])
  have hh := h.hgt
  have hl := h.len
  simp only [Fo.hgt] at hh
  simp only [Fo.ids, List.length_cons] at hl
  obtain ⟨g1, g2, g3, g4⟩ := hg
  rw [pth_mk] at g1
  refine ⟨⟨h4, by omega, hn.2, by omega, h.sh.2, h.wf.2.2.2, h.fu, h.wf.2.1, fun f hf => h.good f (by simp [Fo.gather, hf]), fun x hx => ?_⟩, h1, h2, h3, h.ky nm (by simp [Fo.keys]), by omega, h.sh.1, h.un c (by simp [Fo.ids]), g1, g2, g3, ?_⟩
  · rw [updT_other _ _ _ _ (fun e => hn.1 (by rw [← e]; exact hx))]
    exact h.un x (by simp [Fo.ids, hx])
  · have : (mkFl (pre ++ nm) d m).data.size = d.length := st_size d
    omega
theorem SnI.dir {P : Nat → Nd} {n : Nat} {pre : Str} {c : Nat} {nm : Str} {k r : Fo} {p : Nat} {last : Str} {S : Nat → Bool} (h : SnI P n pre (.dir c nm k r) p last S) :
    SnI P (n - 1) (pre ++ nm ++ [47]) k (P c).child [] (updT S c true) ∧ SnI P n pre r (P c).next (nm ++ [47]) (mrk (updT S c true) k.ids) ∧ p = c ∧ (1 ≤ c ∧ c < 49) ∧ P c = ⟨nm, (P c).child, (P c).next, false, [], 0, 0, 0⟩ ∧ bl last (nm ++ [47]) = true ∧ 1 < n ∧ nm.length ≤ 12 ∧ S c = false ∧ (P c).child ≠ 0 := by
  obtain ⟨h1, h2, h3, h4, h5⟩ := h.lay
  have hn := List.nodup_cons.1 h.nd
  have hna := List.nodup_append.1 hn.2
  have hh := h.hgt
  have hl := h.len
  simp only [Fo.hgt] at hh
  simp only [Fo.ids, List.length_cons, List.length_append] at hl
  have hk0 : k.hgt ≠ 0 := fun e => h.fu.1 (hgt_zero e)
  have hkey : ∀ q ∈ k.keys, bl [] q = true := by
    intro q hq
    obtain ⟨n', _, ok, e⟩ := key_name h.wf.2.2.2.1 q hq
    have hne := ok.1
    cases q with
    | nil =>
      rcases e with e | e
      · exact absurd e.symm hne
      · have := congrArg List.length e
        simp at this
    | cons a r => rfl
  refine ⟨⟨h4, by omega, hna.1, by omega, h.sh.2.1, h.wf.2.2.2.1, h.fu.2.1, hkey, fun f hf => h.good f (by simp [Fo.gather]; exact .inl (by simpa using hf)), fun x hx => ?_⟩, ⟨h5, by omega, hna.2.1, by omega, h.sh.2.2, h.wf.2.2.2.2, h.fu.2.2, h.wf.2.1, fun f hf => h.good f (by simp [Fo.gather, hf]), fun x hx => ?_⟩, h1, h2, h3, h.ky _ (by simp [Fo.keys]), by omega, h.sh.1, h.un c (by simp [Fo.ids]), fun e => h.fu.1 ((h4.head).1 e)⟩
  · rw [updT_other _ _ _ _ (fun e => hn.1 (by rw [← e]; simp [hx]))]
    exact h.un x (by simp [Fo.ids, hx])
  · refine mrk_other ?_ (fun hk => hna.2.2 x hk x hx rfl)
    rw [updT_other _ _ _ _ (fun e => hn.1 (by rw [← e]; simp [hx]))]
    exact h.un x (by simp [Fo.ids, hx])

section
variable {x t : Nat} {P : Nat → Nd} {fr fi : Nat}
set_option maxRecDepth 100000 in
set_option maxHeartbeats 4000000 in
theorem sound_any (n : Nat) : ∀ {w : World} (h : IAt w x P fr fi) (hn : n ≤ 6) (d : Nat) (hd : d < 49) (K : Fo) (pre : Str) (S : Nat → Bool) (nf : Nat) (hK : SnI P n pre K (P d).child [] S) (hpre : pre.length + 13 * n ≤ 1000) (hT : TAt w t S nf) (htx : t ≠ x) (hnf : nf + (K.gather pre).length ≤ 1000),
    Calls Try.prog 37 #[.pointer (some ⟨x, 0, none⟩), .int .i64 d, .string (st pre), .int .i64 n, .pointer (some ⟨t, 0, none⟩)] w fun e w' => e = .returned (.tuple #[]) ∧ TAt w' t (mrk S K.ids) (nf + (K.gather pre).length) ∧ Only (fun k => k = t) w w' := by
  induction n using Nat.strongRecOn with
  | ind n IH =>
    intro w h hn d hd K pre S nf hK hpre hT htx hnf
    have hxl := h.lt
    have htl := hT.lt
    have hxt : x ≠ t := fun e => htx e.symm
    have c1 := h.ch d hd
    have d1 : (d : Int) < 49 := by omega
    have H := hide h
    have HK := hide hK
    have HT := hide hT
    have HIH := hide IH
    have hsb := sibs_ids K
    have hlen := hK.len
    obtain ⟨SF, hSF⟩ : ∃ s, s = mrk S K.ids := ⟨_, rfl⟩
    obtain ⟨NF, hNF⟩ : ∃ s, s = nf + (K.gather pre).length := ⟨_, rfl⟩
    rw [← hSF, ← hNF]
    rw [← hNF] at hnf
    have HSF := hide hSF
    have HNF := hide hNF
    clear h hK hT IH hSF hNF
    generalize hp0 : (P d).child = p0 at *
    clear hp0
    go_enter Try.func37, Try.ntmps37
    go_wp2_with fail
    go_loopw [10, 11, 12] (fun lv cv nv wr => ∃ (i p : Nat) (G : Fo) (last : Str) (S1 : Nat → Bool) (n1 : Nat), lv = .string (st last) ∧ cv = .int .i64 p ∧ nv = .int .i64 i ∧ i + G.sibs ≤ 48 ∧ SnI P n pre G p last S1 ∧ TAt wr t S1 n1 ∧ SF = mrk S1 G.ids ∧ NF = n1 + (G.gather pre).length ∧ Only (fun k => k = t) w wr) (fun _ _ nv _ => (49 - intOf nv).toNat)
    case atStart => exact ⟨0, p0, K, [], S, nf, rfl, rfl, rfl, by omega, unhide HK, unhide HT, unhide HSF, unhide HNF, Only.refl _ _⟩
    case round =>
      clear HK HT HSF HNF c1
      obtain ⟨i, p, G, last, S1, n1, rfl, rfl, rfl, hi, hG, hT, hSF, hNF, ho⟩ := hrel
      have a1 : decide ((i : Int) < 49) = true := by simp; omega
      have h := (unhide H).keep ho (fun e => hxt e)
      have hxr := h.lt
      have htr := hT.lt
      obtain ⟨bd, bdf⟩ := hT.bad_
      cases G with
      | nil =>
        have hp0 : p = 0 := hG.lay
        have p2 : ((p : Int) != 0) = false := by rw [hp0]; rfl
        have hSe : SF = S1 := by rw [hSF]; exact mrk_nil _
        have hNe : NF = n1 := by rw [hNF]; simp [Fo.gather]
        have HSe := hide hSe
        have HNe := hide hNe
        have HT1 := hide hT
        have HO1 := hide ho
        clear hG hp0 hSF hNF hSe hNe hT ho h
        go_wp2_with fail
        go_end0
        rw [unhide HSe, unhide HNe]
        exact ⟨rfl, unhide HT1, unhide HO1⟩
      | file c' n' d' m' r =>
        obtain ⟨hr, rfl, h2, h3, hbl, hn1, hn12, hS1, hgd, hm0, hm3, hd180⟩ := hG.file
        have C1 := hide (meet_any hT p h2.1 h2.2 hS1)
        have p1 : (p : Int) < 49 := by omega
        have p2 : ((p : Int) != 0) = true := by simp; omega
        have b1 : decide ((n : Int) < 1) = false := by simp; omega
        have b2 : (Op.bytesLess n' last || n' == last) = false := by
          have e1 : Op.bytesLess n' last = false := bl_asymm hbl
          rw [e1, Bool.false_or, beq_eq_false_iff_ne]
          intro e
          rw [e, bl_irr] at hbl
          cases hbl
        have hcat := cat_run pre n' (by omega)
        have C2 := fun W => keyOf_any n' true (by omega) W
        have hkf : keyF n' true = n' := rfl
        rw [hkf] at C2
        clear hkf
        have C2 := hide C2
        have C3 := fun W => goodPath_any (st (pre ++ n')) W
        rw [ls_st, hgd] at C3
        have C3 := hide C3
        have C4 := fun W => hashOf_any (st d') (by rw [st_size]; omega) W
        rw [ls_st] at C4
        have C4 := hide C4
        have b3 : decide (m' < 0) = false := by simp; omega
        have b4 : decide (3 < m') = false := by simp; omega
        have b5 : (d'.length : Int) ≤ 180 := by omega
        have b5' : decide ((180 : Int) < (d'.length : Int)) = false := by simp; omega
        simp only [Fo.sibs] at hi
        obtain ⟨nn, hnn⟩ : ∃ nn : Nat, n1 + 1 = nn := ⟨_, rfl⟩
        have k3 : (n1 : Int) + 1 = (nn : Int) := by omega
        have hNF2 : NF = nn + (r.gather pre).length := by rw [hNF]; simp only [Fo.gather, List.length_cons]; omega
        have hn100 : nn ≤ 1000 := by omega
        have kw : IntKind.i64.wrap (nn : Int) = (nn : Int) := by rw [IntKind.wrap_i64]; omega
        have Hst : Hid (SnI P n pre r (P p).next n' (updT S1 p true) ∧ SF = mrk (updT S1 p true) r.ids ∧ NF = nn + (r.gather pre).length) := hide ⟨hr, by rw [hSF, mrk_cons]; rfl, hNF2⟩
        have HH := hide h
        have HO := hide ho
        have H3 := hide h3
        clear hG hr hbl hn1 hS1 hgd hm0 hm3 hSF hNF hNF2 hnn h ho h3 hT
        generalize hq0 : (P p).next = q at *
        go_wp2_with fail
        refine (unhide C1).mono ?_
        rintro e w1 ⟨rfl, hT1, ho1⟩
        have h1 := (unhide HH).keep ho1 (fun e => hxt e)
        have hxr1 := h1.lt
        have htr1 := hT1.lt
        obtain ⟨bd1, bdf1⟩ := hT1.bad_
        obtain ⟨fi1, fif1⟩ := hT1.files_
        obtain ⟨⟨z0, _⟩, ⟨z1, _⟩, ⟨z2, _⟩, ⟨z3, _⟩, ⟨z4, _⟩, ⟨z5, _⟩, ⟨z6, _⟩, ⟨z7, _⟩⟩ := h1.all p h2.2
        rw [unhide H3] at z0 z1 z2 z3 z4 z5 z6 z7
        have z1 : w1.cell? ⟨x, p * 8 + 1, none⟩ = some (.int .i64 0) := z1
        obtain ⟨tb, htb⟩ : ∃ tb, tb = w1.heap.size := ⟨_, rfl⟩
        have htb1 : w1.heap.size ≤ tb := by omega
        have hxb : x ≠ tb := by omega
        have htt : t ≠ tb := by omega
        have htt' : tb ≠ t := by omega
        have r8 := Has.new' w1 #[.string (st n'), .int .i64 0, .int .i64 (q : Int), .bool true, .string (st d'), .int .i64 m', .int .i64 (d'.length : Int), .int .i64 (hashL d' : Int)] 46 tb htb
        have o8 : Only (fun _ => False) w1 (w1.alloc (.cells #[.string (st n'), .int .i64 0, .int .i64 (q : Int), .bool true, .string (st d'), .int .i64 m', .int .i64 (d'.length : Int), .int .i64 (hashL d' : Int)] 46)) := (Only.refl _ w1).alloc _
        have hT8 := hT1.keep o8 (fun h => h)
        have o8' := ((unhide HO).trans ho1 (fun _ _ h => h)).trans (o8.mono (T := fun k => k = t) (fun _ _ h => h.elim)) (fun _ _ h => h)
        have HR8 := hide r8
        have HT8 := hide hT8
        have HO8 := hide o8'
        clear r8 o8 o8' hT8 hT1 h1 ho1 HH HO H3 bd bdf
        go_upto_region 8 with fail
        rw [← htb]
        clear htb hq0
        generalize (w1.alloc (.cells #[.string (st n'), .int .i64 0, .int .i64 (q : Int), .bool true, .string (st d'), .int .i64 m', .int .i64 (d'.length : Int), .int .i64 (hashL d' : Int)] 46)) = W8 at *
        have r8 := unhide HR8
        have htl8 := r8.lt
        have y0 := r8.cell 0
        have y1 := r8.cell 1
        have y2 := r8.cell 2
        have y3 := r8.cell 3
        have y4 := r8.cell 4
        have y5 := r8.cell 5
        have y6 := r8.cell 6
        have y7 := r8.cell 7
        have t8 := unhide HT8
        have htr8 := t8.lt
        obtain ⟨bd8, bdf8⟩ := t8.bad_
        obtain ⟨fi8, fif8⟩ := t8.files_
        clear r8 t8 z0 z1 z2 z3 z4 z5 z6 z7 bd1 bdf1 fi1 fif1
        go_wp2_with fail
        refine (unhide C2 _).mono ?_
        rintro e w2 ⟨rfl, rfl⟩
        go_wp2_with fail
        refine (unhide C3 _).mono ?_
        rintro e w2 ⟨rfl, rfl⟩
        go_wp2_with fail
        refine (unhide C4 _).mono ?_
        rintro e w2 ⟨rfl, rfl⟩
        go_wp2_with fail
        go_roundw
        case rel =>
          obtain ⟨s1, s2, s3⟩ := unhide Hst
          exact ⟨i + 1, q, r, n', _, nn, rfl, rfl, by go_num, by omega, s1, (unhide HT8).setFiles nn, s2, s3, (unhide HO8).setCell (p := ⟨t, 49, none⟩) (fun _ => rfl) _⟩
        case measure => simp [intOf]; omega
      | dir c' n' k' r =>
        obtain ⟨hk, hr, rfl, h2, h3, hbl, hn1, hn12, hS1, hch0⟩ := hG.dir
        have C1 := hide (meet_any hT p h2.1 h2.2 hS1)
        have p1 : (p : Int) < 49 := by omega
        have p2 : ((p : Int) != 0) = true := by simp; omega
        have b1 : decide ((n : Int) < 1) = false := by simp; omega
        have b2 : (Op.bytesLess (n' ++ [47]) last || (n' ++ [47]) == last) = false := by
          have e1 : Op.bytesLess (n' ++ [47]) last = false := bl_asymm hbl
          rw [e1, Bool.false_or, beq_eq_false_iff_ne]
          intro e
          rw [e, bl_irr] at hbl
          cases hbl
        have hcat := cat_run pre n' (by omega)
        have hcat2 : binOp .add 9 (.string (st (pre ++ n'))) (.string ⟨#[47]⟩) = pure (.string (st (pre ++ n' ++ [47]))) := cat_run (pre ++ n') [47] (by simp; omega)
        have C2 := fun W => keyOf_any n' false (by omega) W
        have hkf : keyF n' false = n' ++ [47] := rfl
        rw [hkf] at C2
        clear hkf
        have C2 := hide C2
        have b3 : (((P p).child : Int) == 0) = false := by simp; omega
        simp only [Fo.sibs] at hi
        obtain ⟨n2, hn2⟩ : ∃ n2, n2 + 1 = n := ⟨n - 1, by omega⟩
        have b6 : (n : Int) - 1 = (n2 : Int) := by omega
        have kw : IntKind.i64.wrap (n2 : Int) = (n2 : Int) := by rw [IntKind.wrap_i64]; omega
        have hn2' : n - 1 = n2 := by omega
        rw [hn2'] at hk
        have hpre2 : (pre ++ n' ++ [47]).length + 13 * n2 ≤ 1000 := by simp; omega
        have hNF2 : NF = (n1 + (k'.gather (pre ++ n' ++ [47])).length) + (r.gather pre).length := by rw [hNF]; simp only [Fo.gather, List.length_append]; omega
        have hlen2 : n1 + (k'.gather (pre ++ n' ++ [47])).length ≤ 1000 := by omega
        have C5 := fun (W : World) (hI : IAt W x P fr fi) (hTW : TAt W t (updT S1 p true) n1) => unhide HIH n2 (by omega) hI (by omega) p h2.2 k' (pre ++ n' ++ [47]) (updT S1 p true) n1 hk hpre2 hTW htx hlen2
        have Hst : Hid (SnI P n pre r (P p).next (n' ++ [47]) (mrk (updT S1 p true) k'.ids) ∧ SF = mrk (mrk (updT S1 p true) k'.ids) r.ids ∧ NF = (n1 + (k'.gather (pre ++ n' ++ [47])).length) + (r.gather pre).length) := hide ⟨hr, by rw [hSF, mrk_app, mrk_cons]; rfl, hNF2⟩
        have C5 := hide C5
        have HH := hide h
        have HO := hide ho
        have H3 := hide h3
        clear hG hr hk hbl hn1 hS1 hSF hNF hNF2 hn2 hn2' h ho h3 hT hch0 hpre2 hlen2
        generalize hq0 : (P p).next = q at *
        generalize hch : (P p).child = ch at *
        go_wp2_with fail
        refine (unhide C1).mono ?_
        rintro e w1 ⟨rfl, hT1, ho1⟩
        have h1 := (unhide HH).keep ho1 (fun e => hxt e)
        have hxr1 := h1.lt
        have htr1 := hT1.lt
        obtain ⟨bd1, bdf1⟩ := hT1.bad_
        obtain ⟨⟨z0, _⟩, ⟨z1, _⟩, ⟨z2, _⟩, ⟨z3, _⟩, ⟨z4, _⟩, ⟨z5, _⟩, ⟨z6, _⟩, ⟨z7, _⟩⟩ := h1.all p h2.2
        rw [unhide H3] at z0 z1 z2 z3 z4 z5 z6 z7
        have z4 : w1.cell? ⟨x, p * 8 + 4, none⟩ = some (.string ⟨#[]⟩) := z4
        have z6 : w1.cell? ⟨x, p * 8 + 6, none⟩ = some (.int .i64 0) := z6
        have z7 : w1.cell? ⟨x, p * 8 + 7, none⟩ = some (.int .i64 0) := z7
        obtain ⟨tb, htb⟩ : ∃ tb, tb = w1.heap.size := ⟨_, rfl⟩
        have htb1 : w1.heap.size ≤ tb := by omega
        have hxb : x ≠ tb := by omega
        have htt : t ≠ tb := by omega
        have htt' : tb ≠ t := by omega
        have r8 := Has.new' w1 #[.string (st n'), .int .i64 (ch : Int), .int .i64 (q : Int), .bool false, .string ⟨#[]⟩, .int .i64 0, .int .i64 0, .int .i64 0] 46 tb htb
        have o8 : Only (fun _ => False) w1 (w1.alloc (.cells #[.string (st n'), .int .i64 (ch : Int), .int .i64 (q : Int), .bool false, .string ⟨#[]⟩, .int .i64 0, .int .i64 0, .int .i64 0] 46)) := (Only.refl _ w1).alloc _
        have hT8 := hT1.keep o8 (fun h => h)
        have hI8 := h1.keep o8 (fun h => h)
        have C5 := unhide C5 _ hI8 hT8
        rw [List.append_assoc pre n' [47]] at C5
        have C5 := hide C5
        have o8' := ((unhide HO).trans ho1 (fun _ _ h => h)).trans (o8.mono (T := fun k => k = t) (fun _ _ h => h.elim)) (fun _ _ h => h)
        have HR8 := hide r8
        have HT8 := hide hT8
        have HO8 := hide o8'
        clear r8 o8 o8' hT8 hI8 hT1 h1 ho1 HH HO H3 bd bdf
        go_upto_region 8 with fail
        rw [← htb]
        clear htb hq0 hch
        generalize (w1.alloc (.cells #[.string (st n'), .int .i64 (ch : Int), .int .i64 (q : Int), .bool false, .string ⟨#[]⟩, .int .i64 0, .int .i64 0, .int .i64 0] 46)) = W8 at *
        have r8 := unhide HR8
        have htl8 := r8.lt
        have y0 := r8.cell 0
        have y1 := r8.cell 1
        have y3 := r8.cell 3
        have y4 := r8.cell 4
        have y5 := r8.cell 5
        have y6 := r8.cell 6
        have y7 := r8.cell 7
        have t8 := unhide HT8
        have htr8 := t8.lt
        obtain ⟨bd8, bdf8⟩ := t8.bad_
        clear r8 t8 z0 z1 z2 z3 z4 z5 z6 z7 bd1 bdf1
        go_wp2_with fail
        refine (unhide C2 _).mono ?_
        rintro e w2 ⟨rfl, rfl⟩
        go_wp2_with fail
        refine (unhide C5).mono ?_
        rintro e w4 ⟨rfl, hT4, ho4⟩
        have r4 := (unhide HR8).keep ho4 htt'
        have y2 := r4.cell 2
        have htl4 := r4.lt
        have HT4 := hide hT4
        have HO4 := hide ((unhide HO8).trans ho4 (fun _ _ h => h))
        clear r4 hT4 ho4 y0 y1 y3 y4 y5 y6 y7 HR8 HT8 HO8 C5 bd8 bdf8
        go_wp2_with fail
        go_roundw
        case rel =>
          obtain ⟨s1, s2, s3⟩ := unhide Hst
          have e4 := unhide HT4
          rw [← List.append_assoc pre n' [47]] at e4
          exact ⟨i + 1, q, r, n' ++ [47], _, _, rfl, rfl, by go_num, by omega, s1, e4, s2, s3, unhide HO4⟩
        case measure => simp [intOf]; omega
end
end Go.Proofs.Qxb6500418a
