/-
  OWN WORK. TABLE: checkTable. (written by tools/gen_echt.py)
-/
import Derived.Test.Qxb6500413aGreatEBr
import Derived.Test.Qxb6500413aGreatERg
namespace Go.Proofs.Qxb6500413aGreat
open Go.RowKit Go.PlainAid
set_option linter.unusedSimpArgs false
set_option linter.unusedVariables false

section
variable {q : Gnd} {w : World} {x : Nat} {op : Bool} {S S1 : Vu} {T : List (Tb × Hd)} {t : Tb} {h : Hd}
theorem idxR_len_eq {pk c : Nat} {rows : List (List Vl)} (hs : rows.Pairwise (fun a b => lt (pkK pk a) (pkK pk b) = true)) : (idxR pk c rows).length = rows.length := by
  unfold idxR
  have : ∀ (l a : List (List Vl)), (∀ x ∈ a, ∀ y ∈ l, pkK pk x ≠ pkK pk y) → l.Pairwise (fun a b => lt (pkK pk a) (pkK pk b) = true) → (l.foldl (fun l r => putBy (fun r => idxK r c pk) r l) a).length = a.length + l.length := by
    intro l
    induction l with
    | nil => intro a _ _; simp
    | cons x t ih =>
      intro a ha hp
      obtain ⟨p1, p2⟩ := List.pairwise_cons.mp hp
      rw [List.foldl_cons, ih _ (fun y hy z hz => ?_) p2, putBy_len_new _ (fun e he => fun q => ha e he x (by simp) (idxK_inj q).2), List.length_cons]
      · omega
      · rcases putBy_mem _ hy with e | e
        · rw [e]; exact lt_ne (p1 z hz)
        · exact ha y e z (by simp [hz])
  simpa using this rows [] (by simp) hs
theorem opt_or {α : Type} (o : Option α) : o = none ∨ ∃ i, o = some i := by cases o with | none => exact .inl rfl | some i => exact .inr ⟨i, rfl⟩
/-- Within checkTable. -/
structure CkI (q : Gnd) (w : World) (x : Nat) (op : Bool) (S : Vu) (t : Tb) (h : Hd) (a b : Nat) (cv : Value) (wr : World) : Prop where
  st : ST q wr x op S
  on : Only q.S w wr
  ha : Has wr a (hdC h) 149
  hb : Has wr b (scC t.nm cv (t.pk : Int) (ixI t.ix)) 65
  oc : OwnC wr cv t.cols
  al : w.heap.size ≤ a
  bl : w.heap.size ≤ b
  nq : ∀ k, cv.ownBlock = some k → ¬ q.S k
theorem CkI.go {a b : Nat} {cv : Value} {wr w' : World} (H : ST q w x op S) (I : CkI q w x op S t h a b cv wr) (st : ST q w' x op S) (o : Only q.S wr w') : CkI q w x op S t h a b cv w' :=
  ⟨st, I.on.ss o, I.ha.keep o (H.new I.al), I.hb.keep o (H.new I.bl), I.oc.keep o I.nq, I.al, I.bl, I.nq⟩
theorem CkI.quiet {a b : Nat} {cv : Value} {wr w' : World} (I : CkI q w x op S t h a b cv wr) (o : Only (fun _ => False) wr w') : CkI q w x op S t h a b cv w' :=
  ⟨I.st.quiet o, I.on.andS o, I.ha.keep o (fun e => e), I.hb.keep o (fun e => e), I.oc.keep o (fun _ _ e => e), I.al, I.bl, I.nq⟩
set_option maxRecDepth 100000 in
set_option maxHeartbeats 8000000 in
theorem echeckTable_any (H : ST q w x op S) (L : Lay S T) (hx : (t, h) ∈ T) {cv : Value} (hc : OwnC w cv t.cols) (hcq : ∀ k, cv.ownBlock = some k → ¬ q.S k) : Calls Tryz.prog 112 #[.pointer (some ⟨x, 0, none⟩), hdA h, schA t.nm cv (t.pk : Int) (ixI t.ix)] w fun e w' => e = .returned (.bool true) ∧ ST q w' x op S ∧ Only q.S w w' := by
  obtain ⟨ca, cc, rfl⟩ := hc.shape
  have ok := L.tb _ hx
  have hf := L.hd _ hx
  have epk : h.pk = t.pk := hf.pk
  have eix : h.ix = t.ix := hf.ix
  have HX := hide (And.intro L (And.intro hx (And.intro epk (And.intro ok eix))))
  have HLz := hide (show Lz S (h.rows : Int) = rowsL t.pk t.rows from Lz_nat hf.ok.r8 (L.rows _ hx))
  have o0 : Only (fun _ => False) w ((w.alloc (.cells (hdC h) 149)).alloc (.cells (scC t.nm (.slice ca t.cols.length cc) (t.pk : Int) (ixI t.ix)) 65)) := ((Only.refl _ w).alloc _).alloc _
  have I0 : CkI q w x op S t h w.heap.size (w.heap.size + 1) (.slice ca t.cols.length cc) ((w.alloc (.cells (hdC h) 149)).alloc (.cells (scC t.nm (.slice ca t.cols.length cc) (t.pk : Int) (ixI t.ix)) 65)) := ⟨H.quiet o0, o0.toS, (Has.new w _ _).alloc _, Has.new' _ _ _ _ (by simp), hc.keep o0 (fun _ _ e => e), Nat.le_refl _, by omega, hcq⟩
  have H0 := H
  clear L hx ok epk eix hc hf o0 hcq H
  unfold hdA schA
  unfold hdC scC at I0
  go_enter Tryz.func112, Tryz.ntmps112
  go_upto_region 1 with fail
  generalize (w.alloc (.cells #[.int .i64 (h.n : Int), .int .i64 (h.pk : Int), .int .i64 (ixI h.ix), .int .i64 (h.rows : Int), .int .i64 (ixI h.idx)] 149)).alloc (.cells #[.string t.nm, .slice ca t.cols.length cc, .int .i64 (t.pk : Int), .int .i64 (ixI t.ix)] 65) = w2 at *
  obtain ⟨g, hg⟩ : ∃ g, w.heap.size = g := ⟨_, rfl⟩
  rw [hg] at I0
  rw [hg]
  clear hg
  have a0 := I0.ha.cell 0
  have a1 := I0.ha.cell 1
  have a2 := I0.ha.cell 2
  have a3 := I0.ha.cell 3
  have a4 := I0.ha.cell 4
  have b0 := I0.hb.cell 0
  have b1 := I0.hb.cell 1
  have b2 := I0.hb.cell 2
  have b3 := I0.hb.cell 3
  simp [hdC] at a0 a1 a2 a3 a4
  simp [scC] at b0 b1 b2 b3
  have CA := eall_any I0.st (h.rows : Int)
  rw [unhide HLz] at CA
  have CA := hide CA
  have HI := hide I0
  have sz0 := I0.on.size
  clear I0
  go_wp2_with fail
  refine (unhide CA).mono ?_
  rintro e w4 ⟨va, rfl, hva, nva, st4, o4⟩
  have I4 := (unhide HI).go H0 st4 o4
  have hvl : (rowsL t.pk t.rows).length = t.rows.length := by simp [rowsL, kvsOf]
  obtain ⟨la, lc, rfl⟩ : ∃ a c, va = .slice a t.rows.length c := by obtain ⟨a, c, e⟩ := ownsRow_shape hva; exact ⟨a, c, by rw [e]; show Value.slice a (rowsL t.pk t.rows).length c = _; rw [hvl]⟩
  have HVA := hide (show OwnE w4 (.slice la t.rows.length lc) (rowsL t.pk t.rows) ∧ (∀ k, (Value.slice la t.rows.length lc).ownBlock = some k → ¬ q.S k) from ⟨hva, fun k hk => H0.new (Nat.le_trans sz0 (nva k hk))⟩)
  have HI4 := hide I4
  have r8 : t.rows.length ≤ 8 := (unhide HX).2.2.2.1.len
  have d8 : decide ((t.rows.length : Int) > 8) = false := decide_eq_false (by omega)
  have d8' : decide (8 < (t.rows.length : Int)) = false := decide_eq_false (by omega)
  have d8n : decide (8 < t.rows.length) = false := decide_eq_false (by omega)
  clear a0 a1 a2 a3 a4 b0 b1 b2 b3 HI CA st4 o4 nva hva hvl I4 sz0
  go_upto_region 5 with fail
  clear d8 d8' d8n
  go_loopw [8, 9, 10, 11, 12, 13] (fun iv rv okv kv vv ev wr => ∃ n : Nat, iv = .int .i64 n ∧ n ≤ t.rows.length ∧ CkI q w x op S t h g (g + 1) (.slice ca t.cols.length cc) wr ∧ OwnE wr (.slice la t.rows.length lc) (rowsL t.pk t.rows)) (fun iv _ _ _ _ _ _ => t.rows.length - (intOf iv).toNat)
  case atStart => exact ⟨0, rfl, Nat.zero_le _, unhide HI4, (unhide HVA).1⟩
  case round =>
    clear HI4
    obtain ⟨n, rfl, hn, I, E⟩ := hrel
    by_cases hn2 : n < t.rows.length
    · have a1 : decide ((n : Int) < (t.rows.length : Int)) = true := decide_eq_true (by omega)
      have a1p : (n : Int) < (t.rows.length : Int) := by omega
      obtain ⟨r, hr⟩ := getE hn2
      have hre : (rowsL t.pk t.rows)[n]? = some (pkK t.pk r, restP r t.pk) := by unfold rowsL kvsOf; rw [List.getElem?_map, hr]; rfl
      obtain ⟨rl, lc2, hle, e0, e1⟩ := E.at_ hre
      have hvl : (rowsL t.pk t.rows).length = t.rows.length := by simp [rowsL, kvsOf]
      rw [hvl] at hle
      simp only [Value.slice.injEq] at hle
      obtain ⟨rfl, _, rfl⟩ := hle
      have hrok := (unhide HX).2.2.2.1.row r (List.mem_of_getElem? hr)
      have CR := hide (erowOf_any (I.oc.keep (Only.refl (fun _ => False) wr).drew (fun _ _ e => e)) hrok (unhide HX).2.2.2.1.n3 (unhide HX).2.2.2.1.pkn t.nm (ixI t.ix))
      have HI := hide (And.intro I E)
      have HSB := hide I.hb
      have HRO := hide (And.intro hrok (List.mem_of_getElem? hr))
      clear hre hvl hr hrok I E
      generalize pkK t.pk r = KK at *
      generalize restP r t.pk = VV at *
      go_upto_region 7 with fail
      go_cut [9, 10] (fun rv okv wx => okv = .bool true ∧ OwnV wx rv r ∧ (∀ k, rv.ownBlock = some k → w.heap.size ≤ k) ∧ CkI q w x op S t h g (g + 1) (.slice ca t.cols.length cc) wx ∧ OwnE wx (.slice (some ⟨rl, 0, none⟩) t.rows.length lc) (rowsL t.pk t.rows))
      case first =>
        refine wp_region_held_drew (S := (fun w' => Has w' (g + 1) (scC t.nm (.slice ca t.cols.length cc) (t.pk : Int) (ixI t.ix)) 65 ∧ w'.cell? ⟨rl, n * 2, none⟩ = some (.string KK) ∧ w'.cell? ⟨rl, n * 2 + 1, none⟩ = some (.string VV))) (by kernel_rfl) ⟨(unhide HSB).drew, e0, e1⟩ (fun hH0 => ?_)
        refine takeH 0 28 rfl rfl (by kernel_rfl) (by kernel_rfl) (by kernel_rfl) (fun _ _ _ h => h) (yieldsIf_load_sch (by rfl) _ rfl (g + 1) rfl (scC t.nm (.slice ca t.cols.length cc) (t.pk : Int) (ixI t.ix)) rfl (fun _ h => h.1)) hH0 ?rd1
        case rd1 =>
        try simp only [Act.put, List.setIfInBounds_toArray, List.set_cons_zero, List.set_cons_succ]
        refine takeH 1 29 (v := ?vd2) rfl rfl (by kernel_rfl) (by kernel_rfl) (by kernel_rfl) (fun _ _ _ h => h) (Or.inl ⟨by rfl, ?hd2⟩) hH0 ?rd2
        case hd2 => (intro w hSw; clear hSw; go_simp; (try with_reducible rfl))
        case rd2 =>
        try simp only [Act.put, List.setIfInBounds_toArray, List.set_cons_zero, List.set_cons_succ]
        refine takeH 2 30 (v := ?vd3) rfl rfl (by kernel_rfl) (by kernel_rfl) (by kernel_rfl) (fun _ _ _ h => h) (Or.inl ⟨by rfl, ?hd3⟩) hH0 ?rd3
        case hd3 => (intro w hSw; clear hSw; go_simp; (try with_reducible rfl))
        case rd3 =>
        try simp only [Act.put, List.setIfInBounds_toArray, List.set_cons_zero, List.set_cons_succ]
        refine takeH 3 31 (v := ?vd4) rfl rfl (by kernel_rfl) (by kernel_rfl) (by kernel_rfl) (fun _ _ _ h => h) (Or.inl ⟨by rfl, ?hd4⟩) hH0 ?rd4
        case hd4 => (intro w hSw; clear hSw; go_simp; (try with_reducible rfl))
        case rd4 =>
        try simp only [Act.put, List.setIfInBounds_toArray, List.set_cons_zero, List.set_cons_succ]
        refine takeH 4 32 (v := ?vd5) rfl rfl (by kernel_rfl) (by kernel_rfl) (by kernel_rfl) (fun _ _ _ h => h) (Or.inl ⟨by rfl, ?hd5⟩) hH0 ?rd5
        case hd5 => (intro w hSw; clear hSw; go_simp; (try with_reducible rfl))
        case rd5 =>
        try simp only [Act.put, List.setIfInBounds_toArray, List.set_cons_zero, List.set_cons_succ]
        refine takeH 5 33 (v := ?vd6) rfl rfl (by kernel_rfl) (by kernel_rfl) (by kernel_rfl) (fun _ _ _ h => h) (Or.inl ⟨by rfl, ?hd6⟩) hH0 ?rd6
        case hd6 => (intro w hSw; have q1 := hSw.2.1; clear hSw; go_simp; (try with_reducible rfl))
        case rd6 =>
        try simp only [Act.put, List.setIfInBounds_toArray, List.set_cons_zero, List.set_cons_succ]
        refine takeH 6 34 (v := ?vd7) rfl rfl (by kernel_rfl) (by kernel_rfl) (by kernel_rfl) (fun _ _ _ h => h) (Or.inl ⟨by rfl, ?hd7⟩) hH0 ?rd7
        case hd7 => (intro w hSw; clear hSw; go_simp; (try with_reducible rfl))
        case rd7 =>
        try simp only [Act.put, List.setIfInBounds_toArray, List.set_cons_zero, List.set_cons_succ]
        refine takeH 7 35 (v := ?vd8) rfl rfl (by kernel_rfl) (by kernel_rfl) (by kernel_rfl) (fun _ _ _ h => h) (Or.inl ⟨by rfl, ?hd8⟩) hH0 ?rd8
        case hd8 => (intro w hSw; clear hSw; go_simp; (try with_reducible rfl))
        case rd8 =>
        try simp only [Act.put, List.setIfInBounds_toArray, List.set_cons_zero, List.set_cons_succ]
        refine takeH 8 36 (v := ?vd9) rfl rfl (by kernel_rfl) (by kernel_rfl) (by kernel_rfl) (fun _ _ _ h => h) (Or.inl ⟨by rfl, ?hd9⟩) hH0 ?rd9
        case hd9 => (intro w hSw; clear hSw; go_simp; (try with_reducible rfl))
        case rd9 =>
        try simp only [Act.put, List.setIfInBounds_toArray, List.set_cons_zero, List.set_cons_succ]
        refine takeH 9 37 (v := ?vd10) rfl rfl (by kernel_rfl) (by kernel_rfl) (by kernel_rfl) (fun _ _ _ h => h) (Or.inl ⟨by rfl, ?hd10⟩) hH0 ?rd10
        case hd10 => (intro w hSw; clear hSw; go_simp; (try with_reducible rfl))
        case rd10 =>
        try simp only [Act.put, List.setIfInBounds_toArray, List.set_cons_zero, List.set_cons_succ]
        refine takeH 10 38 (v := ?vd11) rfl rfl (by kernel_rfl) (by kernel_rfl) (by kernel_rfl) (fun _ _ _ h => h) (Or.inl ⟨by rfl, ?hd11⟩) hH0 ?rd11
        case hd11 => (intro w hSw; have q1 := hSw.2.2; clear hSw; go_simp; (try with_reducible rfl))
        case rd11 =>
        try simp only [Act.put, List.setIfInBounds_toArray, List.set_cons_zero, List.set_cons_succ]
        refine callH 11 (by kernel_rfl) rfl 39 rfl rfl 146 Tryz.func146 (by kernel_rfl) (by kernel_rfl) #[.tmp 28, .tmp 33, .tmp 38] #[65, 9, 9] rfl #[.agg (scC t.nm (.slice ca t.cols.length cc) (t.pk : Int) (ixI t.ix)), .string KK, .string VV] (by simp [Act.eval]) (R := fun v w' => ∃ rv, v = .tuple #[rv, .bool true] ∧ OwnV w' rv r ∧ Newer wr.drew rv ∧ Only (fun _ => False) wr.drew w') ((unhide CR).mono (by rintro en w' ⟨v, rfl, hv, nv, o⟩; exact ⟨_, rfl, v, rfl, hv, nv, o⟩)) ?kcs
        case kcs =>
        rintro _ w6 ⟨rv, rfl, hv6, nv6, o6⟩
        have S6 : Has w6 (g + 1) (scC t.nm (.slice ca t.cols.length cc) (t.pk : Int) (ixI t.ix)) 65 ∧ w6.cell? ⟨rl, n * 2, none⟩ = some (.string KK) ∧ w6.cell? ⟨rl, n * 2 + 1, none⟩ = some (.string VV) := ⟨hH0.1.keep o6 (fun e => e), o6.cellF hH0.2.1, o6.cellF hH0.2.2⟩
        refine ⟨S6, ?_⟩
        try simp only [Act.put, List.setIfInBounds_toArray, List.set_cons_zero, List.set_cons_succ]
        refine takeH 12 27 (v := ?ve1) rfl rfl (by kernel_rfl) (by kernel_rfl) (by kernel_rfl) (fun _ _ _ h => h) (Or.inl ⟨by rfl, ?he1⟩) S6 ?re1
        case he1 => (intro w hSw; clear hSw; go_simp; (try with_reducible rfl))
        case re1 =>
        try simp only [Act.put, List.setIfInBounds_toArray, List.set_cons_zero, List.set_cons_succ]
        refine takeH 13 40 (v := ?ve2) rfl rfl (by kernel_rfl) (by kernel_rfl) (by kernel_rfl) (fun _ _ _ h => h) (Or.inl ⟨by rfl, ?he2⟩) S6 ?re2
        case he2 => (intro w hSw; clear hSw; go_simp; (try with_reducible rfl))
        case re2 =>
        try simp only [Act.put, List.setIfInBounds_toArray, List.set_cons_zero, List.set_cons_succ]
        refine takeH 14 41 (v := ?ve3) rfl rfl (by kernel_rfl) (by kernel_rfl) (by kernel_rfl) (fun _ _ _ h => h) (Or.inl ⟨by rfl, ?he3⟩) S6 ?re3
        case he3 => (intro w hSw; clear hSw; go_simp; (try with_reducible rfl))
        case re3 =>
        try simp only [Act.put, List.setIfInBounds_toArray, List.set_cons_zero, List.set_cons_succ]
        refine takeH 15 9 (v := ?ve4) rfl rfl (by kernel_rfl) (by kernel_rfl) (by kernel_rfl) (fun _ _ _ h => h) (Or.inl ⟨by rfl, ?he4⟩) S6 ?re4
        case he4 => (intro w hSw; clear hSw; go_simp; (try with_reducible rfl))
        case re4 =>
        try simp only [Act.put, List.setIfInBounds_toArray, List.set_cons_zero, List.set_cons_succ]
        refine takeH 16 10 (v := ?ve5) rfl rfl (by kernel_rfl) (by kernel_rfl) (by kernel_rfl) (fun _ _ _ h => h) (Or.inl ⟨by rfl, ?he5⟩) S6 ?re5
        case he5 => (intro w hSw; clear hSw; go_simp; (try with_reducible rfl))
        case re5 =>
        try simp only [Act.put, List.setIfInBounds_toArray, List.set_cons_zero, List.set_cons_succ]
        refine wpAnyH_done (by kernel_rfl) ?_ _
        have oD : Only (fun _ => False) wr w6 := (Only.refl _ wr).drew.trans o6 (fun _ _ e => e)
        have HF := hide (show OwnV w6 rv r ∧ (∀ k, rv.ownBlock = some k → w.heap.size ≤ k) ∧ CkI q w x op S t h g (g + 1) (.slice ca t.cols.length cc) w6 ∧ OwnE w6 (.slice (some ⟨rl, 0, none⟩) t.rows.length lc) (rowsL t.pk t.rows) from ⟨hv6, fun k hk => Nat.le_trans (unhide HI).1.on.size (nv6 k hk), (unhide HI).1.quiet oD, (unhide HI).2.keep oD (fun _ _ e => e)⟩)
        clear hv6 nv6 o6 oD S6 hH0 CR
        go_wp2_with fail
        go_meet
        exact ⟨rfl, unhide HF⟩
      case rest =>
      obtain ⟨rfl, hv7, nv7, I7, E7⟩ := hcut
      generalize wc = w7 at *
      obtain ⟨va7, vc7, hve7⟩ := hv7.shape
      subst hve7
      have a4 := I7.ha.cell 4
      simp [hdC] at a4
      rcases opt_or h.idx with hi | ⟨ib, hi⟩
      · skip
        rw [hi] at a4
        simp only [ixI] at a4
        have HF := hide (And.intro I7 E7)
        clear I7 E7 hv7 nv7 HI CR e0 e1 HSB hi
        go_wp2_with fail
        go_roundw
        case rel => exact ⟨n + 1, by go_num, by omega, (unhide HF).1, (unhide HF).2⟩
        case measure => simp [intOf]; omega
      · skip
        obtain ⟨c, hc1, hc2, hc3, hc4, hc5, hc6⟩ := (unhide HX).1.both (unhide HX).2.1 hi
        rw [hi] at a4
        simp only [ixI] at a4
        have bi : decide ((ib : Int) ≥ 0) = true := decide_eq_true (by omega)
        have bi' : decide (0 ≤ (ib : Int)) = true := decide_eq_true (by omega)
        have a1x := I7.ha.cell 1
        have a2x := I7.ha.cell 2
        simp [hdC] at a1x a2x
        rw [hc2] at a2x
        simp only [ixI] at a2x
        have HG := hide (show getS S (ib : Int) (idxK r c t.pk) = .tuple #[.string ⟨#[]⟩, .int .i64 0] from getS_some hc4 ((unhide HX).1.idx _ (unhide HX).2.1 c ib hc1 hi) ((idxL_srt _ _ _).get.mpr ((idxL_mem _ _ _ _).mpr ⟨r, (unhide HRO).2, rfl⟩)))
        have CX := eidxKey_any hv7 (by rw [(unhide HRO).1.len]; have := (unhide HX).2.2.2.1.n3; omega) (col := c) (pk := h.pk) (by rw [(unhide HRO).1.len]; exact hc3) (by rw [(unhide HRO).1.len, (unhide HX).2.2.1]; exact (unhide HX).2.2.2.1.pkn) (unhide HRO).1.2
        rw [show idxK r c h.pk = idxK r c t.pk from by rw [(unhide HX).2.2.1]] at CX
        have CX := hide CX
        have HI7 := hide (And.intro I7 E7)
        have HIB := hide hi
        clear hv7 nv7 I7 E7 HI CR e0 e1 HSB hi hc1 hc2 hc3 hc4 hc5 hc6
        go_wp2_with fail
        refine (unhide CX).mono ?_
        rintro e w8 ⟨rfl, o8⟩
        have I8 := (unhide HI7).1.quiet o8
        have E8 := (unhide HI7).2.keep o8 (fun _ _ e => e)
        have CG := eget_any (I8.st.quiet ((Only.refl _ w8).drew)) (ib : Int) (idxK r c t.pk)
        rw [unhide HG] at CG
        have CG := hide CG
        have xc := I8.st.c0
        have a4 := I8.ha.cell 4
        simp [hdC] at a4
        rw [unhide HIB] at a4
        simp only [ixI] at a4
        have HI8 := hide (And.intro I8 E8)
        generalize idxK r c t.pk = KX at *
        clear I8 E8 o8 CX HI7 a1x a2x
        go_upto_region 12 with fail
        go_cut [12, 13] (fun vv ev wx => vv = .string ⟨#[]⟩ ∧ ev = .int .i64 0 ∧ ST q wx x op S ∧ Only q.S w8 wx)
        case first =>
          go_region_with (go_at_call 168; refine (unhide CG).mono ?_; rintro e w9 ⟨rfl, st9, o9⟩; have HF := hide (And.intro st9 ((Only.refl q.S w8).drew.ss o9)); clear st9 o9)
          all_goals
            go_wp2_with fail
            go_meet
            exact ⟨rfl, rfl, unhide HF⟩
        case rest =>
        obtain ⟨rfl, rfl, st9, o9⟩ := hcut
        have I9 := (unhide HI8).1.go H0 st9 o9
        have E9 := (unhide HI8).2.keep o9 (unhide HVA).2
        have HF := hide (And.intro I9 E9)
        clear I9 E9 st9 o9 CG HI8 xc a4 bi bi'
        go_wp2_with fail
        go_roundw
        case rel => exact ⟨n + 1, by go_num, by omega, (unhide HF).1, (unhide HF).2⟩
        case measure => simp [intOf]; omega
    · obtain rfl : n = t.rows.length := by omega
      have a1 : decide ((t.rows.length : Int) < (t.rows.length : Int)) = false := by simp
      have a4 := I.ha.cell 4
      simp [hdC] at a4
      cases hi : h.idx with
      | none =>
        rw [hi] at a4
        simp only [ixI] at a4
        have HF := hide (And.intro I.st I.on)
        clear I E hi
        go_wp2_with fail
        go_ret
        exact ⟨rfl, unhide HF⟩
      | some ib =>
        obtain ⟨c, hc1, hc2, hc3, hc4, hc5, hc6⟩ := (unhide HX).1.both (unhide HX).2.1 hi
        have hlz : Lz S (ib : Int) = idxL t.pk c t.rows := Lz_nat hc4 ((unhide HX).1.idx _ (unhide HX).2.1 c ib hc1 hi)
        have hll : (idxL t.pk c t.rows).length = t.rows.length := by unfold idxL kvsOf; rw [List.length_map, idxR_len_eq (unhide HX).2.2.2.1.srt]
        rw [hi] at a4
        simp only [ixI] at a4
        have CA := eall_any I.st (ib : Int)
        rw [hlz] at CA
        have CA := hide CA
        have bn : decide ((ib : Int) < 0) = false := decide_eq_false (by omega)
        have HI := hide I
        have HLL := hide hll
        clear I E hi hc1 hc2 hc3 hc4 hc5 hc6 hlz hll
        go_wp2_with fail
        refine (unhide CA).mono ?_
        rintro e w5 ⟨va, rfl, hva, nva, st5, o5⟩
        obtain ⟨xa, xc, rfl⟩ : ∃ a c, va = .slice a t.rows.length c := by obtain ⟨a, c2, e⟩ := ownsRow_shape hva; exact ⟨a, c2, by rw [e]; show Value.slice a (idxL t.pk c t.rows).length c2 = _; rw [unhide HLL]⟩
        have HF := hide (And.intro st5 ((unhide HI).on.ss o5))
        clear hva nva st5 o5 CA HI
        go_wp2_with fail
        go_ret
        exact ⟨by first | rfl | simp, unhide HF⟩
end
end Go.Proofs.Qxb6500413aGreat
