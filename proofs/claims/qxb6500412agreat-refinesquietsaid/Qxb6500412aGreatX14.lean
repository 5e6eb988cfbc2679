/-
  OWN WORK. TXN: Scan (written by tools/gen_x14.py).
-/
import Derived.Test.Qxb6500412aGreatX13
namespace Go.Proofs.Qxb6500412aGreat
open Go.RowKit Go.PlainAid
set_option linter.unusedSimpArgs false
set_option linter.unusedVariables false

section
variable {q : Gnd} {w w' : World} {g x : Nat} {X : Xs} {op : Bool} {S : Vu} {T : List (Tb × Hd)}
/-- What Scan leaves. -/
inductive ScP (q : Gnd) (w : World) (g x : Nat) (X : Xs) (op : Bool) (S : Vu) (T : List (Tb × Hd)) (s : Int) (nm : ByteArray) (col : Int) (lb ub : Bnd) (e : Ending) (w' : World) : Prop where
  | no (z : Int) (he : e = .returned (.tuple #[.slice none 0 0, .int .i64 z])) (hz : TkE X T s nm 1 z) (hx : XR q w' g x X op S) (ho : Only (fun k => q.S k ∨ k = g) w w')
  | err (t : Tb) (hd : Hd) (i : Nat) (ht : (t, hd) ∈ T) (hn : t.nm = nm) (h0 : inTx X s = 0) (hi : TkI X s nm 1 i) (hz : (scnD (dbOf T) nm col lb ub).2 ≠ 0) (he : e = .returned (.tuple #[.slice none 0 0, .int .i64 (scnD (dbOf T) nm col lb ub).2])) (hx : XR q w' g x (X.tk i s.toNat nm 1) op S) (ho : Only (fun k => q.S k ∨ k = g) w w')
  | yes (t : Tb) (hd : Hd) (i : Nat) (ht : (t, hd) ∈ T) (hn : t.nm = nm) (h0 : inTx X s = 0) (hi : TkI X s nm 1 i) (hz : (scnD (dbOf T) nm col lb ub).2 = 0) (v : Value) (Z : List (Value × List Vl)) (he : e = .returned (.tuple #[v, .int .i64 0])) (hr : RL w.heap.size v Z w') (hq : Z.map (·.2) = mrgP (X.ws s.toNat) nm (t.pk : Int) col lb ub (scnD (dbOf T) nm col lb ub).1) (hx : XR q w' g x (X.tk i s.toNat nm 1) op S) (ho : Only (fun k => q.S k ∨ k = g) w w')
set_option maxRecDepth 100000 in
set_option maxHeartbeats 8000000 in
theorem xscan_any (H : XR q w g x X op S) (L : Lay S T) (hl : ∀ s, s < 4 → (X.ws s).length ≤ 100 ∧ ∀ c ∈ X.ws s, c.d.row.length ≤ 1000) (s : Int) (nm : ByteArray) (col : Int) (lh hh : Bool) (lv hv : Vl) (hlw : lv.wf) (hhw : hv.wf) : Calls Tryz.prog 248 #[.pointer (some ⟨g, 0, none⟩), .int .i64 s, .string nm, .int .i64 col, bdA lh lv, bdA hh hv] w (ScP q w g x X op S T s nm col (bndOf lh lv) (bndOf hh hv)) := by
  have o0 : Only (fun _ => False) w ((w.alloc (.cells #[.bool lh, .bool lv.str, .int .i64 lv.i, .string lv.s] 244)).alloc (.cells #[.bool hh, .bool hv.str, .int .i64 hv.i, .string hv.s] 244)) := ((Only.refl _ w).alloc _).alloc _
  have NL : Has ((w.alloc (.cells #[.bool lh, .bool lv.str, .int .i64 lv.i, .string lv.s] 244)).alloc (.cells #[.bool hh, .bool hv.str, .int .i64 hv.i, .string hv.s] 244)) w.heap.size #[.bool lh, .bool lv.str, .int .i64 lv.i, .string lv.s] 244 := (Has.new w _ _).alloc _
  have NH : Has ((w.alloc (.cells #[.bool lh, .bool lv.str, .int .i64 lv.i, .string lv.s] 244)).alloc (.cells #[.bool hh, .bool hv.str, .int .i64 hv.i, .string hv.s] 244)) (w.heap.size + 1) #[.bool hh, .bool hv.str, .int .i64 hv.i, .string hv.s] 244 := Has.new' _ _ _ _ (by simp)
  have HX := hide (H.quiet o0)
  have C1 := hide (xtake_any (H.quiet o0) L s nm 1)
  have HSn := hide (show ∀ k, w.heap.size ≤ k → ¬ q.S k from fun k hk => H.st.new hk)
  have HNG := hide (show ¬ q.S g from fun h => (H.off g (.inl rfl)).1 (Gnd.S_A h))
  have hgw : g < w.heap.size := H.xm.has.lt
  have HO := hide o0
  have HNL := hide NL
  have HNH := hide NH
  unfold bdA
  clear H o0 NL NH
  go_enter Tryz.func248, Tryz.ntmps248
  go_upto_region 1 with fail
  generalize ((w.alloc (.cells #[.bool lh, .bool lv.str, .int .i64 lv.i, .string lv.s] 244)).alloc (.cells #[.bool hh, .bool hv.str, .int .i64 hv.i, .string hv.s] 244)) = w0 at *
  have s0 := (unhide HO).size
  generalize hkL : w.heap.size = kL at *
  go_wp2_with fail
  refine (unhide C1).mono ?_
  rintro e w2 hT
  have hB : ∀ k, kL ≤ k → ¬ (q.S k ∨ k = g) := fun k hk c => c.elim (unhide HSn k (by omega)) (fun e => by omega)
  rcases hT with ⟨z, rfl, hz, hx, ho⟩ | ⟨t, hd, cv, i, ht, rfl, h0, rfl, hcv, hnew, hi, hx, ho⟩
  · unfold schZ
    have z0 : (z != 0) = true := by simpa using hz.1
    have FF := hide (show ∀ o : Obj, ScP q w g x X op S T s nm col (bndOf lh lv) (bndOf hh hv) (.returned (.tuple #[.slice none 0 0, .int .i64 z])) (w2.alloc o) from fun o => .no z rfl hz (hx.quiet ((Only.refl _ w2).alloc o)) ((((unhide HO).mono (T := fun k => q.S k ∨ k = g) (fun _ _ h => h.elim)).trans ho (fun _ _ h => .inl h)).trans (((Only.refl (fun _ => False) w2).alloc o).mono (T := fun k => q.S k ∨ k = g) (fun _ _ h => h.elim)) (fun _ _ h => h)))
    clear hz hx ho C1
    go_wp2_with fail
    go_ret2
    exact unhide FF _
  · obtain ⟨ca, cc, rfl⟩ := hcv.shape
    obtain ⟨hgs, _⟩ := inTx_ok h0
    obtain ⟨n, rfl⟩ : ∃ n : Nat, s = n := ⟨s.toNat, by have := hgs.1; omega⟩
    have hn4 : n < 4 := by have := hgs.2; omega
    have s2 := ho.size
    generalize t.cols.length = cn at *
    unfold scC
    have o3 : Only (fun _ => False) w2 (w2.alloc (.cells #[.string t.nm, .slice ca cn cc, .int .i64 (t.pk : Int), .int .i64 (ixI t.ix)] 79)) := (Only.refl _ w2).alloc _
    have HX3 := hide (hx.quiet o3)
    have HD3 := hide (Has.new w2 #[.string t.nm, .slice ca cn cc, .int .i64 (t.pk : Int), .int .i64 (ixI t.ix)] 79)
    have HNL3 := hide (((unhide HNL).keep ho (hB kL (by omega))).keep o3 (fun h => h))
    have HNH3 := hide (((unhide HNH).keep ho (hB (kL + 1) (by omega))).keep o3 (fun h => h))
    have HO3 := hide ((((unhide HO).mono (T := fun k => q.S k ∨ k = g) (fun _ _ h => h.elim)).trans ho (fun _ _ h => h)).trans (o3.mono (T := fun k => q.S k ∨ k = g) (fun _ _ h => h.elim)) (fun _ _ h => h))
    have Hfd := hide (And.intro ht (And.intro h0 hi))
    obtain ⟨rows, hrows⟩ : ∃ r, (scnD (dbOf T) t.nm col (bndOf lh lv) (bndOf hh hv)).1 = r := ⟨_, rfl⟩
    obtain ⟨zz, hzz⟩ : ∃ r, (scnD (dbOf T) t.nm col (bndOf lh lv) (bndOf hh hv)).2 = r := ⟨_, rfl⟩
    have Hr8 := hide (show rows.length ≤ 8 by rw [← hrows]; exact scnD_len L _ _ _ _)
    have HRw := hide (And.intro hrows hzz)
    have CS := escan_any ((unhide HX3).st.quiet ((Only.refl (fun _ => False) _).drew)) L t.nm col lh hh lv hv hlw hhw
    rw [hrows, hzz] at CS
    unfold bdA at CS
    have CS := hide CS
    have htw := Xs.tk_w X i (n : Int).toNat t.nm 1
    have Htw := hide htw
    clear C1 hx ho o3 hcv hnew hrows hzz ht h0 hi hgs htw HX
    go_upto_region 2 with fail
    generalize w2.alloc (.cells #[.string t.nm, .slice ca cn cc, .int .i64 (t.pk : Int), .int .i64 (ixI t.ix)] 79) = w3 at *
    generalize hkd : w2.heap.size = kd at *
    have hd3 := (unhide HD3).lt
    have c0 := (unhide HX3).xm.has.c0
    have gl := (unhide HX3).xm.has.lt
    have l0 : w3.cell? ⟨kL, 0, none⟩ = some (.bool lh) := (unhide HNL3).cell 0
    have l1 : w3.cell? ⟨kL, 1, none⟩ = some (.bool lv.str) := (unhide HNL3).cell 1
    have l2 : w3.cell? ⟨kL, 2, none⟩ = some (.int .i64 lv.i) := (unhide HNL3).cell 2
    have l3 : w3.cell? ⟨kL, 3, none⟩ = some (.string lv.s) := (unhide HNL3).cell 3
    have r0 : w3.cell? ⟨kL + 1, 0, none⟩ = some (.bool hh) := (unhide HNH3).cell 0
    have r1 : w3.cell? ⟨kL + 1, 1, none⟩ = some (.bool hv.str) := (unhide HNH3).cell 1
    have r2 : w3.cell? ⟨kL + 1, 2, none⟩ = some (.int .i64 hv.i) := (unhide HNH3).cell 2
    have r3 : w3.cell? ⟨kL + 1, 3, none⟩ = some (.string hv.s) := (unhide HNH3).cell 3
    go_upto_region 4 with fail
    go_cut [15, 16] from 28 to 38 (fun zv uv wx => zv = .int .i64 zz ∧ OwnRR w3.heap.size wx uv rows ∧ ST q wx x op S ∧ Only q.S w3 wx)
    case first =>
      refine wp_region_held_drew (S := (fun w' => w'.cell? ⟨g, 0, none⟩ = some (.pointer (some ⟨x, 0, none⟩)) ∧ w'.cell? ⟨kL, 0, none⟩ = some (.bool lh) ∧ w'.cell? ⟨kL, 1, none⟩ = some (.bool lv.str) ∧ w'.cell? ⟨kL, 2, none⟩ = some (.int .i64 lv.i) ∧ w'.cell? ⟨kL, 3, none⟩ = some (.string lv.s) ∧ w'.cell? ⟨kL + 1, 0, none⟩ = some (.bool hh) ∧ w'.cell? ⟨kL + 1, 1, none⟩ = some (.bool hv.str) ∧ w'.cell? ⟨kL + 1, 2, none⟩ = some (.int .i64 hv.i) ∧ w'.cell? ⟨kL + 1, 3, none⟩ = some (.string hv.s))) (by kernel_rfl) ⟨c0, l0, l1, l2, l3, r0, r1, r2, r3⟩ (fun hH0 => ?_)
      refine takeH 0 28 (v := ?va1) rfl rfl (by kernel_rfl) (by kernel_rfl) (by kernel_rfl) (fun _ _ _ h => h) (Or.inl ⟨by rfl, ?ha1⟩) hH0 ?ra1
      case ha1 => (intro w hSw; clear hSw; go_simp; (try with_reducible rfl))
      case ra1 =>
      try simp only [Act.put, List.setIfInBounds_toArray, List.set_cons_zero, List.set_cons_succ]
      refine takeH 1 29 (v := ?va2) rfl rfl (by kernel_rfl) (by kernel_rfl) (by kernel_rfl) (fun _ _ _ h => h) (Or.inl ⟨by rfl, ?ha2⟩) hH0 ?ra2
      case ha2 => (intro w hSw; clear hSw; go_simp; (try with_reducible rfl))
      case ra2 =>
      try simp only [Act.put, List.setIfInBounds_toArray, List.set_cons_zero, List.set_cons_succ]
      refine takeH 2 30 (v := ?va3) rfl rfl (by kernel_rfl) (by kernel_rfl) (by kernel_rfl) (fun _ _ _ h => h) (Or.inl ⟨by rfl, ?ha3⟩) hH0 ?ra3
      case ha3 => (intro w hSw; clear hSw; go_simp; (try with_reducible rfl))
      case ra3 =>
      try simp only [Act.put, List.setIfInBounds_toArray, List.set_cons_zero, List.set_cons_succ]
      refine takeH 3 31 (v := ?va4) rfl rfl (by kernel_rfl) (by kernel_rfl) (by kernel_rfl) (fun _ _ _ h => h) (Or.inl ⟨by rfl, ?ha4⟩) hH0 ?ra4
      case ha4 => (intro w hSw; obtain ⟨s0, s1, s2, s3, s4, s5, s6, s7, s8⟩ := hSw; go_simp; (try with_reducible rfl))
      case ra4 =>
      try simp only [Act.put, List.setIfInBounds_toArray, List.set_cons_zero, List.set_cons_succ]
      refine takeH 4 32 (v := ?va5) rfl rfl (by kernel_rfl) (by kernel_rfl) (by kernel_rfl) (fun _ _ _ h => h) (Or.inl ⟨by rfl, ?ha5⟩) hH0 ?ra5
      case ha5 => (intro w hSw; clear hSw; go_simp; (try with_reducible rfl))
      case ra5 =>
      try simp only [Act.put, List.setIfInBounds_toArray, List.set_cons_zero, List.set_cons_succ]
      refine takeH 5 33 (v := ?va6) rfl rfl (by kernel_rfl) (by kernel_rfl) (by kernel_rfl) (fun _ _ _ h => h) (Or.inl ⟨by rfl, ?ha6⟩) hH0 ?ra6
      case ha6 => (intro w hSw; clear hSw; go_simp; (try with_reducible rfl))
      case ra6 =>
      try simp only [Act.put, List.setIfInBounds_toArray, List.set_cons_zero, List.set_cons_succ]
      refine takeH 6 34 (v := ?va7) rfl rfl (by kernel_rfl) (by kernel_rfl) (by kernel_rfl) (fun _ _ _ h => h) (Or.inl ⟨by rfl, ?ha7⟩) hH0 ?ra7
      case ha7 => (intro w hSw; obtain ⟨s0, s1, s2, s3, s4, s5, s6, s7, s8⟩ := hSw; go_simp; (try with_reducible rfl))
      case ra7 =>
      try simp only [Act.put, List.setIfInBounds_toArray, List.set_cons_zero, List.set_cons_succ]
      refine takeH 7 35 (v := ?va8) rfl rfl (by kernel_rfl) (by kernel_rfl) (by kernel_rfl) (fun _ _ _ h => h) (Or.inl ⟨by rfl, ?ha8⟩) hH0 ?ra8
      case ha8 => (intro w hSw; obtain ⟨s0, s1, s2, s3, s4, s5, s6, s7, s8⟩ := hSw; go_simp; (try with_reducible rfl))
      case ra8 =>
      try simp only [Act.put, List.setIfInBounds_toArray, List.set_cons_zero, List.set_cons_succ]
      refine callH 8 (by kernel_rfl) rfl 36 rfl rfl 175 Tryz.func175 (by kernel_rfl) (by kernel_rfl) #[.tmp 31, .tmp 32, .tmp 33, .tmp 34, .tmp 35] #[67, 9, 3, 244, 244] rfl #[.pointer (some ⟨x, 0, none⟩), .string t.nm, .int .i64 col, .agg #[.bool lh, .bool lv.str, .int .i64 lv.i, .string lv.s], .agg #[.bool hh, .bool hv.str, .int .i64 hv.i, .string hv.s]] (by simp [Act.eval]) (R := fun v w' => ∃ u, v = .tuple #[u, .int .i64 zz] ∧ OwnRR w3.heap.size w' u rows ∧ ST q w' x op S ∧ Only q.S w3.drew w') ((unhide CS).mono (by rintro en w' ⟨u, rfl, hO, hs, o⟩; exact ⟨_, rfl, u, rfl, hO, hs, o⟩)) ?ka
      case ka =>
      rintro _ w6 ⟨u, rfl, hO, hs, oq⟩
      have S6 : w6.cell? ⟨g, 0, none⟩ = some (.pointer (some ⟨x, 0, none⟩)) ∧ w6.cell? ⟨kL, 0, none⟩ = some (.bool lh) ∧ w6.cell? ⟨kL, 1, none⟩ = some (.bool lv.str) ∧ w6.cell? ⟨kL, 2, none⟩ = some (.int .i64 lv.i) ∧ w6.cell? ⟨kL, 3, none⟩ = some (.string lv.s) ∧ w6.cell? ⟨kL + 1, 0, none⟩ = some (.bool hh) ∧ w6.cell? ⟨kL + 1, 1, none⟩ = some (.bool hv.str) ∧ w6.cell? ⟨kL + 1, 2, none⟩ = some (.int .i64 hv.i) ∧ w6.cell? ⟨kL + 1, 3, none⟩ = some (.string hv.s) := ⟨cell_keepX (hH0.1) oq (unhide HNG), cell_keepX (hH0.2.1) oq (unhide HSn kL (by omega)), cell_keepX (hH0.2.2.1) oq (unhide HSn kL (by omega)), cell_keepX (hH0.2.2.2.1) oq (unhide HSn kL (by omega)), cell_keepX (hH0.2.2.2.2.1) oq (unhide HSn kL (by omega)), cell_keepX (hH0.2.2.2.2.2.1) oq (unhide HSn (kL + 1) (by omega)), cell_keepX (hH0.2.2.2.2.2.2.1) oq (unhide HSn (kL + 1) (by omega)), cell_keepX (hH0.2.2.2.2.2.2.2.1) oq (unhide HSn (kL + 1) (by omega)), cell_keepX (hH0.2.2.2.2.2.2.2.2) oq (unhide HSn (kL + 1) (by omega))⟩
      refine ⟨S6, ?_⟩
      try simp only [Act.put, List.setIfInBounds_toArray, List.set_cons_zero, List.set_cons_succ]
      refine takeH 9 27 (v := ?va9) rfl rfl (by kernel_rfl) (by kernel_rfl) (by kernel_rfl) (fun _ _ _ h => h) (Or.inl ⟨by rfl, ?ha9⟩) S6 ?ra9
      case ha9 => (intro w hSw; clear hSw; go_simp; (try with_reducible rfl))
      case ra9 =>
      try simp only [Act.put, List.setIfInBounds_toArray, List.set_cons_zero, List.set_cons_succ]
      refine takeH 10 37 (v := ?va10) rfl rfl (by kernel_rfl) (by kernel_rfl) (by kernel_rfl) (fun _ _ _ h => h) (Or.inl ⟨by rfl, ?ha10⟩) S6 ?ra10
      case ha10 => (intro w hSw; clear hSw; go_simp; (try with_reducible rfl))
      case ra10 =>
      try simp only [Act.put, List.setIfInBounds_toArray, List.set_cons_zero, List.set_cons_succ]
      refine takeH 11 38 (v := ?va11) rfl rfl (by kernel_rfl) (by kernel_rfl) (by kernel_rfl) (fun _ _ _ h => h) (Or.inl ⟨by rfl, ?ha11⟩) S6 ?ra11
      case ha11 => (intro w hSw; clear hSw; go_simp; (try with_reducible rfl))
      case ra11 =>
      try simp only [Act.put, List.setIfInBounds_toArray, List.set_cons_zero, List.set_cons_succ]
      refine takeH 12 16 (v := ?va12) rfl rfl (by kernel_rfl) (by kernel_rfl) (by kernel_rfl) (fun _ _ _ h => h) (Or.inl ⟨by rfl, ?ha12⟩) S6 ?ra12
      case ha12 => (intro w hSw; clear hSw; go_simp; (try with_reducible rfl))
      case ra12 =>
      try simp only [Act.put, List.setIfInBounds_toArray, List.set_cons_zero, List.set_cons_succ]
      refine takeH 13 15 (v := ?va13) rfl rfl (by kernel_rfl) (by kernel_rfl) (by kernel_rfl) (fun _ _ _ h => h) (Or.inl ⟨by rfl, ?ha13⟩) S6 ?ra13
      case ha13 => (intro w hSw; clear hSw; go_simp; (try with_reducible rfl))
      case ra13 =>
      try simp only [Act.put, List.setIfInBounds_toArray, List.set_cons_zero, List.set_cons_succ]
      refine wpAnyH_done (by kernel_rfl) ?_ _
      have HF := hide (And.intro hO (And.intro hs ((((Only.refl (fun _ => False) w3).drew).mono (fun _ _ e => e.elim)).trans oq (fun _ _ e => e) : Only q.S w3 w6)))
      clear hH0 S6 oq
      clear hO hs
      go_wp2_with fail
      go_meet
      exact ⟨rfl, (unhide HF).1, (unhide HF).2.1, (unhide HF).2.2⟩
    case rest =>
    obtain ⟨rfl, hO, hst, oS⟩ := hcut
    generalize wc = w6 at *
    have sS := oS.size
    have H6 := (unhide HX3).turn hst oS
    have oF := (unhide HO3).trans (oS.mono (T := fun k => q.S k ∨ k = g) (fun _ _ h => .inl h)) (fun _ _ h => h)
    obtain ⟨Zr, hR, hZr⟩ := hO.rl (by have := unhide Hr8; omega)
    obtain ⟨ra, rc, hrv⟩ := ownsRow_shape hR.own
    clear CS c0 hO hst l0 l1 l2 l3 r0 r1 r2 r3
    by_cases hz0 : zz = 0
    · subst hz0
      have hZl : Zr.length ≤ 100 := by
        have := congrArg List.length hZr
        rw [List.length_map] at this
        have := unhide Hr8
        omega
      have hls := hl n hn4
      have CM := xmerge_any H6.xm hn4 (by rw [(unhide Htw).2.1]; exact hls.1) (by rw [(unhide Htw).2.1]; exact hls.2) t.nm ca cn cc (t.pk : Int) (ixI t.ix) col hR sS hZl lh hh lv hv
      rw [hZr, ← (unhide HRw).1, (unhide Htw).2.1] at CM
      unfold bdA at CM
      have CM := hide CM
      have ND := (unhide HD3).keep oS (unhide HSn kd (by omega))
      have m0 : w6.cell? ⟨kd, 0, none⟩ = some (.string t.nm) := ND.cell 0
      have m1 : w6.cell? ⟨kd, 1, none⟩ = some (.slice ca cn cc) := ND.cell 1
      have m2 : w6.cell? ⟨kd, 2, none⟩ = some (.int .i64 (t.pk : Int)) := ND.cell 2
      have m3 : w6.cell? ⟨kd, 3, none⟩ = some (.int .i64 (ixI t.ix)) := ND.cell 3
      have HNL6 := hide ((unhide HNL3).keep oS (unhide HSn kL (by omega)))
      have HNH6 := hide ((unhide HNH3).keep oS (unhide HSn (kL + 1) (by omega)))
      have l0 : w6.cell? ⟨kL, 0, none⟩ = some (.bool lh) := (unhide HNL6).cell 0
      have l1 : w6.cell? ⟨kL, 1, none⟩ = some (.bool lv.str) := (unhide HNL6).cell 1
      have l2 : w6.cell? ⟨kL, 2, none⟩ = some (.int .i64 lv.i) := (unhide HNL6).cell 2
      have l3 : w6.cell? ⟨kL, 3, none⟩ = some (.string lv.s) := (unhide HNL6).cell 3
      have r0 : w6.cell? ⟨kL + 1, 0, none⟩ = some (.bool hh) := (unhide HNH6).cell 0
      have r1 : w6.cell? ⟨kL + 1, 1, none⟩ = some (.bool hv.str) := (unhide HNH6).cell 1
      have r2 : w6.cell? ⟨kL + 1, 2, none⟩ = some (.int .i64 hv.i) := (unhide HNH6).cell 2
      have r3 : w6.cell? ⟨kL + 1, 3, none⟩ = some (.string hv.s) := (unhide HNH6).cell 3
      have HX6 := hide H6
      have HOS := hide oF
      clear ND H6 hR hZr oS oF hrv
      go_wp2_with fail
      refine (unhide CM).mono ?_
      rintro e w7 ⟨v, Z, rfl, G, hrow, hZ, hAp⟩
      have FF := hide (show ScP q w g x X op S T n t.nm col (bndOf lh lv) (bndOf hh hv) (.returned (.tuple #[v, .int .i64 0])) w7 from .yes t hd i (unhide Hfd).1 rfl (unhide Hfd).2.1 (unhide Hfd).2.2 (unhide HRw).2 v Z rfl ⟨G.own, fun z hz => ⟨(hrow z hz).1, fun k hk => by have := (hrow z hz).2 k hk; omega⟩, fun k hk => by have := G.hb k hk; omega, hAp⟩ hZ ((unhide HX6).quiet G.ho) ((unhide HOS).trans (G.ho.mono (T := fun k => q.S k ∨ k = g) (fun _ _ h => h.elim)) (fun _ _ h => h)))
      clear CM G hrow hZ hAp m0 m1 m2 m3 l0 l1 l2 l3 r0 r1 r2 r3
      go_wp2_with fail
      go_ret2
      exact unhide FF
    · have e0 : (zz != 0) = true := by simpa using hz0
      have FF := hide (show ScP q w g x X op S T n t.nm col (bndOf lh lv) (bndOf hh hv) (.returned (.tuple #[.slice none 0 0, .int .i64 zz])) w6 from by
        rw [← (unhide HRw).2] at hz0 ⊢
        exact .err t hd i (unhide Hfd).1 rfl (unhide Hfd).2.1 (unhide Hfd).2.2 hz0 rfl H6 oF)
      clear H6 oF hR hZr oS hz0
      go_wp2_with fail
      go_ret2
      exact unhide FF
end
end Go.Proofs.Qxb6500412aGreat
