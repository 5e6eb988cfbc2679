/-
  OWN WORK. TXN: View (written by tools/gen_x13.py).
-/
import Derived.Test.Qxb6500412aGreatX12
namespace Go.Proofs.Qxb6500412aGreat
open Go.RowKit Go.PlainAid
set_option linter.unusedSimpArgs false
set_option linter.unusedVariables false

theorem OwnRR.rl {lo : Nat} {w : World} {v : Value} {rows : List (List Vl)} (h : OwnRR lo w v rows) (h1000 : rows.length ≤ 1000) : ∃ Z, RL lo v Z w ∧ Z.map (·.2) = rows := by
  rcases h with ⟨rfl, rfl⟩ | ⟨g, rfl, hI⟩
  · exact ⟨[], ⟨World.ownsRow_nil _ _ _ _, fun z hz => by simp at hz, fun k hk => by simp [Value.ownBlock] at hk, List.Pairwise.nil⟩, rfl⟩
  · obtain ⟨cur, h1, h2, h3, h4⟩ := hI.has
    have hl : cur.toList.length = rows.length := by rw [← h1]; simp
    refine ⟨cur.toList.zip rows, ⟨?_, fun z hz => ?_, fun k hk => ?_, ?_⟩, ?_⟩
    · have e1 : (cur.toList.zip rows).map (·.1) = cur.toList := by
        rw [List.map_fst_zip (by omega)]
      have e2 : (cur.toList.zip rows).length = rows.length := by rw [List.length_zip]; omega
      rw [e1, e2]
      exact ⟨by rw [hl]; omega, .inr ⟨g, rows.length, cur, rfl, Nat.zero_le _, h2, Nat.le_refl _, by unfold maxLen; omega, by omega, by rw [List.take_of_length_le (by omega)]⟩⟩
    · obtain ⟨j, hj⟩ := List.getElem?_of_mem hz
      rw [List.getElem?_zip_eq_some] at hj
      obtain ⟨a, b⟩ := hj
      obtain ⟨u, hu, ho, hk⟩ := h3 j z.2 (List.getElem?_eq_some_iff.mp b).1 b
      have : u = z.1 := by
        rw [← Array.getElem?_toList] at hu
        rw [hu] at a
        exact Option.some.inj a
      subst this
      exact ⟨ho, hk⟩
    · simp [Value.ownBlock] at hk
      subst hk
      exact hI.gl
    · unfold ApZ
      rw [List.pairwise_iff_getElem]
      intro a b ha hb hab k h1 h2
      have ha' : a < cur.toList.length := by rw [List.length_zip] at ha; omega
      have hb' : b < cur.toList.length := by rw [List.length_zip] at hb; omega
      rw [List.getElem_zip] at h1 h2
      refine h4 a b cur.toList[a] cur.toList[b] k hab (by omega) ?_ ?_ h1 h2
      · rw [← Array.getElem?_toList]; exact List.getElem?_eq_getElem ha'
      · rw [← Array.getElem?_toList]; exact List.getElem?_eq_getElem hb'
    · rw [List.map_snd_zip (by omega)]
section
variable {q : Gnd} {w w' : World} {g x : Nat} {X : Xs} {op : Bool} {S : Vu} {T : List (Tb × Hd)}
/-- What View leaves. -/
inductive VwP (q : Gnd) (w : World) (g x : Nat) (X : Xs) (op : Bool) (S : Vu) (T : List (Tb × Hd)) (s : Int) (nm : ByteArray) (e : Ending) (w' : World) : Prop where
  | bad (hs : ¬ gdS s) (he : e = .returned (.tuple #[.slice none 0 0, .int .i64 20])) (hx : XR q w' g x X op S) (ho : Only q.S w w')
  | no (hs : gdS s) (hf : findD (dbOf T) nm = none) (he : e = .returned (.tuple #[.slice none 0 0, .int .i64 10])) (hx : XR q w' g x X op S) (ho : Only q.S w w')
  | yes (hs : gdS s) (t : Tb) (hf : findD (dbOf T) nm = some t) (v : Value) (Z : List (Value × List Vl)) (he : e = .returned (.tuple #[v, .int .i64 0])) (hr : RL w.heap.size v Z w') (hz : Z.map (·.2) = mrgP (X.ws s.toNat) nm (t.pk : Int) (t.pk : Int) none none (scnD (dbOf T) nm (t.pk : Int) none none).1) (hx : XR q w' g x X op S) (ho : Only q.S w w')
set_option maxRecDepth 100000 in
set_option maxHeartbeats 4000000 in
theorem xview_any (H : XR q w g x X op S) (L : Lay S T) (hl : ∀ s, s < 4 → (X.ws s).length ≤ 100 ∧ ∀ c ∈ X.ws s, c.d.row.length ≤ 1000) (s : Int) (nm : ByteArray) : Calls Tryz.prog 114 #[.pointer (some ⟨g, 0, none⟩), .int .i64 s, .string nm] w (VwP q w g x X op S T s nm) := by
  have C1 := xgood_any s w
  have HX := hide H
  by_cases hs : gdS s
  · rw [decide_eq_true hs] at C1
    have C1 := hide C1
    have Hgd := hide hs
    obtain ⟨n, rfl⟩ : ∃ n : Nat, s = n := ⟨s.toNat, by have := hs.1; omega⟩
    have hn : n < 4 := by have := hs.2; omega
    have c0 := H.xm.has.c0
    have gl := H.xm.has.lt
    have HNG := hide (show ¬ q.S g from fun h => (H.off g (.inl rfl)).1 (Gnd.S_A h))
    have HSn := hide (show ∀ k, w.heap.size ≤ k → ¬ q.S k from fun k hk => H.st.new hk)
    clear hs
    cases hf : findD (dbOf T) nm with
    | none =>
      have C2 := eschemaOf_no H.st L (find_none hf)
      unfold scN at C2
      have C2 := hide C2
      have HF := hide hf
      clear H hf
      go_enter Tryz.func114, Tryz.ntmps114
      go_wp2_with fail
      refine (unhide C1).mono ?_
      rintro e w1 ⟨rfl, rfl⟩
      go_wp2_with fail
      refine (unhide C2).mono ?_
      rintro e w2 ⟨rfl, h2, o2⟩
      have FF := hide (show ∀ o : Obj, VwP q w g x X op S T n nm (.returned (.tuple #[.slice none 0 0, .int .i64 10])) (w2.alloc o) from fun o => .no (unhide Hgd) (unhide HF) rfl (((unhide HX).turn h2 o2).quiet ((Only.refl _ w2).alloc o)) (o2.trans (((Only.refl (fun _ => False) w2).alloc o).mono (T := q.S) (fun _ _ h => h.elim)) (fun _ _ h => h)))
      clear C1 C2 h2 o2 c0 gl
      go_wp2_with fail
      go_ret2
      exact unhide FF _
    | some t =>
      obtain ⟨hd, ht, hnm⟩ := find_some hf
      subst hnm
      have C2 := eschemaOf_yes H.st L ht
      unfold scC at C2
      have C2 := hide C2
      have Hfd := hide hf
      have HF0 := hide ht
      clear H hf ht
      go_enter Tryz.func114, Tryz.ntmps114
      go_wp2_with fail
      refine (unhide C1).mono ?_
      rintro e w1 ⟨rfl, rfl⟩
      go_wp2_with fail
      refine (unhide C2).mono ?_
      rintro e w2 ⟨cv, rfl, hcv, hnew, h2, o2⟩
      obtain ⟨ca, cc, rfl⟩ := hcv.shape
      generalize t.cols.length = cn at *
      have s2 := o2.size
      have o3 : Only (fun _ => False) w2 (w2.alloc (.cells #[.string t.nm, .slice ca cn cc, .int .i64 (t.pk : Int), .int .i64 (ixI t.ix)] 79)) := (Only.refl _ w2).alloc _
      have HX3 := hide (((unhide HX).turn h2 o2).quiet o3)
      have HD3 := hide (Has.new w2 #[.string t.nm, .slice ca cn cc, .int .i64 (t.pk : Int), .int .i64 (ixI t.ix)] 79)
      have HO3 := hide (o2.trans (o3.mono (T := q.S) (fun _ _ h => h.elim)) (fun _ _ h => h))
      have hd3 := (unhide HD3).lt
      obtain ⟨rows, hrows⟩ : ∃ r, (scnD (dbOf T) t.nm (t.pk : Int) none none).1 = r := ⟨_, rfl⟩
      have Hr8 := hide (show rows.length ≤ 8 by rw [← hrows]; exact scnD_len L _ _ _ _)
      have HRw := hide hrows
      have CS := escan_any ((unhide HX3).st.quiet ((Only.refl (fun _ => False) _).drew)) L t.nm (t.pk : Int) false false (vI 0) (vI 0) (.inl ⟨rfl, rfl, by unfold In64 vI; simp⟩) (.inl ⟨rfl, rfl, by unfold In64 vI; simp⟩)
      have e0 : bndOf false (vI 0) = none := rfl
      rw [e0, hrows] at CS
      unfold bdA vI at CS
      have CS := hide CS
      clear C1 C2 h2 o2 o3 c0 gl hcv hnew hrows e0
      go_upto_region 4 with fail
      generalize w2.alloc (.cells #[.string t.nm, .slice ca cn cc, .int .i64 (t.pk : Int), .int .i64 (ixI t.ix)] 79) = w3 at *
      generalize hkd : w2.heap.size = kd at *
      have HNK := hide (unhide HSn kd (by omega))
      have c0 := (unhide HX3).xm.has.c0
      have gl := (unhide HX3).xm.has.lt
      have k2 : w3.cell? ⟨kd, 2, none⟩ = some (.int .i64 (t.pk : Int)) := (unhide HD3).cell 2
      go_upto_region 6 with fail
      refine wp_region_held_drew (S := (fun w' => w'.cell? ⟨g, 0, none⟩ = some (.pointer (some ⟨x, 0, none⟩)) ∧ w'.cell? ⟨kd, 2, none⟩ = some (.int .i64 (t.pk : Int)))) (by kernel_rfl) ⟨c0, k2⟩ (fun hH0 => ?_)
      refine takeH 0 27 (v := ?va1) rfl rfl (by kernel_rfl) (by kernel_rfl) (by kernel_rfl) (fun _ _ _ h => h) (Or.inl ⟨by rfl, ?ha1⟩) hH0 ?ra1
      case ha1 => (intro w hSw; clear hSw; go_simp; (try with_reducible rfl))
      case ra1 =>
      try simp only [Act.put, List.setIfInBounds_toArray, List.set_cons_zero, List.set_cons_succ]
      refine takeH 1 28 (v := ?va2) rfl rfl (by kernel_rfl) (by kernel_rfl) (by kernel_rfl) (fun _ _ _ h => h) (Or.inl ⟨by rfl, ?ha2⟩) hH0 ?ra2
      case ha2 => (intro w hSw; clear hSw; go_simp; (try with_reducible rfl))
      case ra2 =>
      try simp only [Act.put, List.setIfInBounds_toArray, List.set_cons_zero, List.set_cons_succ]
      refine takeH 2 29 (v := ?va3) rfl rfl (by kernel_rfl) (by kernel_rfl) (by kernel_rfl) (fun _ _ _ h => h) (Or.inl ⟨by rfl, ?ha3⟩) hH0 ?ra3
      case ha3 => (intro w hSw; clear hSw; go_simp; (try with_reducible rfl))
      case ra3 =>
      try simp only [Act.put, List.setIfInBounds_toArray, List.set_cons_zero, List.set_cons_succ]
      refine takeH 3 30 (v := ?va4) rfl rfl (by kernel_rfl) (by kernel_rfl) (by kernel_rfl) (fun _ _ _ h => h) (Or.inl ⟨by rfl, ?ha4⟩) hH0 ?ra4
      case ha4 => (intro w hSw; obtain ⟨s0, s1⟩ := hSw; go_simp; (try with_reducible rfl))
      case ra4 =>
      try simp only [Act.put, List.setIfInBounds_toArray, List.set_cons_zero, List.set_cons_succ]
      refine takeH 4 31 (v := ?va5) rfl rfl (by kernel_rfl) (by kernel_rfl) (by kernel_rfl) (fun _ _ _ h => h) (Or.inl ⟨by rfl, ?ha5⟩) hH0 ?ra5
      case ha5 => (intro w hSw; clear hSw; go_simp; (try with_reducible rfl))
      case ra5 =>
      try simp only [Act.put, List.setIfInBounds_toArray, List.set_cons_zero, List.set_cons_succ]
      refine takeH 5 32 (v := ?va6) rfl rfl (by kernel_rfl) (by kernel_rfl) (by kernel_rfl) (fun _ _ _ h => h) (Or.inl ⟨by rfl, ?ha6⟩) hH0 ?ra6
      case ha6 => (intro w hSw; clear hSw; go_simp; (try with_reducible rfl))
      case ra6 =>
      try simp only [Act.put, List.setIfInBounds_toArray, List.set_cons_zero, List.set_cons_succ]
      refine takeH 6 33 (v := ?va7) rfl rfl (by kernel_rfl) (by kernel_rfl) (by kernel_rfl) (fun _ _ _ h => h) (Or.inl ⟨by rfl, ?ha7⟩) hH0 ?ra7
      case ha7 => (intro w hSw; obtain ⟨s0, s1⟩ := hSw; go_simp; (try with_reducible rfl))
      case ra7 =>
      try simp only [Act.put, List.setIfInBounds_toArray, List.set_cons_zero, List.set_cons_succ]
      refine takeH 7 34 (v := ?va8) rfl rfl (by kernel_rfl) (by kernel_rfl) (by kernel_rfl) (fun _ _ _ h => h) (Or.inl ⟨by rfl, ?ha8⟩) hH0 ?ra8
      case ha8 => (intro w hSw; clear hSw; go_simp; (try with_reducible rfl))
      case ra8 =>
      try simp only [Act.put, List.setIfInBounds_toArray, List.set_cons_zero, List.set_cons_succ]
      refine takeH 8 35 (v := ?va9) rfl rfl (by kernel_rfl) (by kernel_rfl) (by kernel_rfl) (fun _ _ _ h => h) (Or.inl ⟨by rfl, ?ha9⟩) hH0 ?ra9
      case ha9 => (intro w hSw; clear hSw; go_simp; (try with_reducible rfl))
      case ra9 =>
      try simp only [Act.put, List.setIfInBounds_toArray, List.set_cons_zero, List.set_cons_succ]
      refine callH 9 (by kernel_rfl) rfl 36 rfl rfl 175 Tryz.func175 (by kernel_rfl) (by kernel_rfl) #[.tmp 30, .tmp 31, .tmp 33, .tmp 34, .tmp 35] #[67, 9, 3, 244, 244] rfl #[.pointer (some ⟨x, 0, none⟩), .string t.nm, .int .i64 (t.pk : Int), .agg #[.bool false, .bool false, .int .i64 0, .string ⟨#[]⟩], .agg #[.bool false, .bool false, .int .i64 0, .string ⟨#[]⟩]] (by simp [Act.eval]) (R := fun v w' => ∃ u z, v = .tuple #[u, .int .i64 z] ∧ OwnRR w3.heap.size w' u rows ∧ ST q w' x op S ∧ Only q.S w3.drew w') ((unhide CS).mono (by rintro en w' ⟨u, rfl, hO, hs, o⟩; exact ⟨_, rfl, u, _, rfl, hO, hs, o⟩)) ?ka
      case ka =>
      rintro _ w6 ⟨u, z, rfl, hO, hs, oq⟩
      have S6 : w6.cell? ⟨g, 0, none⟩ = some (.pointer (some ⟨x, 0, none⟩)) ∧ w6.cell? ⟨kd, 2, none⟩ = some (.int .i64 (t.pk : Int)) := ⟨cell_keepX (hH0.1) oq (unhide HNG), cell_keepX (hH0.2) oq (unhide HNK)⟩
      refine ⟨S6, ?_⟩
      try simp only [Act.put, List.setIfInBounds_toArray, List.set_cons_zero, List.set_cons_succ]
      refine takeH 10 26 (v := ?va10) rfl rfl (by kernel_rfl) (by kernel_rfl) (by kernel_rfl) (fun _ _ _ h => h) (Or.inl ⟨by rfl, ?ha10⟩) S6 ?ra10
      case ha10 => (intro w hSw; clear hSw; go_simp; (try with_reducible rfl))
      case ra10 =>
      try simp only [Act.put, List.setIfInBounds_toArray, List.set_cons_zero, List.set_cons_succ]
      refine takeH 11 37 (v := ?va11) rfl rfl (by kernel_rfl) (by kernel_rfl) (by kernel_rfl) (fun _ _ _ h => h) (Or.inl ⟨by rfl, ?ha11⟩) S6 ?ra11
      case ha11 => (intro w hSw; clear hSw; go_simp; (try with_reducible rfl))
      case ra11 =>
      try simp only [Act.put, List.setIfInBounds_toArray, List.set_cons_zero, List.set_cons_succ]
      refine takeH 12 38 (v := ?va12) rfl rfl (by kernel_rfl) (by kernel_rfl) (by kernel_rfl) (fun _ _ _ h => h) (Or.inl ⟨by rfl, ?ha12⟩) S6 ?ra12
      case ha12 => (intro w hSw; clear hSw; go_simp; (try with_reducible rfl))
      case ra12 =>
      try simp only [Act.put, List.setIfInBounds_toArray, List.set_cons_zero, List.set_cons_succ]
      refine takeH 13 10 (v := ?va13) rfl rfl (by kernel_rfl) (by kernel_rfl) (by kernel_rfl) (fun _ _ _ h => h) (Or.inl ⟨by rfl, ?ha13⟩) S6 ?ra13
      case ha13 => (intro w hSw; clear hSw; go_simp; (try with_reducible rfl))
      case ra13 =>
      try simp only [Act.put, List.setIfInBounds_toArray, List.set_cons_zero, List.set_cons_succ]
      refine takeH 14 11 (v := ?va14) rfl rfl (by kernel_rfl) (by kernel_rfl) (by kernel_rfl) (fun _ _ _ h => h) (Or.inl ⟨by rfl, ?ha14⟩) S6 ?ra14
      case ha14 => (intro w hSw; clear hSw; go_simp; (try with_reducible rfl))
      case ra14 =>
      try simp only [Act.put, List.setIfInBounds_toArray, List.set_cons_zero, List.set_cons_succ]
      refine wpAnyH_done (by kernel_rfl) ?_ _
      have HF := hide (And.intro hO (And.intro hs ((((Only.refl (fun _ => False) w3).drew).mono (fun _ _ e => e.elim)).trans oq (fun _ _ e => e) : Only q.S w3 w6)))
      clear hH0 S6 oq
      obtain ⟨Zr, hR, hZr⟩ := (unhide HF).1.rl (by have := unhide Hr8; omega)
      have oS := (unhide HF).2.2
      have sS := oS.size
      have H6 := (unhide HX3).turn (unhide HF).2.1 oS
      have hZl : Zr.length ≤ 100 := by
        have := congrArg List.length hZr
        rw [List.length_map] at this
        have := unhide Hr8
        omega
      have CM := xmerge_any H6.xm hn (hl n hn).1 (hl n hn).2 t.nm ca cn cc (t.pk : Int) (ixI t.ix) (t.pk : Int) hR sS hZl false false (vI 0) (vI 0)
      have e0 : bndOf false (vI 0) = none := rfl
      rw [e0, hZr, ← unhide HRw] at CM
      unfold bdA vI at CM
      have CM := hide CM
      have ND := (unhide HD3).keep oS (unhide HNK)
      have m0 : w6.cell? ⟨kd, 0, none⟩ = some (.string t.nm) := ND.cell 0
      have m1 : w6.cell? ⟨kd, 1, none⟩ = some (.slice ca cn cc) := ND.cell 1
      have m2 : w6.cell? ⟨kd, 2, none⟩ = some (.int .i64 (t.pk : Int)) := ND.cell 2
      have m3 : w6.cell? ⟨kd, 3, none⟩ = some (.int .i64 (ixI t.ix)) := ND.cell 3
      have HX6 := hide H6
      have HOS := hide ((unhide HO3).trans oS (fun _ _ h => h))
      clear hO hs c0 k2 ND H6 hR hZr oS e0 CS HF0
      go_wp2_with fail
      refine (unhide CM).mono ?_
      rintro e w7 ⟨v, Z, rfl, G, hrow, hZ, hAp⟩
      have FF := hide (show VwP q w g x X op S T n t.nm (.returned (.tuple #[v, .int .i64 0])) w7 from .yes (unhide Hgd) t (unhide Hfd) v Z rfl ⟨G.own, fun z hz => ⟨(hrow z hz).1, fun k hk => by have := (hrow z hz).2 k hk; omega⟩, fun k hk => by have := G.hb k hk; omega, hAp⟩ hZ ((unhide HX6).quiet G.ho) ((unhide HOS).trans (G.ho.mono (T := q.S) (fun _ _ h => h.elim)) (fun _ _ h => h)))
      clear CM G hrow hZ hAp m0 m1 m2 m3
      go_wp2_with fail
      go_ret2
      exact unhide FF
  · rw [decide_eq_false hs] at C1
    have C1 := hide C1
    have FF := hide (show VwP q w g x X op S T s nm (.returned (.tuple #[.slice none 0 0, .int .i64 20])) w from .bad hs rfl (unhide HX) (Only.refl _ _))
    clear hs H
    go_enter Tryz.func114, Tryz.ntmps114
    go_wp2_with fail
    refine (unhide C1).mono ?_
    rintro e w2 ⟨rfl, rfl⟩
    go_wp2_with fail
    go_ret2
    exact unhide FF
end
end Go.Proofs.Qxb6500412aGreat
