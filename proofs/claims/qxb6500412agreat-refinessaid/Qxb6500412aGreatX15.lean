/-
  OWN WORK. TXN: Lookup (written by tools/gen_x15.py).
-/
import Derived.Test.Qxb6500412aGreatX14
namespace Go.Proofs.Qxb6500412aGreat
open Go.RowKit Go.PlainAid
set_option linter.unusedSimpArgs false
set_option linter.unusedVariables false

/-- What a session's Lookup answers: its own last word, else the store's. -/
def lkP (l : List WCh) (D : Db) (tab : ByteArray) (key : Vl) : List Vl × Int := match l.find? (fun c => decide (sideP tab key c.d ≤ 0)) with
  | none => lkpD D tab key
  | some c => if sideP tab key c.d = 0 then (if c.d.gone = true then ([], 9) else (c.d.row, 0)) else lkpD D tab key
theorem FnR.first {l : List WCh} {tab : ByteArray} {key : Vl} {p : Int} {hit : Bool} (h : FnR l tab key p hit) : ∃ n : Nat, p = n ∧ n ≤ l.length ∧ ((hit = false ∧ ∀ D, lkP l D tab key = lkpD D tab key) ∨ ∃ c, hit = true ∧ l[n]? = some c ∧ ∀ D, lkP l D tab key = if c.d.gone = true then ([], 9) else (c.d.row, 0)) := by
  obtain ⟨n, rfl, hn, hlt, hc⟩ := h
  refine ⟨n, rfl, hn, ?_⟩
  rcases hc with ⟨rfl, rfl⟩ | ⟨c, hc, hle, rfl⟩
  · refine .inl ⟨rfl, fun D => ?_⟩
    have : l.find? (fun c => decide (sideP tab key c.d ≤ 0)) = none := by
      rw [List.find?_eq_none]
      intro c hc
      obtain ⟨j, hj⟩ := List.getElem?_of_mem hc
      have := hlt j c hj (List.getElem?_eq_some_iff.mp hj).1
      simp; omega
    unfold lkP
    rw [this]
  · have hf : l.find? (fun c => decide (sideP tab key c.d ≤ 0)) = some c := by
      have hnl := (List.getElem?_eq_some_iff.mp hc).1
      have hsp : l = l.take n ++ c :: l.drop (n + 1) := by
        have := List.take_append_drop n l
        rw [List.drop_eq_getElem_cons hnl, (List.getElem?_eq_some_iff.mp hc).2] at this
        exact this.symm
      rw [hsp, List.find?_append]
      have h1 : (l.take n).find? (fun c => decide (sideP tab key c.d ≤ 0)) = none := by
        rw [List.find?_eq_none]
        intro x hx
        obtain ⟨j, hj⟩ := List.getElem?_of_mem hx
        rw [List.getElem?_take] at hj
        by_cases e : j < n
        · rw [if_pos e] at hj
          have := hlt j x hj e
          simp; omega
        · rw [if_neg e] at hj; cases hj
      rw [h1]
      simp [hle]
    by_cases e0 : sideP tab key c.d = 0
    · refine .inr ⟨c, decide_eq_true e0, hc, fun D => ?_⟩
      unfold lkP
      rw [hf]
      simp only [if_pos e0]
    · refine .inl ⟨decide_eq_false e0, fun D => ?_⟩
      unfold lkP
      rw [hf]
      simp only [if_neg e0]
section
variable {q : Gnd} {w w' : World} {g x : Nat} {X : Xs} {op : Bool} {S : Vu} {T : List (Tb × Hd)}
/-- What Lookup leaves. -/
inductive LuP (q : Gnd) (w : World) (g x : Nat) (X : Xs) (op : Bool) (S : Vu) (T : List (Tb × Hd)) (s : Int) (nm : ByteArray) (key : Vl) (e : Ending) (w' : World) : Prop where
  | no (z : Int) (he : e = .returned (.tuple #[.slice none 0 0, .int .i64 z])) (hz : TkE X T s nm 1 z) (hx : XR q w' g x X op S) (ho : Only (fun k => q.S k ∨ k = g) w w')
  | yes (t : Tb) (hd : Hd) (i : Nat) (ht : (t, hd) ∈ T) (hn : t.nm = nm) (h0 : inTx X s = 0) (hi : TkI X s nm 1 i) (v : Value) (he : e = .returned (.tuple #[v, .int .i64 (lkP (X.ws s.toNat) (dbOf T) nm key).2])) (hv : OwnV w' v (lkP (X.ws s.toNat) (dbOf T) nm key).1) (hw : Newer w v) (hx : XR q w' g x (X.tk i s.toNat nm 1) op S) (ho : Only (fun k => q.S k ∨ k = g) w w')
set_option maxRecDepth 100000 in
set_option maxHeartbeats 8000000 in
theorem xlookup_any (H : XR q w g x X op S) (L : Lay S T) (hl : ∀ s, s < 4 → (X.ws s).length ≤ 100 ∧ ∀ c ∈ X.ws s, c.d.row.length ≤ 1000) (s : Int) (nm : ByteArray) (key : Vl) (hkw : key.wf) : Calls Tryz.prog 247 #[.pointer (some ⟨g, 0, none⟩), .int .i64 s, .string nm, vlA key] w (LuP q w g x X op S T s nm key) := by
  have o0 : Only (fun _ => False) w (w.alloc (.cells #[.bool key.str, .int .i64 key.i, .string key.s] 152)) := (Only.refl _ w).alloc _
  have NK := Has.new w #[.bool key.str, .int .i64 key.i, .string key.s] 152
  have C1 := hide (xtake_any (H.quiet o0) L s nm 1)
  have HSn := hide (show ∀ k, w.heap.size ≤ k → ¬ q.S k from fun k hk => H.st.new hk)
  have HNG := hide (show ¬ q.S g from fun h => (H.off g (.inl rfl)).1 (Gnd.S_A h))
  have hgw : g < w.heap.size := H.xm.has.lt
  have HO := hide o0
  have HNK := hide NK
  unfold vlA
  clear H o0 NK
  go_enter Tryz.func247, Tryz.ntmps247
  go_upto_region 1 with fail
  generalize w.alloc (.cells #[.bool key.str, .int .i64 key.i, .string key.s] 152) = w0 at *
  have s0 := (unhide HO).size
  generalize hkK : w.heap.size = kK at *
  go_wp2_with fail
  refine (unhide C1).mono ?_
  rintro e w2 hT
  have hB : ∀ k, kK ≤ k → ¬ (q.S k ∨ k = g) := fun k hk c => c.elim (unhide HSn k (by omega)) (fun e => by omega)
  rcases hT with ⟨z, rfl, hz, hx, ho⟩ | ⟨t, hd, cv, i, ht, rfl, h0, rfl, hcv, hnew, hi, hx, ho⟩
  · unfold schZ
    have z0 : (z != 0) = true := by simpa using hz.1
    have FF := hide (show ∀ o : Obj, LuP q w g x X op S T s nm key (.returned (.tuple #[.slice none 0 0, .int .i64 z])) (w2.alloc o) from fun o => .no z rfl hz (hx.quiet ((Only.refl _ w2).alloc o)) ((((unhide HO).mono (T := fun k => q.S k ∨ k = g) (fun _ _ h => h.elim)).trans ho (fun _ _ h => .inl h)).trans (((Only.refl (fun _ => False) w2).alloc o).mono (T := fun k => q.S k ∨ k = g) (fun _ _ h => h.elim)) (fun _ _ h => h)))
    clear hz hx ho C1
    go_wp2_with fail
    go_ret2
    exact unhide FF _
  · obtain ⟨ca, cc, rfl⟩ := hcv.shape
    obtain ⟨hgs, _⟩ := inTx_ok h0
    obtain ⟨n, rfl⟩ : ∃ n : Nat, s = n := ⟨s.toNat, by have := hgs.1; omega⟩
    have hn4 : n < 4 := by have := hgs.2; omega
    have n4 : (n : Int) < 4 := by omega
    have s2 := ho.size
    generalize t.cols.length = cn at *
    unfold scC
    have o3 : Only (fun _ => False) w2 (w2.alloc (.cells #[.string t.nm, .slice ca cn cc, .int .i64 (t.pk : Int), .int .i64 (ixI t.ix)] 79)) := (Only.refl _ w2).alloc _
    have htw := (Xs.tk_w X i (n : Int).toNat t.nm 1).2.1
    have Htw := hide htw
    have hls := hl n hn4
    have HX3 := hide (hx.quiet o3)
    have HNK3 := hide (((unhide HNK).keep ho (hB kK (by omega))).keep o3 (fun h => h))
    have HO3 := hide ((((unhide HO).mono (T := fun k => q.S k ∨ k = g) (fun _ _ h => h.elim)).trans ho (fun _ _ h => h)).trans (o3.mono (T := fun k => q.S k ∨ k = g) (fun _ _ h => h.elim)) (fun _ _ h => h))
    have hd3 : w2.heap.size < (w2.alloc (.cells #[.string t.nm, .slice ca cn cc, .int .i64 (t.pk : Int), .int .i64 (ixI t.ix)] 79)).heap.size := (Has.new w2 #[.string t.nm, .slice ca cn cc, .int .i64 (t.pk : Int), .int .i64 (ixI t.ix)] 79).lt
    have Hfd := hide (And.intro ht (And.intro h0 hi))
    have C3 := xfind_any (unhide HX3).xm hn4 (by rw [htw]; have := hls.1; omega) t.nm key
    rw [htw] at C3
    unfold vlA at C3
    have C3 := hide C3
    clear C1 hx ho o3 hcv hnew ht h0 hi hgs htw
    go_upto_region 2 with fail
    generalize w2.alloc (.cells #[.string t.nm, .slice ca cn cc, .int .i64 (t.pk : Int), .int .i64 (ixI t.ix)] 79) = w3 at *
    have k0 : w3.cell? ⟨kK, 0, none⟩ = some (.bool key.str) := (unhide HNK3).cell 0
    have k1 : w3.cell? ⟨kK, 1, none⟩ = some (.int .i64 key.i) := (unhide HNK3).cell 1
    have k2 : w3.cell? ⟨kK, 2, none⟩ = some (.string key.s) := (unhide HNK3).cell 2
    go_wp2_with fail
    refine (unhide C3).mono ?_
    rintro e w4 ⟨p, hit, rfl, hf, o4⟩
    have s4 := o4.size
    have HX4 := hide ((unhide HX3).quiet o4)
    have HNK4 := hide ((unhide HNK3).keep o4 (fun h => h))
    have HO4 := hide ((unhide HO3).trans (o4.mono (T := fun k => q.S k ∨ k = g) (fun _ _ h => h.elim)) (fun _ _ h => h))
    obtain ⟨m, rfl, hm, hcase⟩ := hf.first
    clear C3 hf o4 k0 k1 k2 HX3 HNK3 HO3
    rcases hcase with ⟨rfl, hb⟩ | ⟨c, rfl, hc, hb⟩
    · have hb := hb (dbOf T)
      obtain ⟨row, hrow⟩ : ∃ r, (lkpD (dbOf T) t.nm key).1 = r := ⟨_, rfl⟩
      obtain ⟨zz, hzz⟩ : ∃ r, (lkpD (dbOf T) t.nm key).2 = r := ⟨_, rfl⟩
      have CL := elookup_any ((unhide HX4).st.quiet ((Only.refl (fun _ => False) _).drew)) L t.nm key hkw
      rw [hrow, hzz] at CL
      unfold vlA at CL
      have CL := hide CL
      have HRw := hide (And.intro hb (And.intro hrow hzz))
      have c0 := (unhide HX4).xm.has.c0
      have gl := (unhide HX4).xm.has.lt
      have k0 : w4.cell? ⟨kK, 0, none⟩ = some (.bool key.str) := (unhide HNK4).cell 0
      have k1 : w4.cell? ⟨kK, 1, none⟩ = some (.int .i64 key.i) := (unhide HNK4).cell 1
      have k2 : w4.cell? ⟨kK, 2, none⟩ = some (.string key.s) := (unhide HNK4).cell 2
      clear hb hrow hzz
      go_upto_region 9 with fail
      refine wp_region_held_drew (S := (fun w' => w'.cell? ⟨g, 0, none⟩ = some (.pointer (some ⟨x, 0, none⟩)) ∧ w'.cell? ⟨kK, 0, none⟩ = some (.bool key.str) ∧ w'.cell? ⟨kK, 1, none⟩ = some (.int .i64 key.i) ∧ w'.cell? ⟨kK, 2, none⟩ = some (.string key.s))) (by kernel_rfl) ⟨c0, k0, k1, k2⟩ (fun hH0 => ?_)
      refine takeH 0 57 (v := ?va1) rfl rfl (by kernel_rfl) (by kernel_rfl) (by kernel_rfl) (fun _ _ _ h => h) (Or.inl ⟨by rfl, ?ha1⟩) hH0 ?ra1
      case ha1 => (intro w hSw; clear hSw; go_simp; (try with_reducible rfl))
      case ra1 =>
      try simp only [Act.put, List.setIfInBounds_toArray, List.set_cons_zero, List.set_cons_succ]
      refine takeH 1 58 (v := ?va2) rfl rfl (by kernel_rfl) (by kernel_rfl) (by kernel_rfl) (fun _ _ _ h => h) (Or.inl ⟨by rfl, ?ha2⟩) hH0 ?ra2
      case ha2 => (intro w hSw; clear hSw; go_simp; (try with_reducible rfl))
      case ra2 =>
      try simp only [Act.put, List.setIfInBounds_toArray, List.set_cons_zero, List.set_cons_succ]
      refine takeH 2 59 (v := ?va3) rfl rfl (by kernel_rfl) (by kernel_rfl) (by kernel_rfl) (fun _ _ _ h => h) (Or.inl ⟨by rfl, ?ha3⟩) hH0 ?ra3
      case ha3 => (intro w hSw; clear hSw; go_simp; (try with_reducible rfl))
      case ra3 =>
      try simp only [Act.put, List.setIfInBounds_toArray, List.set_cons_zero, List.set_cons_succ]
      refine takeH 3 60 (v := ?va4) rfl rfl (by kernel_rfl) (by kernel_rfl) (by kernel_rfl) (fun _ _ _ h => h) (Or.inl ⟨by rfl, ?ha4⟩) hH0 ?ra4
      case ha4 => (intro w hSw; obtain ⟨s0, s1, s2, s3⟩ := hSw; go_simp; (try with_reducible rfl))
      case ra4 =>
      try simp only [Act.put, List.setIfInBounds_toArray, List.set_cons_zero, List.set_cons_succ]
      refine takeH 4 61 (v := ?va5) rfl rfl (by kernel_rfl) (by kernel_rfl) (by kernel_rfl) (fun _ _ _ h => h) (Or.inl ⟨by rfl, ?ha5⟩) hH0 ?ra5
      case ha5 => (intro w hSw; clear hSw; go_simp; (try with_reducible rfl))
      case ra5 =>
      try simp only [Act.put, List.setIfInBounds_toArray, List.set_cons_zero, List.set_cons_succ]
      refine takeH 5 62 (v := ?va6) rfl rfl (by kernel_rfl) (by kernel_rfl) (by kernel_rfl) (fun _ _ _ h => h) (Or.inl ⟨by rfl, ?ha6⟩) hH0 ?ra6
      case ha6 => (intro w hSw; obtain ⟨s0, s1, s2, s3⟩ := hSw; go_simp; (try with_reducible rfl))
      case ra6 =>
      try simp only [Act.put, List.setIfInBounds_toArray, List.set_cons_zero, List.set_cons_succ]
      refine callH 6 (by kernel_rfl) rfl 63 rfl rfl 297 Tryz.func297 (by kernel_rfl) (by kernel_rfl) #[.tmp 60, .tmp 61, .tmp 62] #[67, 9, 152] rfl #[.pointer (some ⟨x, 0, none⟩), .string t.nm, .agg #[.bool key.str, .int .i64 key.i, .string key.s]] (by simp [Act.eval]) (R := fun v w' => ∃ u, v = .tuple #[u, .int .i64 zz] ∧ OwnV w' u row ∧ Newer w4 u ∧ ST q w' x op S ∧ Only q.S w4.drew w') ((unhide CL).mono (by rintro en w' ⟨u, rfl, hO, hN, hs, o⟩; exact ⟨_, rfl, u, rfl, hO, hN, hs, o⟩)) ?ka
      case ka =>
      rintro _ w6 ⟨u, rfl, hO, hN, hs, oq⟩
      have S6 : w6.cell? ⟨g, 0, none⟩ = some (.pointer (some ⟨x, 0, none⟩)) ∧ w6.cell? ⟨kK, 0, none⟩ = some (.bool key.str) ∧ w6.cell? ⟨kK, 1, none⟩ = some (.int .i64 key.i) ∧ w6.cell? ⟨kK, 2, none⟩ = some (.string key.s) := ⟨cell_keepX (hH0.1) oq (unhide HNG), cell_keepX (hH0.2.1) oq (unhide HSn kK (by omega)), cell_keepX (hH0.2.2.1) oq (unhide HSn kK (by omega)), cell_keepX (hH0.2.2.2) oq (unhide HSn kK (by omega))⟩
      refine ⟨S6, ?_⟩
      try simp only [Act.put, List.setIfInBounds_toArray, List.set_cons_zero, List.set_cons_succ]
      refine takeH 7 64 (v := ?va7) rfl rfl (by kernel_rfl) (by kernel_rfl) (by kernel_rfl) (fun _ _ _ h => h) (Or.inl ⟨by rfl, ?ha7⟩) S6 ?ra7
      case ha7 => (intro w hSw; clear hSw; go_simp; (try with_reducible rfl))
      case ra7 =>
      try simp only [Act.put, List.setIfInBounds_toArray, List.set_cons_zero, List.set_cons_succ]
      refine takeH 8 65 (v := ?va8) rfl rfl (by kernel_rfl) (by kernel_rfl) (by kernel_rfl) (fun _ _ _ h => h) (Or.inl ⟨by rfl, ?ha8⟩) S6 ?ra8
      case ha8 => (intro w hSw; clear hSw; go_simp; (try with_reducible rfl))
      case ra8 =>
      try simp only [Act.put, List.setIfInBounds_toArray, List.set_cons_zero, List.set_cons_succ]
      refine takeH 9 8 (v := ?va9) rfl rfl (by kernel_rfl) (by kernel_rfl) (by kernel_rfl) (fun _ _ _ h => h) (Or.inl ⟨by rfl, ?ha9⟩) S6 ?ra9
      case ha9 => (intro w hSw; clear hSw; go_simp; (try with_reducible rfl))
      case ra9 =>
      try simp only [Act.put, List.setIfInBounds_toArray, List.set_cons_zero, List.set_cons_succ]
      refine takeH 10 9 (v := ?va10) rfl rfl (by kernel_rfl) (by kernel_rfl) (by kernel_rfl) (fun _ _ _ h => h) (Or.inl ⟨by rfl, ?ha10⟩) S6 ?ra10
      case ha10 => (intro w hSw; clear hSw; go_simp; (try with_reducible rfl))
      case ra10 =>
      try simp only [Act.put, List.setIfInBounds_toArray, List.set_cons_zero, List.set_cons_succ]
      refine wpAnyH_done (by kernel_rfl) ?_ _
      have HF := hide (And.intro hO (And.intro hN (And.intro hs ((((Only.refl (fun _ => False) w4).drew).mono (fun _ _ e => e.elim)).trans oq (fun _ _ e => e) : Only q.S w4 w6))))
      clear hH0 S6 oq
      have FF := hide (show LuP q w g x X op S T n t.nm key (.returned (.tuple #[u, .int .i64 zz])) w6 from by
        have e1 : lkP (X.ws (n : Int).toNat) (dbOf T) t.nm key = (row, zz) := by
          rw [show (n : Int).toNat = n by omega, (unhide HRw).1, ← (unhide HRw).2.1, ← (unhide HRw).2.2]
        exact .yes t hd i (unhide Hfd).1 rfl (unhide Hfd).2.1 (unhide Hfd).2.2 u (by rw [e1]) (by rw [e1]; exact (unhide HF).1) (fun k hk => by have := (unhide HF).2.1 k hk; omega) ((unhide HX4).turn (unhide HF).2.2.1 (unhide HF).2.2.2) ((unhide HO4).trans ((unhide HF).2.2.2.mono (T := fun k => q.S k ∨ k = g) (fun _ _ h => .inl h)) (fun _ _ h => h)))
      clear hO hN hs
      go_wp2_with fail
      go_ret2
      exact unhide FF
    · have hb := hb (dbOf T)
      have W := (unhide HX4).xm.ws n hn4
      rw [unhide Htw] at W
      obtain ⟨a, cap, hwv⟩ := W.shape
      have c0 := (unhide HX4).xm.has.wset hn4
      have gl := (unhide HX4).xm.has.lt
      rw [hwv] at W c0
      obtain ⟨b, rfl, _, _, _, _, e4, e5⟩ := W.at_ hc
      have OC := W.row c (List.mem_of_getElem? hc)
      obtain ⟨xa, xc, hxu⟩ := OC.shape
      obtain ⟨xn, hxn⟩ : ∃ k, c.d.row.length = k := ⟨_, rfl⟩
      have hx1 := hls.2 c (List.mem_of_getElem? hc)
      rw [hxn] at hxu
      rw [hxu] at e5 OC
      obtain ⟨mm, hmm⟩ : ∃ m, (X.ws n).length = m := ⟨_, rfl⟩
      have hnm : m < mm := by rw [← hmm]; exact (List.getElem?_eq_some_iff.mp hc).1
      have hnI : (m : Int) < (mm : Int) := by omega
      rw [hmm] at c0
      obtain ⟨gn, hgn⟩ : ∃ b : Bool, c.d.gone = b := ⟨_, rfl⟩
      rw [hgn] at e4 hb
      have CC := mcloneRow_any OC hx1
      rw [hxn] at CC
      have CC := hide CC
      have HB2 := hide hb
      clear W hwv hc OC hxu hxn hx1 hmm hgn hb hm
      cases gn with
      | true =>
        have FF := hide (show LuP q w g x X op S T n t.nm key (.returned (.tuple #[.slice none 0 0, .int .i64 9])) w4 from by
          have e1 : lkP (X.ws (n : Int).toNat) (dbOf T) t.nm key = ([], 9) := by
            rw [show (n : Int).toNat = n by omega, unhide HB2, if_pos rfl]
          exact .yes t hd i (unhide Hfd).1 rfl (unhide Hfd).2.1 (unhide Hfd).2.2 (.slice none 0 0) (by rw [e1]) (by rw [e1]; exact OwnV.nil _) (fun k hk => by simp [Value.ownBlock] at hk) (unhide HX4) (unhide HO4))
        go_wp2_with fail
        go_ret2
        exact unhide FF
      | false =>
        go_wp2_with fail
        refine (unhide CC).mono ?_
        rintro e w5 ⟨zb, rfl, O5, hzb, o5⟩
        have FF := hide (show LuP q w g x X op S T n t.nm key (.returned (.tuple #[.slice (some ⟨zb, 0, none⟩) xn xn, .int .i64 0])) w5 from by
          have e1 : lkP (X.ws (n : Int).toNat) (dbOf T) t.nm key = (c.d.row, 0) := by
            rw [show (n : Int).toNat = n by omega, unhide HB2, if_neg (by simp)]
          exact .yes t hd i (unhide Hfd).1 rfl (unhide Hfd).2.1 (unhide Hfd).2.2 _ (by rw [e1]) (by rw [e1]; exact O5) (fun k hk => by simp [Value.ownBlock] at hk; omega) ((unhide HX4).quiet o5) ((unhide HO4).trans (o5.mono (T := fun k => q.S k ∨ k = g) (fun _ _ h => h.elim)) (fun _ _ h => h)))
        clear CC O5 o5 c0 e4 e5
        go_wp2_with fail
        go_ret2
        exact unhide FF
end
end Go.Proofs.Qxb6500412aGreat
