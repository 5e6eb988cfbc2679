/-
  OWN WORK. TXN: write: Insert, Update (written by tools/gen_x18.py).
-/
import Derived.Test.Qxb6500412aGreatX17
namespace Go.Proofs.Qxb6500412aGreat
open Go.RowKit Go.PlainAid
set_option linter.unusedSimpArgs false
set_option linter.unusedVariables false

/-- The rows of a table as a session sees them. -/
def vwP (l : List WCh) (D : Db) (t : Tb) : List (List Vl) := mrgP l t.nm (t.pk : Int) (t.pk : Int) none none (scnD D t.nm (t.pk : Int) none none).1
section
variable {q : Gnd} {w w' : World} {g x : Nat} {X : Xs} {op : Bool} {S : Vu} {T : List (Tb × Hd)}
/-- Why a row is refused. -/
def WrE (l : List WCh) (D : Db) (t : Tb) (row : List Vl) (fresh : Bool) (z : Int) : Prop := (chkRow t.cols row = z ∧ z ≠ 0) ∨ (chkRow t.cols row = 0 ∧ ((fresh = true ∧ hasP l D t.nm (atV row (t.pk : Int)) = true ∧ z = 17) ∨ (fresh = false ∧ hasP l D t.nm (atV row (t.pk : Int)) = false ∧ z = 9) ∨ (fresh = true ∧ hasP l D t.nm (atV row (t.pk : Int)) = false ∧ 8 ≤ (vwP l D t).length ∧ z = 6)))
def WrOk (l : List WCh) (D : Db) (t : Tb) (row : List Vl) (fresh : Bool) : Prop := chkRow t.cols row = 0 ∧ hasP l D t.nm (atV row (t.pk : Int)) = !fresh ∧ (fresh = true → (vwP l D t).length < 8)
/-- What write leaves. -/
inductive WrP (q : Gnd) (w : World) (g x : Nat) (X : Xs) (op : Bool) (S : Vu) (T : List (Tb × Hd)) (s : Int) (nm : ByteArray) (row : List Vl) (fresh : Bool) (e : Ending) (w' : World) : Prop where
  | no (z : Int) (he : e = .returned (.int .i64 z)) (hz : TkE X T s nm 2 z) (hx : XR q w' g x X op S) (ho : Only (fun k => q.S k ∨ k = g) w w')
  | err (t : Tb) (hd : Hd) (i : Nat) (z : Int) (ht : (t, hd) ∈ T) (hn : t.nm = nm) (h0 : inTx X s = 0) (hi : TkI X s nm 2 i) (he : e = .returned (.int .i64 z)) (hz : WrE (X.ws s.toNat) (dbOf T) t row fresh z) (hx : XR q w' g x (X.tk i s.toNat nm 2) op S) (ho : Only (fun k => q.S k ∨ k = g) w w')
  | yes (t : Tb) (hd : Hd) (i : Nat) (ht : (t, hd) ∈ T) (hn : t.nm = nm) (h0 : inTx X s = 0) (hi : TkI X s nm 2 i) (he : e = .returned (.int .i64 0)) (hok : WrOk (X.ws s.toNat) (dbOf T) t row fresh) (v' : Value) (l' : List WCh) (hl : ∃ (n : Nat) (hit : Bool) (u : Value), FnR (X.ws s.toNat) nm (atV row (t.pk : Int)) n hit ∧ l' = putW (X.ws s.toNat) n hit ⟨⟨nm, atV row (t.pk : Int), false, row⟩, u⟩) (hx : XR q w' g x ((X.tk i s.toNat nm 2).setW s.toNat v' l') op S) (ho : Only (fun k => q.S k ∨ X.U g s.toNat k) w w') (hnw : ∀ k, (v'.ownBlock = some k ∨ WLi l' k) → X.M k ∨ X.I k ∨ w.heap.size ≤ k)
set_option maxRecDepth 100000 in
set_option maxHeartbeats 8000000 in
theorem xwrite_any (H : XR q w g x X op S) (L : Lay S T) (hl : ∀ s, s < 4 → (X.ws s).length ≤ 100 ∧ ∀ c ∈ X.ws s, c.d.row.length ≤ 1000) (s : Int) (nm : ByteArray) {ra : Option Addr} {rn rc : Nat} {row : List Vl} (hr : OwnV w (.slice ra rn rc) row) (hrq : ∀ k, (Value.slice ra rn rc).ownBlock = some k → ¬ q.S k) (hr4 : row.length ≤ 200) (hrw : (atV row 0).wf → True) (hkw : ∀ c : Nat, (atV row (c : Int)).wf) (fresh : Bool) : Calls Tryz.prog 245 #[.pointer (some ⟨g, 0, none⟩), .int .i64 s, .string nm, .slice ra rn rc, .bool fresh] w (WrP q w g x X op S T s nm row fresh) := by
  have C1 := hide (xtake_any H L s nm 2)
  have HSn := hide (show ∀ k, w.heap.size ≤ k → ¬ q.S k from fun k hk => H.st.new hk)
  have HNw := hide (show ∀ k, w.heap.size ≤ k → ¬ q.A k ∧ k ≠ x from fun k hk => ⟨fun c => by have := H.st.fv.Alt k c; omega, fun c => by have := H.st.has.lt; omega⟩)
  have hgw : g < w.heap.size := H.xm.has.lt
  have hrn : row.length = rn := by
    obtain ⟨a, c, h⟩ := hr.shape
    cases h; rfl
  have HRV : Hid (∀ W, Only (fun k => q.S k ∨ k = g) w W → OwnV W (.slice ra rn rc) row) := hide (fun W ho => hr.keep ho (fun k hk e => e.elim (hrq k hk) (fun e => by
    have hh : Has w g (tabV 27 (xcell x X)) 134 := H.xm.has
    exact ownsRow_ne hr hh (by decide) k hk e)))
  have Hrn := hide hrn
  have hr4' : rn ≤ 200 := by omega
  clear H hr hrq hrw hrn
  go_enter Tryz.func245, Tryz.ntmps245
  go_wp2_with fail
  refine (unhide C1).mono ?_
  rintro e w2 hT
  rcases hT with ⟨z, rfl, hz, hx, ho⟩ | ⟨t, hd, cv, i, ht, rfl, h0, rfl, hcv, hnew, hi, hx, ho⟩
  · unfold schZ
    have z0 : (z != 0) = true := by simpa using hz.1
    have z1 : (z == 0) = false := ne_intO hz.1
    have FF := hide (show ∀ o : Obj, WrP q w g x X op S T s nm row fresh (.returned (.int .i64 z)) (w2.alloc o) from fun o => .no z rfl hz (hx.quiet ((Only.refl _ w2).alloc o)) ((ho.mono (T := (fun k => q.S k ∨ k = g)) (fun _ _ h => .inl h)).trans (((Only.refl (fun _ => False) w2).alloc o).mono (T := (fun k => q.S k ∨ k = g)) (fun _ _ h => h.elim)) (fun _ _ h => h)))
    clear hz hx ho C1
    go_wp2_with fail
    go_ret
    exact unhide FF _
  · obtain ⟨hgs, _⟩ := inTx_ok h0
    have Hgd := hide hgs
    obtain ⟨n, rfl⟩ : ∃ n : Nat, s = n := ⟨s.toNat, by have := hgs.1; omega⟩
    have hn4 : n < 4 := by have := hgs.2; omega
    have n4 : (n : Int) < 4 := by omega
    have s2 := ho.size
    obtain ⟨ca, cc, rfl⟩ := hcv.shape
    have o3 : ∀ o : Obj, Only (fun _ => False) w2 (w2.alloc o) := fun o => (Only.refl _ w2).alloc o
    have HO3 : Hid (∀ o : Obj, Only (fun k => q.S k ∨ k = g) w (w2.alloc o)) := hide (fun o => ho.trans ((o3 o).mono (T := (fun k => q.S k ∨ k = g)) (fun _ _ h => h.elim)) (fun _ _ h => h))
    have CK := eCheckRow_any (hcv.keep (o3 (.cells #[.string t.nm, .slice ca t.cols.length cc, .int .i64 (t.pk : Int), .int .i64 (ixI t.ix)] 79)) (fun _ _ h => h)) (unhide HRV _ (unhide HO3 _)) hr4 t.nm (t.pk : Int) (ixI t.ix)
    obtain ⟨cz, hcz⟩ : ∃ z, chkRow t.cols row = z := ⟨_, rfl⟩
    rw [hcz] at CK
    unfold schA at CK
    generalize t.cols.length = cn at *
    unfold scC
    have HX3 := hide (hx.quiet (o3 (.cells #[.string t.nm, .slice ca cn cc, .int .i64 (t.pk : Int), .int .i64 (ixI t.ix)] 79)))
    have HO3 := hide (unhide HO3 (.cells #[.string t.nm, .slice ca cn cc, .int .i64 (t.pk : Int), .int .i64 (ixI t.ix)] 79))
    have htw := (Xs.tk_w X i (n : Int).toNat t.nm 2).2
    have Htw := hide htw
    have hls := hl n hn4
    have HD3 := hide (Has.new w2 #[.string t.nm, .slice ca cn cc, .int .i64 (t.pk : Int), .int .i64 (ixI t.ix)] 79)
    have Hfd := hide (And.intro ht (And.intro h0 (And.intro hi hcz)))
    have CK := hide CK
    have HU : Hid (∀ k, (X.tk i (n : Int).toNat t.nm 2).U g n k → X.U g n k) := hide (fun k hk => by
      have := (Xs.tk_w X i (n : Int).toNat t.nm 2).1
      rcases hk with e | e
      · exact .inl e
      · exact .inr (by rw [this] at e; exact e))
    clear C1 hx ho o3 hcv hnew ht h0 hi hgs htw hcz
    go_upto_region 2 with fail
    generalize w2.alloc (.cells #[.string t.nm, .slice ca cn cc, .int .i64 (t.pk : Int), .int .i64 (ixI t.ix)] 79) = w3 at *
    generalize hkd : w2.heap.size = kd at *
    have hd3 := (unhide HD3).lt
    have m0 : w3.cell? ⟨kd, 0, none⟩ = some (.string t.nm) := (unhide HD3).cell 0
    have m1 : w3.cell? ⟨kd, 1, none⟩ = some (.slice ca cn cc) := (unhide HD3).cell 1
    have m2 : w3.cell? ⟨kd, 2, none⟩ = some (.int .i64 (t.pk : Int)) := (unhide HD3).cell 2
    have m3 : w3.cell? ⟨kd, 3, none⟩ = some (.int .i64 (ixI t.ix)) := (unhide HD3).cell 3
    go_wp2_with fail
    refine (unhide CK).mono ?_
    rintro e w4 ⟨rfl, o4⟩
    have s4 := o4.size
    have HX4 := hide ((unhide HX3).quiet o4)
    have HO4 := hide ((unhide HO3).trans (o4.mono (T := (fun k => q.S k ∨ k = g)) (fun _ _ h => h.elim)) (fun _ _ h => h))
    have m2 := o4.cellF m2
    clear CK o4 m0 m1 m3 HX3 HO3
    by_cases hc0 : cz = 0
    · subst hc0
      have C5 := xat_any (unhide HRV w4 (unhide HO4)) (t.pk : Int)
      obtain ⟨y, hy⟩ : ∃ y, atV row (t.pk : Int) = y := ⟨_, rfl⟩
      have hyw : y.wf := by rw [← hy]; exact hkw t.pk
      rw [hy] at C5
      unfold vlA at C5
      have C5 := hide C5
      have Hy := hide hy
      clear hy
      go_wp2_with fail
      refine (unhide C5).mono ?_
      rintro e w5 ⟨rfl, o5⟩
      have o6 : Only (fun _ => False) w5 (w5.alloc (.cells #[.bool y.str, .int .i64 y.i, .string y.s] 152)) := (Only.refl _ w5).alloc _
      have s5 := o5.size
      have HX6 := hide (((unhide HX4).quiet o5).quiet o6)
      have HO6 := hide ((unhide HO4).trans ((o5.trans o6 (fun _ _ h => h)).mono (T := (fun k => q.S k ∨ k = g)) (fun _ _ h => h.elim)) (fun _ _ h => h))
      have HNK6 := hide (Has.new w5 #[.bool y.str, .int .i64 y.i, .string y.s] 152)
      clear C5 o5 o6 m2 HX4 HO4
      go_upto_region 7 with fail
      generalize w5.alloc (.cells #[.bool y.str, .int .i64 y.i, .string y.s] 152) = w6 at *
      generalize hkK : w5.heap.size = kK at *
      have C7 := xhas_any (unhide HX6) L hn4 (by rw [(unhide Htw).1]; have := hls.1; omega) t.nm y hyw
      rw [(unhide Htw).1] at C7
      obtain ⟨hp, hhp⟩ : ∃ b : Bool, hasP (X.ws n) (dbOf T) t.nm y = b := ⟨_, rfl⟩
      rw [hhp] at C7
      unfold vlA at C7
      have C7 := hide C7
      have Hhp := hide (show hasP (X.ws (n : Int).toNat) (dbOf T) t.nm (atV row (t.pk : Int)) = hp by rw [unhide Hy]; exact hhp)
      have k0 : w6.cell? ⟨kK, 0, none⟩ = some (.bool y.str) := (unhide HNK6).cell 0
      have k1 : w6.cell? ⟨kK, 1, none⟩ = some (.int .i64 y.i) := (unhide HNK6).cell 1
      have k2 : w6.cell? ⟨kK, 2, none⟩ = some (.string y.s) := (unhide HNK6).cell 2
      have kl6 := (unhide HNK6).lt
      clear hhp
      go_wp2_with fail
      refine (unhide C7).mono ?_
      rintro e w7 ⟨rfl, h7, o7⟩
      have s7 := o7.size
      have HX7 := hide h7
      have HNK7 := hide ((unhide HNK6).keep o7 (unhide HSn kK (by omega)))
      have HO7 := hide ((unhide HO6).trans (o7.mono (T := (fun k => q.S k ∨ k = g)) (fun _ _ h => .inl h)) (fun _ _ h => h))
      clear C7 h7 o7 k0 k1 k2 HX6 HNK6 HO6
      cases fresh with
      | true =>
        cases hp with
        | true =>
          have FF := hide (show WrP q w g x X op S T n t.nm row true (.returned (.int .i64 17)) w7 from .err t hd i 17 (unhide Hfd).1 rfl (unhide Hfd).2.1 (unhide Hfd).2.2.1 rfl (.inr ⟨(unhide Hfd).2.2.2, .inl ⟨rfl, unhide Hhp, rfl⟩⟩) (unhide HX7) (unhide HO7))
          go_wp2_with fail
          go_ret
          exact unhide FF
        | false =>
          have CV := hide (xview_any (unhide HX7) L (fun s hs => by rw [(unhide Htw).1]; exact hl s hs) n t.nm)
          go_wp2_with fail
          refine (unhide CV).mono ?_
          rintro e w8 hV
          rcases hV with ⟨hb, _, _, _⟩ | ⟨_, hf, _, _, _⟩ | ⟨_, t2, hf, vv, Z, rfl, hRL, hZ, h8, o8⟩
          · exact absurd (unhide Hgd) hb
          · exact absurd rfl (find_none hf _ (unhide Hfd).1)
          obtain ⟨hd2, ht2, hn2⟩ := find_some hf
          obtain rfl : t2 = t := congrArg Prod.fst (L.one ht2 (unhide Hfd).1 hn2)
          obtain ⟨va, vc, hvv⟩ := ownsRow_shape hRL.own
          obtain ⟨zl, hzl⟩ : ∃ k, Z.length = k := ⟨_, rfl⟩
          rw [hzl] at hvv
          subst hvv
          rw [(unhide Htw).1] at hZ
          have HVw := hide (show (vwP (X.ws (n : Int).toNat) (dbOf T) t2).length = zl by unfold vwP; rw [← hZ, List.length_map, hzl])
          have s8 := o8.size
          have HX8 := hide h8
          have HNK8 := hide ((unhide HNK7).keep o8 (unhide HSn kK (by omega)))
          have HO8 := hide ((unhide HO7).trans (o8.mono (T := (fun k => q.S k ∨ k = g)) (fun _ _ h => .inl h)) (fun _ _ h => h))
          clear CV hf ht2 hn2 hRL hzl hZ h8 o8 HX7 HNK7 HO7
          by_cases hz8 : 8 ≤ zl
          · have d8 : decide ((zl : Int) ≥ 8) = true := decide_eq_true (by omega)
            have d8' : decide ((8 : Int) ≤ (zl : Int)) = true := decide_eq_true (by omega)
            have FF := hide (show WrP q w g x X op S T n t2.nm row true (.returned (.int .i64 6)) w8 from .err t2 hd i 6 (unhide Hfd).1 rfl (unhide Hfd).2.1 (unhide Hfd).2.2.1 rfl (.inr ⟨(unhide Hfd).2.2.2, .inr (.inr ⟨rfl, unhide Hhp, by rw [unhide HVw]; exact hz8, rfl⟩)⟩) (unhide HX8) (unhide HO8))
            clear hz8
            go_wp2_with fail
            go_ret
            exact unhide FF
          have d8 : decide ((zl : Int) ≥ 8) = false := decide_eq_false (by omega)
          have d8' : decide ((8 : Int) ≤ (zl : Int)) = false := decide_eq_false (by omega)
          have Hz8 := hide hz8
          clear hz8
          have CC := mcloneRow_any (unhide HRV w8 (unhide HO8)) (by omega)
          rw [unhide Hrn] at CC
          have CC := hide CC
          go_wp2_with fail
          refine (unhide CC).mono ?_
          rintro e w9 ⟨zb, rfl, O9, hzb, o9⟩
          have s9 := o9.size
          have C9 := xput_any ((unhide HX8).quiet o9).xm hn4 (by rw [(unhide Htw).1]; have := hls.1; omega) ⟨t2.nm, y, false, row⟩ O9
          unfold chA at C9
          have C9 := hide C9
          have HX9 := hide ((unhide HX8).quiet o9)
          have HNK9 := hide ((unhide HNK8).keep o9 (fun h => h))
          have HO9 := hide ((unhide HO8).trans (o9.mono (T := (fun k => q.S k ∨ k = g)) (fun _ _ h => h.elim)) (fun _ _ h => h))
          clear CC O9 o9 HX8 HNK8 HO8
          have k0 : w9.cell? ⟨kK, 0, none⟩ = some (.bool y.str) := (unhide HNK9).cell 0
          have k1 : w9.cell? ⟨kK, 1, none⟩ = some (.int .i64 y.i) := (unhide HNK9).cell 1
          have k2 : w9.cell? ⟨kK, 2, none⟩ = some (.string y.s) := (unhide HNK9).cell 2
          go_wp2_with fail
          refine (unhide C9).mono ?_
          rintro e wA ⟨v', m, hit, rfl, hf, hM, hbb, oA⟩
          have hf2 : FnR (X.ws n) t2.nm (atV row (t2.pk : Int)) (m : Nat) hit := by rw [(unhide Htw).1] at hf; rw [unhide Hy]; exact hf
          have hM2 : XM wA g x ((X.tk i (n : Int).toNat t2.nm 2).setW n v' (putW (X.ws n) m hit ⟨⟨t2.nm, atV row (t2.pk : Int), false, row⟩, .slice (some ⟨zb, 0, none⟩) rn rn⟩)) := by rw [(unhide Htw).1] at hM; rw [unhide Hy]; exact hM
          have hzw : w.heap.size ≤ zb := by omega
          have hI2 : ∀ k, WLi (putW (X.ws n) m hit ⟨⟨t2.nm, atV row (t2.pk : Int), false, row⟩, .slice (some ⟨zb, 0, none⟩) rn rn⟩) k → (X.tk i (n : Int).toNat t2.nm 2).I k ∨ (¬ q.A k ∧ k ≠ x) := fun k hk0 => by
            obtain ⟨c, hc, hk⟩ := hk0
            rcases putW_mem hc with h | h
            · exact .inl ⟨n, hn4, c, by rw [(unhide Htw).1]; exact h, hk⟩
            · rw [h] at hk
              simp [Value.ownBlock] at hk
              exact .inr (unhide HNw k (by omega))
          have hwvv := (Xs.tk_w X i (n : Int).toNat t2.nm 2).1
          have hNN : ∀ k, (v'.ownBlock = some k ∨ WLi (putW (X.ws n) m hit ⟨⟨t2.nm, atV row (t2.pk : Int), false, row⟩, .slice (some ⟨zb, 0, none⟩) rn rn⟩) k) → X.M k ∨ X.I k ∨ w.heap.size ≤ k := fun k hk => by
            rcases hk with hk | ⟨c, hc, hk⟩
            · rcases hbb k hk with h | h
              · exact .inl ⟨n, hn4, by rw [hwvv] at h; exact h⟩
              · exact .inr (.inr (by omega))
            · rcases putW_mem hc with h | h
              · exact .inr (.inl ⟨n, hn4, c, h, hk⟩)
              · rw [h] at hk
                simp [Value.ownBlock] at hk
                exact .inr (.inr (by omega))
          have FF := hide (show WrP q w g x X op S T n t2.nm row true (.returned (.int .i64 0)) wA from .yes t2 hd i (unhide Hfd).1 rfl (unhide Hfd).2.1 (unhide Hfd).2.2.1 rfl ⟨(unhide Hfd).2.2.2, unhide Hhp, fun _ => by rw [unhide HVw]; have := unhide Hz8; omega⟩ v' _ ⟨m, hit, .slice (some ⟨zb, 0, none⟩) rn rn, hf2, rfl⟩ ((unhide HX9).setW hn4 hM2 oA hbb hI2) (((unhide HO9).mono (T := fun k => q.S k ∨ X.U g n k) (fun _ _ h => h.imp id .inl)).trans oA (fun k _ h => .inr (unhide HU k h))) hNN)
          clear hf2 hM2 hI2 hzw hNN hwvv
          clear C9 hf hM hbb oA
          go_wp2_with fail
          go_ret
          exact unhide FF
      | false =>
        cases hp with
        | false =>
          have FF := hide (show WrP q w g x X op S T n t.nm row false (.returned (.int .i64 9)) w7 from .err t hd i 9 (unhide Hfd).1 rfl (unhide Hfd).2.1 (unhide Hfd).2.2.1 rfl (.inr ⟨(unhide Hfd).2.2.2, .inr (.inl ⟨rfl, unhide Hhp, rfl⟩)⟩) (unhide HX7) (unhide HO7))
          go_wp2_with fail
          go_ret
          exact unhide FF
        | true =>
          have CV := hide (xview_any (unhide HX7) L (fun s hs => by rw [(unhide Htw).1]; exact hl s hs) n t.nm)
          go_wp2_with fail
          refine (unhide CV).mono ?_
          rintro e w8 hV
          rcases hV with ⟨hb, _, _, _⟩ | ⟨_, hf, _, _, _⟩ | ⟨_, t2, hf, vv, Z, rfl, hRL, hZ, h8, o8⟩
          · exact absurd (unhide Hgd) hb
          · exact absurd rfl (find_none hf _ (unhide Hfd).1)
          obtain ⟨hd2, ht2, hn2⟩ := find_some hf
          obtain rfl : t2 = t := congrArg Prod.fst (L.one ht2 (unhide Hfd).1 hn2)
          obtain ⟨va, vc, hvv⟩ := ownsRow_shape hRL.own
          obtain ⟨zl, hzl⟩ : ∃ k, Z.length = k := ⟨_, rfl⟩
          rw [hzl] at hvv
          subst hvv
          rw [(unhide Htw).1] at hZ
          have HVw := hide (show (vwP (X.ws (n : Int).toNat) (dbOf T) t2).length = zl by unfold vwP; rw [← hZ, List.length_map, hzl])
          have s8 := o8.size
          have HX8 := hide h8
          have HNK8 := hide ((unhide HNK7).keep o8 (unhide HSn kK (by omega)))
          have HO8 := hide ((unhide HO7).trans (o8.mono (T := (fun k => q.S k ∨ k = g)) (fun _ _ h => .inl h)) (fun _ _ h => h))
          clear CV hf ht2 hn2 hRL hzl hZ h8 o8 HX7 HNK7 HO7
          have CC := mcloneRow_any (unhide HRV w8 (unhide HO8)) (by omega)
          rw [unhide Hrn] at CC
          have CC := hide CC
          go_wp2_with fail
          refine (unhide CC).mono ?_
          rintro e w9 ⟨zb, rfl, O9, hzb, o9⟩
          have s9 := o9.size
          have C9 := xput_any ((unhide HX8).quiet o9).xm hn4 (by rw [(unhide Htw).1]; have := hls.1; omega) ⟨t2.nm, y, false, row⟩ O9
          unfold chA at C9
          have C9 := hide C9
          have HX9 := hide ((unhide HX8).quiet o9)
          have HNK9 := hide ((unhide HNK8).keep o9 (fun h => h))
          have HO9 := hide ((unhide HO8).trans (o9.mono (T := (fun k => q.S k ∨ k = g)) (fun _ _ h => h.elim)) (fun _ _ h => h))
          clear CC O9 o9 HX8 HNK8 HO8
          have k0 : w9.cell? ⟨kK, 0, none⟩ = some (.bool y.str) := (unhide HNK9).cell 0
          have k1 : w9.cell? ⟨kK, 1, none⟩ = some (.int .i64 y.i) := (unhide HNK9).cell 1
          have k2 : w9.cell? ⟨kK, 2, none⟩ = some (.string y.s) := (unhide HNK9).cell 2
          go_wp2_with fail
          refine (unhide C9).mono ?_
          rintro e wA ⟨v', m, hit, rfl, hf, hM, hbb, oA⟩
          have hf2 : FnR (X.ws n) t2.nm (atV row (t2.pk : Int)) (m : Nat) hit := by rw [(unhide Htw).1] at hf; rw [unhide Hy]; exact hf
          have hM2 : XM wA g x ((X.tk i (n : Int).toNat t2.nm 2).setW n v' (putW (X.ws n) m hit ⟨⟨t2.nm, atV row (t2.pk : Int), false, row⟩, .slice (some ⟨zb, 0, none⟩) rn rn⟩)) := by rw [(unhide Htw).1] at hM; rw [unhide Hy]; exact hM
          have hzw : w.heap.size ≤ zb := by omega
          have hI2 : ∀ k, WLi (putW (X.ws n) m hit ⟨⟨t2.nm, atV row (t2.pk : Int), false, row⟩, .slice (some ⟨zb, 0, none⟩) rn rn⟩) k → (X.tk i (n : Int).toNat t2.nm 2).I k ∨ (¬ q.A k ∧ k ≠ x) := fun k hk0 => by
            obtain ⟨c, hc, hk⟩ := hk0
            rcases putW_mem hc with h | h
            · exact .inl ⟨n, hn4, c, by rw [(unhide Htw).1]; exact h, hk⟩
            · rw [h] at hk
              simp [Value.ownBlock] at hk
              exact .inr (unhide HNw k (by omega))
          have hwvv := (Xs.tk_w X i (n : Int).toNat t2.nm 2).1
          have hNN : ∀ k, (v'.ownBlock = some k ∨ WLi (putW (X.ws n) m hit ⟨⟨t2.nm, atV row (t2.pk : Int), false, row⟩, .slice (some ⟨zb, 0, none⟩) rn rn⟩) k) → X.M k ∨ X.I k ∨ w.heap.size ≤ k := fun k hk => by
            rcases hk with hk | ⟨c, hc, hk⟩
            · rcases hbb k hk with h | h
              · exact .inl ⟨n, hn4, by rw [hwvv] at h; exact h⟩
              · exact .inr (.inr (by omega))
            · rcases putW_mem hc with h | h
              · exact .inr (.inl ⟨n, hn4, c, h, hk⟩)
              · rw [h] at hk
                simp [Value.ownBlock] at hk
                exact .inr (.inr (by omega))
          have FF := hide (show WrP q w g x X op S T n t2.nm row false (.returned (.int .i64 0)) wA from .yes t2 hd i (unhide Hfd).1 rfl (unhide Hfd).2.1 (unhide Hfd).2.2.1 rfl ⟨(unhide Hfd).2.2.2, unhide Hhp, fun h => by cases h⟩ v' _ ⟨m, hit, .slice (some ⟨zb, 0, none⟩) rn rn, hf2, rfl⟩ ((unhide HX9).setW hn4 hM2 oA hbb hI2) (((unhide HO9).mono (T := fun k => q.S k ∨ X.U g n k) (fun _ _ h => h.imp id .inl)).trans oA (fun k _ h => .inr (unhide HU k h))) hNN)
          clear hf2 hM2 hI2 hzw hNN hwvv
          clear C9 hf hM hbb oA
          go_wp2_with fail
          go_ret
          exact unhide FF
    · have e0 : (cz != 0) = true := by simpa using hc0
      have FF := hide (show WrP q w g x X op S T n t.nm row fresh (.returned (.int .i64 cz)) w4 from .err t hd i cz (unhide Hfd).1 rfl (unhide Hfd).2.1 (unhide Hfd).2.2.1 rfl (.inl ⟨(unhide Hfd).2.2.2, hc0⟩) (unhide HX4) (unhide HO4))
      clear hc0
      go_wp2_with fail
      go_ret
      exact unhide FF
end
end Go.Proofs.Qxb6500412aGreat
