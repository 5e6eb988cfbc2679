/-
  OWN WORK. TXN: Delete (written by tools/gen_x17.py).
-/
import Derived.Test.Qxb6500412aGreatX16
namespace Go.Proofs.Qxb6500412aGreat
open Go.RowKit Go.PlainAid
set_option linter.unusedSimpArgs false
set_option linter.unusedVariables false

section
variable {q : Gnd} {w w' : World} {g x : Nat} {X : Xs} {op : Bool} {S : Vu} {T : List (Tb × Hd)}
/-- The words behind a Delete. -/
def DlW (l : List WCh) (D : Db) (nm : ByteArray) (key : Vl) (l' : List WCh) : Prop := ∃ (n : Nat) (hit : Bool), FnR l nm key n hit ∧ l' = if blwP D nm key = true then putW l n hit ⟨⟨nm, key, true, []⟩, .slice none 0 0⟩ else drpW l n hit
/-- What Delete leaves. -/
inductive DeP (q : Gnd) (w : World) (g x : Nat) (X : Xs) (op : Bool) (S : Vu) (T : List (Tb × Hd)) (s : Int) (nm : ByteArray) (key : Vl) (e : Ending) (w' : World) : Prop where
  | no (z : Int) (he : e = .returned (.int .i64 z)) (hz : TkE X T s nm 2 z) (hx : XR q w' g x X op S) (ho : Only (fun k => q.S k ∨ k = g) w w')
  | err (t : Tb) (hd : Hd) (i : Nat) (z : Int) (ht : (t, hd) ∈ T) (hn : t.nm = nm) (h0 : inTx X s = 0) (hi : TkI X s nm 2 i) (he : e = .returned (.int .i64 z)) (hz : (chkKey t key = z ∧ z ≠ 0) ∨ (chkKey t key = 0 ∧ hasP (X.ws s.toNat) (dbOf T) nm key = false ∧ z = 9)) (hx : XR q w' g x (X.tk i s.toNat nm 2) op S) (ho : Only (fun k => q.S k ∨ k = g) w w')
  | yes (t : Tb) (hd : Hd) (i : Nat) (ht : (t, hd) ∈ T) (hn : t.nm = nm) (h0 : inTx X s = 0) (hi : TkI X s nm 2 i) (he : e = .returned (.int .i64 0)) (hc : chkKey t key = 0) (hh : hasP (X.ws s.toNat) (dbOf T) nm key = true) (v' : Value) (l' : List WCh) (hl : DlW (X.ws s.toNat) (dbOf T) nm key l') (hx : XR q w' g x ((X.tk i s.toNat nm 2).setW s.toNat v' l') op S) (ho : Only (fun k => q.S k ∨ X.U g s.toNat k) w w') (hnw : ∀ k, (v'.ownBlock = some k ∨ WLi l' k) → X.M k ∨ X.I k ∨ w.heap.size ≤ k)
set_option maxRecDepth 100000 in
set_option maxHeartbeats 8000000 in
theorem xdelete_any (H : XR q w g x X op S) (L : Lay S T) (hl : ∀ s, s < 4 → (X.ws s).length ≤ 100 ∧ ∀ c ∈ X.ws s, c.d.row.length ≤ 1000) (s : Int) (nm : ByteArray) (key : Vl) (hkw : key.wf) : Calls Tryz.prog 251 #[.pointer (some ⟨g, 0, none⟩), .int .i64 s, .string nm, vlA key] w (DeP q w g x X op S T s nm key) := by
  have o0 : Only (fun _ => False) w (w.alloc (.cells #[.bool key.str, .int .i64 key.i, .string key.s] 152)) := (Only.refl _ w).alloc _
  have NK := Has.new w #[.bool key.str, .int .i64 key.i, .string key.s] 152
  have C1 := hide (xtake_any (H.quiet o0) L s nm 2)
  have HSn := hide (show ∀ k, w.heap.size ≤ k → ¬ q.S k from fun k hk => H.st.new hk)
  have HNG := hide (show ¬ q.S g from fun h => (H.off g (.inl rfl)).1 (Gnd.S_A h))
  have hgw : g < w.heap.size := H.xm.has.lt
  have HO := hide o0
  have HNK := hide NK
  unfold vlA
  clear H o0 NK
  go_enter Tryz.func251, Tryz.ntmps251
  go_upto_region 1 with fail
  generalize w.alloc (.cells #[.bool key.str, .int .i64 key.i, .string key.s] 152) = w0 at *
  have s0 := (unhide HO).size
  generalize hkK : w.heap.size = kK at *
  go_wp2_with fail
  refine (unhide C1).mono ?_
  rintro e w2 hT
  have hB : ∀ k, kK ≤ k → ¬ (q.S k ∨ k = g) := fun k hk c => c.elim (unhide HSn k (by omega)) (fun e => by omega)
  rcases hT with ⟨z, rfl, hz, hx, ho⟩ | ⟨t, hd, cv, i, ht, rfl, h0, rfl, hcv, hnew, hi, hx, ho⟩
  · unfold schZ
    have z0 : (z != 0) = true := by simpa using hz.1
    have z1 : (z == 0) = false := ne_intO hz.1
    have FF := hide (show ∀ o : Obj, DeP q w g x X op S T s nm key (.returned (.int .i64 z)) (w2.alloc o) from fun o => .no z rfl hz (hx.quiet ((Only.refl _ w2).alloc o)) ((((unhide HO).mono (T := (fun k => q.S k ∨ k = g)) (fun _ _ h => h.elim)).trans ho (fun _ _ h => .inl h)).trans (((Only.refl (fun _ => False) w2).alloc o).mono (T := (fun k => q.S k ∨ k = g)) (fun _ _ h => h.elim)) (fun _ _ h => h)))
    clear hz hx ho C1
    go_wp2_with fail
    go_ret
    exact unhide FF _
  · obtain ⟨hgs, _⟩ := inTx_ok h0
    obtain ⟨n, rfl⟩ : ∃ n : Nat, s = n := ⟨s.toNat, by have := hgs.1; omega⟩
    have hn4 : n < 4 := by have := hgs.2; omega
    have n4 : (n : Int) < 4 := by omega
    have s2 := ho.size
    obtain ⟨xcol, hcol⟩ := getE (l := t.cols) (i := t.pk) (L.tb _ ht).pkn
    have hck : chkKey t key = chkVal xcol key := by unfold chkKey; rw [hcol]; rfl
    obtain ⟨ca, cc, rfl⟩ := hcv.shape
    have o3 : ∀ o : Obj, Only (fun _ => False) w2 (w2.alloc o) := fun o => (Only.refl _ w2).alloc o
    have CK := eCheckVal_any (hcv.keep (o3 (.cells #[.string t.nm, .slice ca t.cols.length cc, .int .i64 (t.pk : Int), .int .i64 (ixI t.ix)] 79)) (fun _ _ h => h)) t.nm (t.pk : Int) (ixI t.ix) t.pk hcol key
    obtain ⟨cz, hcz⟩ : ∃ z, chkKey t key = z := ⟨_, rfl⟩
    rw [← hck, hcz] at CK
    unfold schA vlA at CK
    generalize t.cols.length = cn at *
    unfold scC
    have o3 := o3 (.cells #[.string t.nm, .slice ca cn cc, .int .i64 (t.pk : Int), .int .i64 (ixI t.ix)] 79)
    have htw := (Xs.tk_w X i (n : Int).toNat t.nm 2).2
    have Htw := hide htw
    have hls := hl n hn4
    have HX3 := hide (hx.quiet o3)
    have HNK3 := hide (((unhide HNK).keep ho (hB kK (by omega))).keep o3 (fun h => h))
    have HO3 := hide ((((unhide HO).mono (T := (fun k => q.S k ∨ k = g)) (fun _ _ h => h.elim)).trans ho (fun _ _ h => h)).trans (o3.mono (T := (fun k => q.S k ∨ k = g)) (fun _ _ h => h.elim)) (fun _ _ h => h))
    have HD3 := hide (Has.new w2 #[.string t.nm, .slice ca cn cc, .int .i64 (t.pk : Int), .int .i64 (ixI t.ix)] 79)
    have Hfd := hide (And.intro ht (And.intro h0 (And.intro hi hcz)))
    have CK := hide CK
    clear C1 hx ho o3 hcv hnew ht h0 hi hgs htw hck hcz hcol
    go_upto_region 2 with fail
    generalize w2.alloc (.cells #[.string t.nm, .slice ca cn cc, .int .i64 (t.pk : Int), .int .i64 (ixI t.ix)] 79) = w3 at *
    generalize hkd : w2.heap.size = kd at *
    have kd3 := (unhide HD3).lt
    have k0 : w3.cell? ⟨kK, 0, none⟩ = some (.bool key.str) := (unhide HNK3).cell 0
    have k1 : w3.cell? ⟨kK, 1, none⟩ = some (.int .i64 key.i) := (unhide HNK3).cell 1
    have k2 : w3.cell? ⟨kK, 2, none⟩ = some (.string key.s) := (unhide HNK3).cell 2
    have m0 : w3.cell? ⟨kd, 0, none⟩ = some (.string t.nm) := (unhide HD3).cell 0
    have m1 : w3.cell? ⟨kd, 1, none⟩ = some (.slice ca cn cc) := (unhide HD3).cell 1
    have m2 : w3.cell? ⟨kd, 2, none⟩ = some (.int .i64 (t.pk : Int)) := (unhide HD3).cell 2
    have m3 : w3.cell? ⟨kd, 3, none⟩ = some (.int .i64 (ixI t.ix)) := (unhide HD3).cell 3
    go_wp2_with fail
    refine (unhide CK).mono ?_
    rintro e w4 ⟨rfl, o4⟩
    have s4 := o4.size
    have HX4 := hide ((unhide HX3).quiet o4)
    have HNK4 := hide ((unhide HNK3).keep o4 (fun h => h))
    have HO4 := hide ((unhide HO3).trans (o4.mono (T := (fun k => q.S k ∨ k = g)) (fun _ _ h => h.elim)) (fun _ _ h => h))
    clear CK o4 k0 k1 k2 m0 m1 m2 m3 HX3 HNK3 HO3
    by_cases hc0 : cz = 0
    · subst hc0
      have C5 := xhas_any (unhide HX4) L hn4 (by rw [(unhide Htw).1]; have := hls.1; omega) t.nm key hkw
      rw [(unhide Htw).1] at C5
      obtain ⟨hp, hhp⟩ : ∃ b : Bool, hasP (X.ws n) (dbOf T) t.nm key = b := ⟨_, rfl⟩
      rw [hhp] at C5
      unfold vlA at C5
      have C5 := hide C5
      have Hhp := hide hhp
      have k0 : w4.cell? ⟨kK, 0, none⟩ = some (.bool key.str) := (unhide HNK4).cell 0
      have k1 : w4.cell? ⟨kK, 1, none⟩ = some (.int .i64 key.i) := (unhide HNK4).cell 1
      have k2 : w4.cell? ⟨kK, 2, none⟩ = some (.string key.s) := (unhide HNK4).cell 2
      clear hhp
      go_wp2_with fail
      refine (unhide C5).mono ?_
      rintro e w5 ⟨rfl, h5, o5⟩
      have s5 := o5.size
      have HX5 := hide h5
      have HNK5 := hide ((unhide HNK4).keep o5 (unhide HSn kK (by omega)))
      have HO5 := hide ((unhide HO4).trans (o5.mono (T := (fun k => q.S k ∨ k = g)) (fun _ _ h => .inl h)) (fun _ _ h => h))
      clear C5 h5 o5 k0 k1 k2 HX4 HNK4 HO4
      cases hp with
      | false =>
        have FF := hide (show DeP q w g x X op S T n t.nm key (.returned (.int .i64 9)) w5 from .err t hd i 9 (unhide Hfd).1 rfl (unhide Hfd).2.1 (unhide Hfd).2.2.1 rfl (.inr ⟨(unhide Hfd).2.2.2, unhide Hhp, rfl⟩) (unhide HX5) (unhide HO5))
        go_wp2_with fail
        go_ret
        exact unhide FF
      | true =>
        have C6 := xbelow_any (unhide HX5) L t.nm key hkw
        obtain ⟨bw, hbw⟩ : ∃ b : Bool, blwP (dbOf T) t.nm key = b := ⟨_, rfl⟩
        rw [hbw] at C6
        unfold vlA at C6
        have C6 := hide C6
        have Hbw := hide hbw
        have k0 : w5.cell? ⟨kK, 0, none⟩ = some (.bool key.str) := (unhide HNK5).cell 0
        have k1 : w5.cell? ⟨kK, 1, none⟩ = some (.int .i64 key.i) := (unhide HNK5).cell 1
        have k2 : w5.cell? ⟨kK, 2, none⟩ = some (.string key.s) := (unhide HNK5).cell 2
        clear hbw
        go_wp2_with fail
        refine (unhide C6).mono ?_
        rintro e w6 ⟨rfl, h6, o6⟩
        have s6 := o6.size
        have HX6 := hide h6
        have HNK6 := hide ((unhide HNK5).keep o6 (unhide HSn kK (by omega)))
        have HO6 := hide ((unhide HO5).trans (o6.mono (T := (fun k => q.S k ∨ k = g)) (fun _ _ h => .inl h)) (fun _ _ h => h))
        have HU : Hid (∀ k, (X.tk i (n : Int).toNat t.nm 2).U g n k → X.U g n k) := hide (fun k hk => by
          have := (Xs.tk_w X i (n : Int).toNat t.nm 2).1
          rcases hk with e | e
          · exact .inl e
          · exact .inr (by rw [this] at e; exact e))
        clear C6 h6 o6 k0 k1 k2 HX5 HNK5 HO5
        have k0 : w6.cell? ⟨kK, 0, none⟩ = some (.bool key.str) := (unhide HNK6).cell 0
        have k1 : w6.cell? ⟨kK, 1, none⟩ = some (.int .i64 key.i) := (unhide HNK6).cell 1
        have k2 : w6.cell? ⟨kK, 2, none⟩ = some (.string key.s) := (unhide HNK6).cell 2
        cases bw with
        | true =>
          have C7 := xput_any (unhide HX6).xm hn4 (by rw [(unhide Htw).1]; have := hls.1; omega) ⟨t.nm, key, true, []⟩ (ua := none) (un := 0) (uc := 0) (OwnV.nil _)
          unfold chA at C7
          have C7 := hide C7
          go_wp2_with fail
          refine (unhide C7).mono ?_
          rintro e w7 ⟨v', m, hit, rfl, hf, hM, hbb, o7⟩
          have hwvv := (Xs.tk_w X i (n : Int).toNat t.nm 2).1
          have hNN : ∀ k, (v'.ownBlock = some k ∨ WLi (putW ((X.tk i (n : Int).toNat t.nm 2).ws n) m hit ⟨⟨t.nm, key, true, []⟩, .slice none 0 0⟩) k) → X.M k ∨ X.I k ∨ w.heap.size ≤ k := fun k hk => by
            rcases hk with hk | ⟨c, hc, hk⟩
            · rcases hbb k hk with h | h
              · exact .inl ⟨n, hn4, by rw [hwvv] at h; exact h⟩
              · exact .inr (.inr (by omega))
            · rcases putW_mem hc with h | h
              · exact .inr (.inl ⟨n, hn4, c, by rw [(unhide Htw).1] at h; exact h, hk⟩)
              · rw [h] at hk; simp [Value.ownBlock] at hk
          have FF := hide (show DeP q w g x X op S T n t.nm key (.returned (.int .i64 0)) w7 from .yes t hd i (unhide Hfd).1 rfl (unhide Hfd).2.1 (unhide Hfd).2.2.1 rfl (unhide Hfd).2.2.2 (unhide Hhp) v' _ ⟨m, hit, by rw [(unhide Htw).1] at hf; exact hf, by rw [unhide Hbw, if_pos rfl]; rw [(unhide Htw).1]; rfl⟩ ((unhide HX6).setW hn4 hM o7 hbb (fun k ⟨c, hc, hk⟩ => by
            rcases putW_mem hc with h | h
            · exact .inl ⟨n, hn4, c, h, hk⟩
            · rw [h] at hk; simp [Value.ownBlock] at hk)) (((unhide HO6).mono (T := fun k => q.S k ∨ X.U g n k) (fun _ _ h => h.imp id .inl)).trans o7 (fun k _ h => .inr (unhide HU k h))) hNN)
          clear C7 hf hM hbb o7 k0 k1 k2 hNN hwvv
          go_wp2_with fail
          go_ret
          exact unhide FF
        | false =>
          have C7 := xdrop_any (unhide HX6).xm hn4 (by rw [(unhide Htw).1]; have := hls.1; omega) t.nm key
          unfold vlA at C7
          have C7 := hide C7
          go_wp2_with fail
          refine (unhide C7).mono ?_
          rintro e w7 ⟨v', m, hit, rfl, hf, hM, hbb, o7⟩
          have hwvv := (Xs.tk_w X i (n : Int).toNat t.nm 2).1
          have hNN : ∀ k, (v'.ownBlock = some k ∨ WLi (drpW ((X.tk i (n : Int).toNat t.nm 2).ws n) m hit) k) → X.M k ∨ X.I k ∨ w.heap.size ≤ k := fun k hk => by
            rcases hk with hk | ⟨c, hc, hk⟩
            · rcases hbb k hk with h | h
              · exact .inl ⟨n, hn4, by rw [hwvv] at h; exact h⟩
              · exact .inr (.inr (by omega))
            · have hc' : c ∈ (X.tk i (n : Int).toNat t.nm 2).ws n := by
                unfold drpW at hc
                split at hc
                · exact List.mem_of_mem_eraseIdx hc
                · exact hc
              exact .inr (.inl ⟨n, hn4, c, by rw [(unhide Htw).1] at hc'; exact hc', hk⟩)
          have FF := hide (show DeP q w g x X op S T n t.nm key (.returned (.int .i64 0)) w7 from .yes t hd i (unhide Hfd).1 rfl (unhide Hfd).2.1 (unhide Hfd).2.2.1 rfl (unhide Hfd).2.2.2 (unhide Hhp) v' _ ⟨m, hit, by rw [(unhide Htw).1] at hf; exact hf, by rw [unhide Hbw, if_neg (by simp)]; rw [(unhide Htw).1]; rfl⟩ ((unhide HX6).setW hn4 hM o7 hbb (fun k ⟨c, hc, hk⟩ => by
            have hc' : c ∈ (X.tk i (n : Int).toNat t.nm 2).ws n := by
              unfold drpW at hc
              split at hc
              · exact List.mem_of_mem_eraseIdx hc
              · exact hc
            exact .inl ⟨n, hn4, c, hc', hk⟩)) (((unhide HO6).mono (T := fun k => q.S k ∨ X.U g n k) (fun _ _ h => h.imp id .inl)).trans o7 (fun k _ h => .inr (unhide HU k h))) hNN)
          clear C7 hf hM hbb o7 k0 k1 k2 hNN hwvv
          go_wp2_with fail
          go_ret
          exact unhide FF
    · have e0 : (cz != 0) = true := by simpa using hc0
      have FF := hide (show DeP q w g x X op S T n t.nm key (.returned (.int .i64 cz)) w4 from .err t hd i cz (unhide Hfd).1 rfl (unhide Hfd).2.1 (unhide Hfd).2.2.1 rfl (.inl ⟨(unhide Hfd).2.2.2, hc0⟩) (unhide HX4) (unhide HO4))
      clear hc0
      go_wp2_with fail
      go_ret
      exact unhide FF
end
end Go.Proofs.Qxb6500412aGreat
