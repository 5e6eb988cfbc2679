/-
  OWN WORK. THE GRAPH's MODEL: api's Weight.
-/
import Derived.Test.Qxb6500417aGreatHWt1
namespace Go.Proofs.Qxb6500417aGreat
open Go.RowKit Go.PlainAid
set_option linter.unusedSimpArgs false
set_option linter.unusedVariables false

/-- A list of snapshots in memory (to be read). -/
def SnIn (w : World) (v : Value) (ss : List (List Fl)) : Prop := ∃ a cap, v = .slice a ss.length cap ∧ (0 < ss.length → ∃ g, a = some ⟨g, 0, none⟩ ∧ ∀ i (h : i < ss.length), ∃ fv, w.cell? ⟨g, i, none⟩ = some fv ∧ FilesIn w fv ss[i])
theorem SnIn.quiet {w w' : World} {v : Value} {ss : List (List Fl)} (h : SnIn w v ss) (ho : Only (fun _ => False) w w') : SnIn w' v ss := by
  obtain ⟨a, cap, rfl, h2⟩ := h
  refine ⟨a, cap, rfl, fun hn => ?_⟩
  obtain ⟨g, rfl, hc⟩ := h2 hn
  refine ⟨g, rfl, fun i hi => ?_⟩
  obtain ⟨fv, c, hF⟩ := hc i hi
  have hgl : g < w.heap.size := World.block_lt_of_cell? w _ c
  exact ⟨fv, (World.cell?_of_block (ho.block g hgl (fun h => h))).trans c, hF.keep ho (fun _ _ h => h)⟩
theorem SnIn.cellAt {w : World} {v : Value} {ss : List (List Fl)} (h : SnIn w v ss) {i : Nat} (hi : i < ss.length) : ∃ g cap, v = .slice (some ⟨g, 0, none⟩) ss.length cap ∧ g < w.heap.size ∧ ∃ fv, w.cell? ⟨g, i, none⟩ = some fv ∧ FilesIn w fv ss[i] := by
  obtain ⟨a, cap, rfl, h2⟩ := h
  obtain ⟨g, rfl, hc⟩ := h2 (by omega)
  obtain ⟨fv, c, hF⟩ := hc i hi
  exact ⟨g, cap, rfl, World.block_lt_of_cell? w _ c, fv, c, hF⟩
theorem SnIn.shape {w : World} {v : Value} {ss : List (List Fl)} (h : SnIn w v ss) : ∃ a cap, v = .slice a ss.length cap := by
  obtain ⟨a, cap, rfl, _⟩ := h; exact ⟨a, cap, rfl⟩
/-- Another list stays, and stays apart. -/
theorem SM.other {w wr w' : World} {xv tv tv' : Value} {X Tn To : List ByteArray} (h : SM w xv X wr) (ht : SM w tv To wr) (ha : AdP w tv tv' Tn wr w') (hne : ∀ y, xv.ownBlock = some y → tv.ownBlock ≠ some y) : SM w xv X w' ∧ ∀ y, xv.ownBlock = some y → tv'.ownBlock ≠ some y := by
  refine ⟨h.keep ha.only (fun y hy e => hne y hy e) (fun y hy => ht.hb y hy), fun y hy e => ?_⟩
  rcases ha.whr y e with e2 | e2
  · exact hne y hy e2
  · have := ownsRow_lt h.own y hy; omega
/-- Two lists that grow. -/
structure TwoS (w : World) (bv tv : Value) (B T : List ByteArray) (wr : World) : Prop where
  b : SM w bv B wr
  t : SM w tv T wr
  ne : ∀ y, bv.ownBlock = some y → tv.ownBlock ≠ some y
theorem TwoS.quiet {w : World} {bv tv : Value} {B T : List ByteArray} {wr w' : World} (h : TwoS w bv tv B T wr) (ho : Only (fun _ => False) wr w') : TwoS w bv tv B T w' := ⟨h.b.quiet ho, h.t.quiet ho, h.ne⟩
theorem TwoS.addB {w wr w' : World} {bv bv' tv : Value} {B B' T : List ByteArray} (h : TwoS w bv tv B T wr) (ha : AdP w bv bv' B' wr w') : TwoS w bv' tv B' T w' := by
  obtain ⟨h1, h2⟩ := h.t.other h.b ha (fun y hy e => h.ne y e hy)
  exact ⟨ha.sm, h1, fun y hy e => h2 y e hy⟩
theorem TwoS.addT {w wr w' : World} {bv tv tv' : Value} {B T T' : List ByteArray} (h : TwoS w bv tv B T wr) (ha : AdP w tv tv' T' wr w') : TwoS w bv tv' B T' w' := by
  obtain ⟨h1, h2⟩ := h.b.other h.t ha h.ne
  exact ⟨h1, ha.sm, h2⟩
def datT (ss : List (List Fl)) : List ByteArray := ss.flatMap (fun l => l.map Fl.data)
def keyTs (ss : List (List Fl)) : List ByteArray := ss.flatMap (fun l => (dirsF l).map (keyD l))
theorem datT_step {ss : List (List Fl)} {i : Nat} (hi : i < ss.length) : addOs [] (datT (ss.take (i + 1))) = addOs (addOs [] (datT (ss.take i))) ((ss[i]).map Fl.data) := by
  rw [← addOs_append]
  congr 1
  unfold datT
  rw [← take_snoc hi, List.flatMap_append]
  simp
theorem keyTs_step {ss : List (List Fl)} {i : Nat} (hi : i < ss.length) : addOs [] (keyTs (ss.take (i + 1))) = addOs (addOs [] (keyTs (ss.take i))) ((dirsF ss[i]).map (keyD ss[i])) := by
  rw [← addOs_append]
  congr 1
  unfold keyTs
  rw [← take_snoc hi, List.flatMap_append]
  simp
theorem map_step {α : Type} {f : α → ByteArray} {l : List α} {k : Nat} {B : List ByteArray} (hk : k < l.length) : addOs B ((l.take (k + 1)).map f) = addO (addOs B ((l.take k).map f)) (f l[k]) := by
  rw [← take_snoc hk, List.map_append, addOs_append]; rfl
/-- What Weight may be asked. -/
structure SnS (ss : List (List Fl)) : Prop where
  n : ss.length ≤ 50
  l : ∀ l ∈ ss, l.length ≤ 9
  f : ∀ l ∈ ss, ∀ f ∈ l, FlS f
theorem datT_len {ss : List (List Fl)} (h : ∀ l ∈ ss, l.length ≤ 9) : (datT ss).length ≤ ss.length * 9 := by
  induction ss with
  | nil => simp [datT]
  | cons l ss ih =>
    have h1 := ih (fun x hx => h x (by simp [hx]))
    have h2 := h l (by simp)
    unfold datT at h1 ⊢
    rw [List.flatMap_cons, List.length_append, List.length_cons, List.length_map]
    omega
theorem keyTs_len {ss : List (List Fl)} (h : ∀ l ∈ ss, l.length ≤ 9) (hf : ∀ l ∈ ss, ∀ f ∈ l, FlS f) : (keyTs ss).length ≤ ss.length * 10000 := by
  induction ss with
  | nil => simp [keyTs]
  | cons l ss ih =>
    have h1 := ih (fun x hx => h x (by simp [hx])) (fun x hx => hf x (by simp [hx]))
    have h2 := h l (by simp)
    have h3 := dirsF_len l (fun f hff => by have := (hf l (by simp) f hff).p; omega)
    unfold keyTs at h1 ⊢
    rw [List.flatMap_cons, List.length_append, List.length_cons, List.length_map]
    omega
/-- Three lists: contents, directories' keys, this snapshot's directories. -/
structure ThrS (w : World) (bv tv dv : Value) (B T D : List ByteArray) (wr : World) : Prop where
  two : TwoS w bv tv B T wr
  d : SM w dv D wr
  ne : ∀ y, dv.ownBlock = some y → tv.ownBlock ≠ some y
theorem ThrS.quiet {w : World} {bv tv dv : Value} {B T D : List ByteArray} {wr w' : World} (h : ThrS w bv tv dv B T D wr) (ho : Only (fun _ => False) wr w') : ThrS w bv tv dv B T D w' := ⟨h.two.quiet ho, h.d.quiet ho, h.ne⟩
theorem ThrS.addT {w wr w' : World} {bv tv tv' dv : Value} {B T T' D : List ByteArray} (h : ThrS w bv tv dv B T D wr) (ha : AdP w tv tv' T' wr w') : ThrS w bv tv' dv B T' D w' := by
  obtain ⟨h1, h2⟩ := h.d.other h.two.t ha h.ne
  exact ⟨h.two.addT ha, h1, h2⟩
theorem TwoS.three {w wr w' : World} {bv tv dv : Value} {B T D : List ByteArray} (h : TwoS w bv tv B T wr) (hd : SM wr dv D w') : ThrS w bv tv dv B T D w' := by
  have hs := h.b.ho.size
  refine ⟨h.quiet hd.ho, ⟨hd.own, fun y hy => by have := hd.hb y hy; omega, h.b.ho.trans hd.ho (fun _ _ h => h)⟩, fun y hy e => ?_⟩
  have h1 := hd.hb y hy
  have h2 := ownsRow_lt h.t.own y e
  omega
theorem encF_len {f : Fl} (h : FlS f) : (encF f).length ≤ 1100 := by
  have h1 := itoa_len f.path.size
  have h2 := itoa_len f.mode.toNat
  have h3 := itoa_len f.data.size
  have h4 := ls_size f.path
  have h5 := ls_size f.data
  have := h.p
  have := h.d
  unfold encF
  simp only [List.length_append, List.length_cons]
  omega
theorem relFs_ok {l : List Fl} (h : ∀ f ∈ l, FlS f) (d : Str) : ∀ f ∈ relF l d, FlS f := fun f hf => by
  unfold relF at hf
  obtain ⟨x, hx, he⟩ := List.mem_filterMap.1 hf
  by_cases hp : preB d (ls x.path) = true
  · rw [if_pos hp] at he
    cases he
    have hq := h x hx
    refine ⟨?_, hq.d, hq.m0, hq.m⟩
    show (sb _).size ≤ 500
    rw [sb_size, List.length_drop, ls_size]
    have := hq.p; omega
  · rw [if_neg hp] at he; cases he
theorem keyL_len : ∀ {l : List Fl}, (∀ f ∈ l, FlS f) → (keyL l).length ≤ l.length * 1100
  | [], _ => by simp [keyL]
  | f :: l, h => by
    have h1 := keyL_len (l := l) (fun x hx => h x (by simp [hx]))
    have h2 := encF_len (h f (by simp))
    unfold keyL at h1 ⊢
    rw [List.flatMap_cons, List.length_append, List.length_cons]
    omega
theorem keyT_len {l : List Fl} {d : ByteArray} (h : ∀ f ∈ l, FlS f) (hl : l.length ≤ 9) (i : Nat) : (keyT' l d i).length ≤ 9900 := by
  unfold keyT'
  have h1 := keyL_len (relFs_ok (fun f hf => h f (List.mem_of_mem_take hf)) (ls d) : ∀ f ∈ relF (l.take i) (ls d), FlS f)
  have h2 : (relF (l.take i) (ls d)).length ≤ (l.take i).length := by unfold relF; exact List.length_filterMap_le _ _
  rw [List.length_take] at h2
  omega
theorem key_cat (k0 n1 r n2 n3 dt : ByteArray) : ((((((((k0 ++ n1) ++ (⟨#[58]⟩ : ByteArray)) ++ r) ++ n2) ++ (⟨#[58]⟩ : ByteArray)) ++ n3) ++ (⟨#[58]⟩ : ByteArray)) ++ dt) = sb (ls k0 ++ (ls n1 ++ 58 :: (ls r ++ (ls n2 ++ 58 :: (ls n3 ++ 58 :: ls dt))))) := by
  apply ls_inj
  rw [ls_sb]
  have e : ls (⟨#[58]⟩ : ByteArray) = [58] := rfl
  simp only [ls_cat, e, List.append_assoc, List.cons_append, List.nil_append]
theorem rel_cut (p d : ByteArray) : p.extract d.size p.size = sb ((ls p).drop (ls d).length) := by
  apply ls_inj
  rw [ls_cut, ls_sb, ls_size, List.take_of_length_le]
  rw [List.length_drop, ls_size]; omega
theorem pre_le {d p : ByteArray} (h : preB (ls d) (ls p) = true) : d.size ≤ p.size := by
  have := (of_decide_eq_true h : ls d <+: ls p).length_le
  rwa [ls_size, ls_size] at this
/-- The key, its eight pieces laid one behind the other. -/
theorem cat8 (k0 n1 r n2 n3 dt : ByteArray) (h : k0.size + n1.size + r.size + n2.size + n3.size + dt.size ≤ 100000) : ∃ q1 q2 q3 q4 q5 q6 q7 q8 : ByteArray, binOp .add 9 (.string k0) (.string n1) = pure (.string q1) ∧ binOp .add 9 (.string q1) (.string ⟨#[58]⟩) = pure (.string q2) ∧ binOp .add 9 (.string q2) (.string r) = pure (.string q3) ∧ binOp .add 9 (.string q3) (.string n2) = pure (.string q4) ∧ binOp .add 9 (.string q4) (.string ⟨#[58]⟩) = pure (.string q5) ∧ binOp .add 9 (.string q5) (.string n3) = pure (.string q6) ∧ binOp .add 9 (.string q6) (.string ⟨#[58]⟩) = pure (.string q7) ∧ binOp .add 9 (.string q7) (.string dt) = pure (.string q8) ∧ q8 = sb (ls k0 ++ (ls n1 ++ 58 :: (ls r ++ (ls n2 ++ 58 :: (ls n3 ++ 58 :: ls dt))))) := by
  have e1 : (⟨#[58]⟩ : ByteArray).size = 1 := rfl
  refine ⟨_, _, _, _, _, _, _, _, str_add _ _ ?_, str_add _ _ ?_, str_add _ _ ?_, str_add _ _ ?_, str_add _ _ ?_, str_add _ _ ?_, str_add _ _ ?_, str_add _ _ ?_, key_cat _ _ _ _ _ _⟩ <;> (try simp only [ByteArray.size_append, e1]) <;> omega
section
variable {w : World}
set_option maxRecDepth 100000 in
set_option maxHeartbeats 16000000 in
theorem aweight_any {v : Value} {ss : List (List Fl)} (h : SnIn w v ss) (hs : SnS ss) :
    Calls Tryz.prog 183 #[v] w fun e w' => e = .returned (.int .i64 (weightA ss : Nat)) ∧ Only (fun _ => False) w w' := by
  have H0 := hide h
  have HS := hide hs
  have hn := hs.n
  obtain ⟨a, cap, rfl⟩ := h.shape
  have HT0 : Hid (TwoS w (.slice none 0 0) (.slice none 0 0) (addOs [] (datT (ss.take 0))) (addOs [] (keyTs (ss.take 0))) w) := hide ⟨SM.nil w, SM.nil w, fun y hy => by simp [Value.ownBlock] at hy⟩
  clear h hs
  go_enter Tryz.func183, Tryz.ntmps183
  go_wp2_with fail
  go_loopw [3, 4, 5] (fun bv tv iv wr => ∃ i : Nat, iv = .int .i64 i ∧ i ≤ ss.length ∧ TwoS w bv tv (addOs [] (datT (ss.take i))) (addOs [] (keyTs (ss.take i))) wr) (fun _ _ iv _ => ss.length - (intOf iv).toNat)
  case atStart => exact ⟨0, rfl, by omega, unhide HT0⟩
  case round =>
    clear HT0
    obtain ⟨i, rfl, hi, hM⟩ := hrel
    by_cases hil : i < ss.length
    · have hOw := hM.b.ho
      obtain ⟨gg, _, he, hgl, fv, cf0, hF⟩ := (unhide H0).cellAt hil
      obtain ⟨rfl, rfl⟩ := slice_eq he
      have cf := (World.cell?_of_block (hOw.block gg hgl (fun h => h))).trans cf0
      have hgl2 : gg < wr.heap.size := by have := hOw.size; omega
      clear cf0 hgl
      have a1 : decide ((i : Int) < (ss.length : Int)) = true := decide_eq_true (by omega)
      have a1n : decide (i < ss.length) = true := decide_eq_true hil
      have a2 : (i : Int) < (ss.length : Int) := by omega
      have hmem := List.getElem_mem hil
      have hl9 := (unhide HS).l _ hmem
      have hfs := (unhide HS).f _ hmem
      have hd1 := datT_step hil
      have hk1 := keyTs_step hil
      have hBl : (addOs [] (datT (ss.take i))).length ≤ 500 := by
        have h1 := addOs_len (datT (ss.take i)) []
        have h2 := datT_len (ss := ss.take i) (fun l hl => (unhide HS).l l (List.mem_of_mem_take hl))
        rw [List.length_take] at h2
        simp at h1; omega
      have hTl : (addOs [] (keyTs (ss.take i))).length ≤ 500000 := by
        have h1 := addOs_len (keyTs (ss.take i)) []
        have h2 := keyTs_len (ss := ss.take i) (fun l hl => (unhide HS).l l (List.mem_of_mem_take hl)) (fun l hl => (unhide HS).f l (List.mem_of_mem_take hl))
        rw [List.length_take] at h2
        simp at h1; omega
      have Hd1 := hide hd1
      have Hk1 := hide hk1
      have Hfs := hide hfs
      have HF := hide hF
      obtain ⟨fa, fc, hfe⟩ := hF.shape
      subst hfe
      obtain ⟨ta, tc, hte⟩ := hM.t.shape
      have HM := hide hM
      clear hM he hF hfs hd1 hk1 hOw hmem
      generalize hB0 : addOs [] (datT (ss.take i)) = B0 at *
      generalize hT0 : addOs [] (keyTs (ss.take i)) = T0 at *
      clear hB0 hT0
      subst hte
      generalize hll : ss[i] = l at *
      clear hll
      obtain ⟨ba, bc, hbe⟩ := (unhide HM).b.shape
      subst hbe
      have HM2 : Hid (TwoS w (.slice ba B0.length bc) (.slice ta T0.length tc) (addOs B0 ((l.take 0).map Fl.data)) T0 wr) := hide (unhide HM)
      go_wp2_with fail
      go_loopw [3, 7] (fun bv kv wr2 => ∃ k : Nat, kv = .int .i64 k ∧ k ≤ l.length ∧ TwoS w bv (.slice ta T0.length tc) (addOs B0 ((l.take k).map Fl.data)) T0 wr2) (fun _ kv _ => l.length - (intOf kv).toNat)
      case atStart => exact ⟨0, rfl, by omega, unhide HM2⟩
      case round =>
        clear HM HM2 cf
        as_aux_lemma =>
        obtain ⟨k, rfl, hk, hM⟩ := hrel
        by_cases hkl : k < l.length
        · obtain ⟨gf, _, he, hgfl, _, c1, _⟩ := ((unhide HF).keep hM.b.ho (fun _ _ h => h)).cellAt hkl
          obtain ⟨rfl, rfl⟩ := slice_eq he
          have b1 : decide ((k : Int) < (l.length : Int)) = true := decide_eq_true (by omega)
          have b1n : decide (k < l.length) = true := decide_eq_true hkl
          have b2 : (k : Int) < (l.length : Int) := by omega
          have hlen : (addOs B0 ((l.take k).map Fl.data)).length ≤ 1000000 := by
            have h1 := addOs_len ((l.take k).map Fl.data) B0
            rw [List.length_map, List.length_take] at h1
            omega
          have hst := map_step (f := Fl.data) (B := B0) hkl
          have C1 := aaddOnce_any hM.b hlen (l[k]).data
          rw [← hst] at C1
          have C1 := hide C1
          have HM := hide hM
          obtain ⟨ba2, bc2, hbe⟩ := hM.b.shape
          subst hbe
          clear hM he hst
          generalize addOs B0 ((l.take k).map Fl.data) = B2 at *
          generalize hB3 : addOs B0 ((l.take (k + 1)).map Fl.data) = B3 at *
          have HB3 := hide hB3
          clear hB3
          generalize (l[k]).data = dt at *
          go_wp2_with fail
          refine (unhide C1).mono ?_
          rintro e w3 ⟨v3, rfl, hA3⟩
          have HM3 := hide ((unhide HM).addB hA3)
          obtain ⟨ba3, bc3, hbe⟩ := hA3.sm.shape
          subst hbe
          clear C1 hA3 HM
          go_wp2_with fail
          go_roundw
          case rel => exact ⟨k + 1, by go_num, by omega, by rw [unhide HB3]; exact unhide HM3⟩
          case measure => simp [intOf]; omega
        · have e1 : k = l.length := by omega
          subst e1
          have b1 : decide ((l.length : Int) < (l.length : Int)) = false := by simp
          rw [List.take_length, ← unhide Hd1] at hM
          have hBl1 : (addOs [] (datT (ss.take (i + 1)))).length ≤ 1000000 := by
            have h1 := addOs_len (datT (ss.take (i + 1))) []
            have h2 := datT_len (ss := ss.take (i + 1)) (fun l hl => (unhide HS).l l (List.mem_of_mem_take hl))
            rw [List.length_take] at h2
            simp at h1; omega
          generalize hB1 : addOs [] (datT (ss.take (i + 1))) = B1 at *
          have HB1 := hide hB1
          have C1 := hide (adirs_any ((unhide HF).keep hM.b.ho (fun _ _ h => h)) hl9 (fun f hf => by have := (unhide Hfs f hf).p; omega))
          have hDl := dirsF_len l (fun f hf => by have := (unhide Hfs f hf).p; omega)
          have HM := hide hM
          obtain ⟨ba2, bc2, hbe⟩ := hM.b.shape
          subst hbe
          clear hM hB1 Hd1
          go_wp2_with fail
          refine (unhide C1).mono ?_
          rintro e w3 ⟨dv, rfl, hD⟩
          have h3 := (unhide HM).three hD
          obtain ⟨da, dc, hde⟩ := hD.shape
          subst hde
          have H3 : Hid (ThrS w (.slice ba2 B1.length bc2) (.slice ta T0.length tc) (.slice da (dirsF l).length dc) B1 (addOs T0 (((dirsF l).take 0).map (keyD l))) (dirsF l) w3) := hide h3
          have Hk1' := hide (unhide Hk1)
          clear C1 hD h3 HM Hk1
          generalize dirsF l = D at *
          go_wp2_with fail
          go_loopw [4, 9] (fun tv kv wr3 => ∃ k : Nat, kv = .int .i64 k ∧ k ≤ D.length ∧ ThrS w (.slice ba2 B1.length bc2) tv (.slice da D.length dc) B1 (addOs T0 ((D.take k).map (keyD l))) D wr3) (fun _ kv _ => D.length - (intOf kv).toNat)
          case atStart => exact ⟨0, rfl, by omega, unhide H3⟩
          case round =>
            clear H3
            as_aux_lemma =>
            obtain ⟨k, rfl, hk, hM⟩ := hrel
            by_cases hkD : k < D.length
            · have b3 : decide ((k : Int) < (D.length : Int)) = true := decide_eq_true (by omega)
              have b3n : decide (k < D.length) = true := decide_eq_true hkD
              have b4 : (k : Int) < (D.length : Int) := by omega
              have hlen : (addOs T0 ((D.take k).map (keyD l))).length ≤ 1000000 := by
                have h1 := addOs_len ((D.take k).map (keyD l)) T0
                rw [List.length_map, List.length_take] at h1
                omega
              have hst := map_step (f := keyD l) (B := T0) hkD
              have Hst := hide hst
              have HM := hide hM
              obtain ⟨ta2, tc2, hte⟩ := hM.two.t.shape
              subst hte
              clear hM hst
              generalize hT2 : addOs T0 ((D.take k).map (keyD l)) = T2 at *
              clear hT2
              obtain ⟨d, hdd⟩ : ∃ d, D[k] = d := ⟨_, rfl⟩
              rw [hdd] at Hst
              have Hdd := hide hdd
              clear hdd
              have HM4 : Hid (ThrS w (.slice ba2 B1.length bc2) (.slice ta2 T2.length tc2) (.slice da D.length dc) B1 T2 D wr) := HM
              go_wp2_with fail
              go_loopw [10, 11] (fun kv jv wr4 => ∃ j : Nat, jv = .int .i64 j ∧ j ≤ l.length ∧ kv = .string (sb (keyT' l d j)) ∧ ThrS w (.slice ba2 B1.length bc2) (.slice ta2 T2.length tc2) (.slice da D.length dc) B1 T2 D wr4) (fun _ jv _ => l.length - (intOf jv).toNat)
              case atStart => exact ⟨0, rfl, by omega, rfl, unhide HM4⟩
              case round =>
                clear HM HM4
                as_aux_lemma =>
                obtain ⟨j, rfl, hj, rfl, hM⟩ := hrel
                by_cases hjl : j < l.length
                · obtain ⟨gf, _, he, hgfl, c0, c1, c2⟩ := ((unhide HF).keep hM.d.ho (fun _ _ h => h)).cellAt hjl
                  obtain ⟨rfl, rfl⟩ := slice_eq he
                  obtain ⟨gd, _, hed, hgdl, cd⟩ := hM.d.cellAt hkD
                  obtain ⟨rfl, rfl⟩ := slice_eq hed
                  rw [unhide Hdd] at cd
                  have b5 : decide ((j : Int) < (l.length : Int)) = true := decide_eq_true (by omega)
                  have b5n : decide (j < l.length) = true := decide_eq_true hjl
                  have b6 : (j : Int) < (l.length : Int) := by omega
                  have hfs := unhide Hfs _ (List.getElem_mem hjl)
                  have hkl := keyT_len (d := d) (unhide Hfs) hl9 j
                  have hno := keyT_no (d := d) hjl
                  have hye := keyT_yes (d := d) hjl
                  obtain ⟨mn, hmn⟩ : ∃ mn : Nat, (l[j]).mode = (mn : Int) := ⟨(l[j]).mode.toNat, by have := hfs.m0; omega⟩
                  have hmn5 : mn < 1000 := by have := hfs.m; omega
                  have hp5 := hfs.p
                  have hd5 := hfs.d
                  rw [hmn] at c2 hye
                  have CW := hide (fun W : World => hasPrefix_any (l[j]).path d W)
                  have HM := hide hM
                  have HO := hide hM.d.ho
                  have Hno := hide hno
                  have Hye := hide hye
                  clear hM he hed hfs hno hye hmn
                  generalize (l[j]).path = p at *
                  generalize (l[j]).data = dt at *
                  have hpl := fun h => pre_le (d := d) (p := p) h
                  have hrc := rel_cut p d
                  obtain ⟨bb, hbb⟩ : ∃ b, preB (ls d) (ls p) = b := ⟨_, rfl⟩
                  rw [hbb] at CW Hno Hye hpl
                  clear hbb
                  cases bb with
                  | false =>
                    have Hno2 := hide (unhide Hno rfl)
                    clear Hno Hye hpl hrc c1 c2
                    go_upto_region 19 with fail
                    go_quiet (first | (go_at_call 186; exact Calls.quiet_of_same ((unhide CW _).mono (fun e w' h => ⟨h.1, h.2.symm⟩))))
                    go_wp2_with fail
                    go_roundw
                    case rel => exact ⟨j + 1, by go_num, by omega, by rw [unhide Hno2], (unhide HM).quiet (onlyDN _ _)⟩
                    case measure => simp [intOf]; omega
                  | true =>
                    as_aux_lemma =>
                    have hye2 := unhide Hye rfl
                    have hdp := hpl rfl
                    have hdp' : (d.size : Int) ≤ (p.size : Int) := by omega
                    rw [← hrc] at hye2
                    have hrl : (p.extract d.size p.size).size ≤ 500 := by
                      rw [hrc, sb_size, List.length_drop, ls_size]; omega
                    have Hye2 := hide hye2
                    clear Hno Hye hpl hrc hye2
                    go_upto_region 19 with fail
                    go_quiet (first | (go_at_call 186; exact Calls.quiet_of_same ((unhide CW _).mono (fun e w' h => ⟨h.1, h.2.symm⟩))))
                    go_upto_region 20 with fail
                    go_quiet (fail)
                    go_upto_region 21 with fail
                    generalize hWX : World.drewN _ _ = WX at *
                    have oWX : Only (fun _ => False) wr WX := by
                      rw [← hWX]
                      first | exact onlyDN _ _ | exact (onlyDN _ _).trans (onlyDN _ _) (fun _ _ h => h)
                    clear hWX
                    generalize p.extract d.size p.size = rl at *
                    as_aux_lemma =>
                    have C1 := hide (aitoa_any (w := WX) rl.size (by omega))
                    have hn1 : (sb (itoaS rl.size)).size ≤ 20 := by rw [sb_size]; exact itoa_len _
                    have k1 := (World.cell?_of_block (a := ⟨gf, j * 3 + 1, none⟩) (oWX.block gf hgfl (fun h => h))).trans c1
                    have k2 := (World.cell?_of_block (a := ⟨gf, j * 3 + 2, none⟩) (oWX.block gf hgfl (fun h => h))).trans c2
                    have hgx : gf < WX.heap.size := by have := oWX.size; omega
                    clear c0 c1 c2 cd CW hdp hdp'
                    obtain ⟨n1, e1⟩ : ∃ n, sb (itoaS rl.size) = n := ⟨_, rfl⟩
                    rw [e1] at C1 hn1
                    have E1 := hide e1
                    clear e1
                    go_wp2_with fail
                    refine (unhide C1).mono ?_
                    rintro e W1 ⟨rfl, o1⟩
                    have k3 := (World.cell?_of_block (a := ⟨gf, j * 3 + 1, none⟩) (o1.block gf hgx (fun h => h))).trans k1
                    have k4 := (World.cell?_of_block (a := ⟨gf, j * 3 + 2, none⟩) (o1.block gf hgx (fun h => h))).trans k2
                    have hg1 : gf < W1.heap.size := by have := o1.size; omega
                    have C2 := hide (aitoa_any (w := W1) mn hmn5)
                    have hn2 : (sb (itoaS mn)).size ≤ 20 := by rw [sb_size]; exact itoa_len _
                    obtain ⟨n2, e2⟩ : ∃ n, sb (itoaS mn) = n := ⟨_, rfl⟩
                    rw [e2] at C2 hn2
                    have E2 := hide e2
                    have O1 := hide (oWX.trans o1 (fun _ _ h => h))
                    clear e2 C1 k1 k2 o1 oWX
                    go_wp2_with fail
                    refine (unhide C2).mono ?_
                    rintro e W2 ⟨rfl, o2⟩
                    have k5 := (World.cell?_of_block (a := ⟨gf, j * 3 + 1, none⟩) (o2.block gf hg1 (fun h => h))).trans k3
                    have hg2 : gf < W2.heap.size := by have := o2.size; omega
                    have C3 := hide (aitoa_any (w := W2) dt.size (by omega))
                    have hn3 : (sb (itoaS dt.size)).size ≤ 20 := by rw [sb_size]; exact itoa_len _
                    obtain ⟨n3, e3⟩ : ∃ n, sb (itoaS dt.size) = n := ⟨_, rfl⟩
                    rw [e3] at C3 hn3
                    have E3 := hide e3
                    have O2 := hide ((unhide O1).trans o2 (fun _ _ h => h))
                    clear e3 C2 k3 k4 o2 O1
                    go_wp2_with fail
                    refine (unhide C3).mono ?_
                    rintro e W3 ⟨rfl, o3⟩
                    have k6 := (World.cell?_of_block (a := ⟨gf, j * 3 + 1, none⟩) (o3.block gf hg2 (fun h => h))).trans k5
                    have hg3 : gf < W3.heap.size := by have := o3.size; omega
                    have O3 := hide ((unhide O2).trans o3 (fun _ _ h => h))
                    clear C3 k5 o3 O2
                    obtain ⟨q0, e0⟩ : ∃ q, sb (keyT' l d j) = q := ⟨_, rfl⟩
                    rw [e0]
                    have hq0 : q0.size ≤ 9900 := by rw [← e0, sb_size]; exact hkl
                    obtain ⟨q1, q2, q3, q4, q5, q6, q7, q8, t1, t2, t3, t4, t5, t6, t7, t8, t9⟩ := cat8 q0 n1 rl n2 n3 dt (by omega)
                    have hfin : q8 = sb (keyT' l d (j + 1)) := by
                      rw [t9, unhide Hye2, ← unhide E1, ← unhide E2, ← unhide E3, ← e0]
                      unfold encF
                      simp only [ls_sb, Int.toNat_natCast]
                    have Hfin := hide hfin
                    clear hfin t9 e0 E1 E2 E3 Hye2 hkl
                    as_aux_lemma =>
                    go_wp2_with fail
                    go_roundw
                    case rel => exact ⟨j + 1, by go_num, by omega, by rw [unhide Hfin], (unhide HM).quiet (unhide O3)⟩
                    case measure => simp [intOf]; omega
                · have e1 : j = l.length := by omega
                  subst e1
                  have b5 : decide ((l.length : Int) < (l.length : Int)) = false := by simp
                  have hkd : sb (keyT' l d l.length) = keyD l d := by unfold keyT' keyD; rw [List.take_length]
                  rw [hkd]
                  have C1 := aaddOnce_any hM.two.t hlen (keyD l d)
                  rw [← unhide Hst] at C1
                  have C1 := hide C1
                  have HM := hide hM
                  clear hM hkd
                  generalize keyD l d = kd at *
                  go_wp2_with fail
                  refine (unhide C1).mono ?_
                  rintro e w5 ⟨v5, rfl, hA5⟩
                  have HM5 := hide ((unhide HM).addT hA5)
                  obtain ⟨T5, hT5⟩ : ∃ X, addOs T0 ((D.take (k + 1)).map (keyD l)) = X := ⟨_, rfl⟩
                  rw [hT5] at HM5 hA5
                  have HT5 := hide hT5
                  obtain ⟨ta5, tc5, hte⟩ := hA5.sm.shape
                  subst hte
                  clear C1 hA5 HM hT5
                  go_wp2_with fail
                  go_roundw
                  case rel => exact ⟨k + 1, by go_num, by omega, by rw [unhide HT5]; exact unhide HM5⟩
                  case measure => simp [intOf]; omega
            · have e1 : k = D.length := by omega
              subst e1
              have b3 : decide ((D.length : Int) < (D.length : Int)) = false := by simp
              have hM2 := hM.two
              rw [List.take_length, ← unhide Hk1', ← unhide HB1] at hM2
              have HM2 := hide hM2
              obtain ⟨ta5, tc5, hte⟩ := hM2.t.shape
              have hM3 := hM2
              subst hte
              clear hM hM2 hM3
              go_wp2_with fail
              go_roundw
              case rel => exact ⟨i + 1, by go_num, by omega, by have := unhide HM2; rw [unhide HB1] at this ⊢; exact this⟩
              case measure => simp [intOf]; omega
    · have e1 : i = ss.length := by omega
      subst e1
      have a1 : decide ((ss.length : Int) < (ss.length : Int)) = false := by simp
      rw [List.take_length] at hM
      have hW : weightA ss = (addOs [] (datT ss)).length + (addOs [] (keyTs ss)).length := rfl
      have hBl : (addOs [] (datT ss)).length ≤ 500 := by
        have h1 := addOs_len (datT ss) []
        have h2 := datT_len (ss := ss) (unhide HS).l
        simp at h1; omega
      have hTl : (addOs [] (keyTs ss)).length ≤ 500000 := by
        have h1 := addOs_len (keyTs ss) []
        have h2 := keyTs_len (ss := ss) (unhide HS).l (unhide HS).f
        simp at h1; omega
      have HO := hide hM.b.ho
      obtain ⟨ba, bc, hbe⟩ := hM.b.shape
      obtain ⟨ta, tc, hte⟩ := hM.t.shape
      have HW := hide hW
      subst hbe
      subst hte
      clear hM hW
      go_wp2_with fail
      go_ret
      exact ⟨by rw [unhide HW]; go_num, unhide HO⟩
end
end Go.Proofs.Qxb6500417aGreat
