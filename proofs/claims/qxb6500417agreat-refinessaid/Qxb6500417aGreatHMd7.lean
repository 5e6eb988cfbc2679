/-
  OWN WORK. THE GRAPH's MODEL: Commit (written by tools/gen_hmd7.py).
-/
import Derived.Test.Qxb6500417aGreatHMd6
namespace Go.Proofs.Qxb6500417aGreat
open Go.RowKit Go.PlainAid
set_option linter.unusedSimpArgs false
set_option linter.unusedVariables false

section
variable {w w' : World} {nv rv av : Value} {A S : GA} {O P H : Nat → Prop} {m : Nat} {lx hz : Bool} {r sr : Int}
/-- One more commit. -/
theorem MG.grow (h : MG w m lx A r S sr hz H) : ∃ na nc, ∃ rs : List NRow, w.cell? ⟨m, 0, none⟩ = some (.slice na A.nodes.length nc) ∧ w.ownsRow 0 128 4 (.slice na A.nodes.length nc) A.nodes.length (nrCells rs) ∧ ∀ (x : Nd) (fv pv v' : Value) (w2 : World) (o : Obj) (n : Nat), NR w ⟨x, fv, pv⟩ → (∀ y, (⟨x, fv, pv⟩ : NRow).blk y → ¬ H y) → w2.ownsRow 0 128 4 v' n (nrCells rs ++ [.int .i64 (x.seq : Int), fv, pv, .string x.msg]) → n = A.nodes.length + 1 → (w.alloc o).grownBy w2 (Value.slice na A.nodes.length nc).ownBlock → (∀ k, v'.ownBlock = some k → (Value.slice na A.nodes.length nc).ownBlock = some k ∨ k = w.heap.size + 1) →
    (∃ a c, v' = .slice a n c) ∧ (∃ u, w2.cell? ⟨m, 0, none⟩ = some u) ∧ w2.frozen? ⟨m, 0, none⟩ = false ∧ m < w2.heap.size ∧ MG (w2.setCell ⟨m, 0, none⟩ v') m lx { A with nodes := A.nodes ++ [x] } r S sr hz (fun y => H y ∨ (⟨x, fv, pv⟩ : NRow).blk y ∨ (w.heap.size ≤ y ∧ y < w2.heap.size)) ∧ Only H w (w2.setCell ⟨m, 0, none⟩ v') := by
  obtain ⟨nv0, rv0, av0, nv', rv', av', b, hv0, Q, O, h1, h2, h3, h4, h5, h6, h7⟩ := h.ex
  obtain ⟨rs, hrs, hL⟩ := h2.nd
  obtain ⟨na, nc, rfl⟩ := h2.nin.shape
  have hlen : rs.length = A.nodes.length := by rw [← hrs, List.length_map]
  refine ⟨na, nc, rs, h1.cell 0, ?_, ?_⟩
  · have := hL.own
    unfold OwnN at this
    rw [hlen] at this
    exact this
  · intro x fv pv v' w2 o n hR hfr hown hn hgrow hwhere
    have hQ : ∀ y, (⟨x, fv, pv⟩ : NRow).blk y → (Value.slice na A.nodes.length nc).ownBlock ≠ some y := fun y hy e => hfr y hy (h6 y (hL.hv y e)).2.1
    obtain ⟨q1, q2⟩ := (hL.mono (H' := fun y => Q y ∨ (⟨x, fv, pv⟩ : NRow).blk y) (fun y hy => .inl hy)).push (r := ⟨x, fv, pv⟩) hR (fun y hy => .inr hy) hQ hown (by rw [hlen]; exact hn) hgrow hwhere
    have hmne : ∀ y, (Value.slice na A.nodes.length nc).ownBlock = some y → y ≠ m := fun y hy => (h6 y (hL.hv y hy)).2.2
    have k1 := h1.keep q2 (fun e => hmne m e rfl)
    have ho : Only (fun y => y = m) w2 (w2.setCell ⟨m, 0, none⟩ v') := onlyS (Only.refl _ _) _ _
    have hml := h.lt
    have s1 := q2.size
    have s2 := ho.size
    have q3 := q1.lt
    have offQ : ∀ y, rv0.ownBlock = some y ∨ av0.ownBlock = some y → (Value.slice na A.nodes.length nc).ownBlock ≠ some y := fun y hy e => by
      have hg := hL.own
      rcases hy with hy | hy
      · rcases h2.rf.2 with ⟨e1, _⟩ | ⟨g, cap, cur, e1, _, hg1, _⟩
        · rw [e1] at hy; simp [Value.ownBlock] at hy
        · rw [e1] at hy
          simp [Value.ownBlock] at hy
          subst hy
          exact ownsRow_ne hg (c := cur) (t := 158) hg1 (by decide) _ e rfl
      · rcases h2.ax.2 with ⟨e1, _⟩ | ⟨g, cap, cur, e1, _, hg1, _⟩
        · rw [e1] at hy; simp [Value.ownBlock] at hy
        · rw [e1] at hy
          simp [Value.ownBlock] at hy
          subst hy
          exact ownsRow_ne hg (c := cur) (t := 78) hg1 (by decide) _ e rfl
    have blt : ∀ y, (⟨x, fv, pv⟩ : NRow).blk y → y < w.heap.size := fun y hy => hR.lt y hy
    have hStV : StV w2 v' rv0 av0 { A with nodes := A.nodes ++ [x] } (fun y => ((Q y ∨ (⟨x, fv, pv⟩ : NRow).blk y) ∨ w.heap.size ≤ y) ∧ y < w2.heap.size) := by
      refine ⟨⟨rs ++ [⟨x, fv, pv⟩], by rw [List.map_append, hrs]; rfl, q3⟩, h2.rf.keep q2 (fun y hy => offQ y (.inl hy)), fun y hy => ⟨.inl (.inl (h2.rfb y hy)), ?_⟩, h2.ax.keep q2 (fun y hy => offQ y (.inr hy)), fun y hy => ⟨.inl (.inl (h2.axb y hy)), ?_⟩⟩
      · have := ownsRow_lt h2.rf y hy; omega
      · have := ownsRow_lt h2.ax y hy; omega
    obtain ⟨va, vc, hve⟩ := ownsRow_shape hown
    refine ⟨⟨va, vc, hve⟩, ⟨_, k1.cell 0⟩, k1.free 0, k1.lt, ⟨⟨v', rv0, av0, nv', rv', av', b, hv0, _, O, k1.setCell 0 v', hStV.keep ho (fun y hy e => ?_), (h3.keep q2 (fun y hy e => ?_)).keep ho (fun y hy => (h7 y hy).2), h4, h5, fun k hk => ⟨fun hO => ?_, ?_, ?_⟩, fun k hk => ⟨.inl (h7 k hk).1, (h7 k hk).2⟩⟩, .inl h.hm, fun k hk => ?_⟩, ?_⟩
    · rcases hy.1 with (hy | hy) | hy
      · exact (h6 y hy).2.2 e
      · rw [e] at hy; exact hfr m hy h.hm
      · omega
    · exact (h6 y (hL.hv y e)).1 hy
    · rcases hk.1 with (hk | hk) | hk
      · exact (h6 k hk).1 hO
      · exact hfr k hk (h7 k hO).1
      · have := h.inn k (h7 k hO).1; omega
    · rcases hk with ⟨(hk | hk) | hk, hl⟩
      · exact .inl (h6 k hk).2.1
      · exact .inr (.inl hk)
      · exact .inr (.inr ⟨hk, hl⟩)
    · rcases hk.1 with (hk | hk) | hk
      · exact (h6 k hk).2.2
      · intro e; rw [e] at hk; exact hfr m hk h.hm
      · omega
    · rcases hk with hk | hk | hk
      · have := h.inn k hk; omega
      · have := blt k hk; omega
      · omega
    · refine (q2.mono (T := H) (fun y _ e => (h6 y (hL.hv y e)).2.1)).trans (ho.mono (T := H) (fun y _ e => by rw [e]; exact h.hm)) (fun _ _ h => h)
/-- What Commit's second step asks. -/
def parB (ps : List Int) : Bool := decide (2 < ps.length) || (decide (ps.length = 2) && decide (ps.getD 0 0 = ps.getD 1 0))
theorem comE_par {l : List Fl} {ps : List Int} {msg : ByteArray} (h0 : checkF l = 0) (h : parB ps = true) : comE A l ps msg = 18 := by
  unfold comE parB at *
  rw [if_neg (by simp [h0])]
  by_cases h2 : 2 < ps.length
  · rw [if_pos h2]
  · rw [if_neg h2]
    simp [h2] at h
    rw [if_pos (by simpa using h)]
theorem comE_np {l : List Fl} {ps : List Int} {msg : ByteArray} (h0 : checkF l = 0) (h : parB ps = false) : ps.length ≤ 2 ∧ comE A l ps msg = if ps.all (hasN A) = false then 17 else if 16 < msg.size then 19 else if 40 ≤ A.nodes.length then 8 else 0 := by
  unfold comE parB at *
  rw [if_neg (by simp [h0])]
  by_cases h2 : 2 < ps.length
  · simp [h2] at h
  · refine ⟨by omega, ?_⟩
    rw [if_neg h2, if_neg]
    simp [h2] at h
    simpa using h
/-- What the model's Commit leaves. -/
def McP (w w' : World) (m : Nat) (A : GA) (r : Int) (S : GA) (sr : Int) (hz : Bool) (H : Nat → Prop) (l : List Fl) (ps : List Int) (msg : ByteArray) (seq en : Nat) : Prop :=
  (comE A l ps msg ≠ 0 ∧ en = comE A l ps msg ∧ seq = 0 ∧ MT w w' m true A r S sr hz H) ∨ (comE A l ps msg = 0 ∧ en = 0 ∧ seq = A.nx ∧ MT w w' m true (A.addN ⟨A.nx, l, ps.map Int.toNat, msg⟩) (r - ((costA l + 1 : Nat) : Int)) S sr hz H)
theorem parI_par {ps : List Int} (h : ps.all (hasN A) = true) {x : Nd} (hx : x.par = ps.map Int.toNat) : parI x = ps := by
  unfold parI
  rw [hx, List.map_map]
  conv => rhs; rw [← List.map_id ps]
  apply List.map_congr_left
  intro q hq
  rw [List.all_eq_true] at h
  obtain ⟨n, rfl⟩ := hasN_nat (h q hq)
  simp

set_option maxRecDepth 100000 in
set_option maxHeartbeats 16000000 in
theorem hcommit_any (h : MG w m true A r S sr hz H) (hA : ASm A) {vf vp : Value} {l : List Fl} {ps : List Int} (msg : ByteArray) (hf : FilesIn w vf l) (hfH : ∀ y, vf.ownBlock = some y → ¬ H y) (hp : IntsIn w vp ps) (hpH : ∀ y, vp.ownBlock = some y → ¬ H y) (hr1 : -4000000000000000000 < r) (hr2 : r < 1000) (hnx : A.nx < 4611686018427387000) (hpl : ps.length ≤ 1000) :
    Calls Tryz.prog 94 #[.pointer (some ⟨m, 0, none⟩), vf, vp, .string msg] w fun e w' => ∃ seq en : Nat, e = .returned (.tuple #[.int .i64 seq, .int .i64 en]) ∧ McP w w' m A r S sr hz H l ps msg seq en := by
  obtain ⟨i0, hi0, hz0, hz1, hz2⟩ := info_parts Tryz.infoNode
  have C1 := checkFiles_any vf l hf
  have H0 := hide h
  have HF := hide hf
  have HI := hide hp
  have HA := hide hA
  have Hfm : Hid (∀ y, vf.ownBlock = some y → ¬ (y = m)) := hide (fun y hy => fun (e : y = m) => hfH y hy (by rw [e]; exact h.hm))
  have Hpm : Hid (∀ y, vp.ownBlock = some y → ¬ (y = m)) := hide (fun y hy => fun (e : y = m) => hpH y hy (by rw [e]; exact h.hm))
  obtain ⟨va, vc, rfl⟩ := hf.shape
  obtain ⟨pa, pc, rfl⟩ := hp.shape
  have hn40 := hA.n
  by_cases hc : checkF l = 0
  · have hpar := checkF_parts hc
    have hcost : costA l ≤ 10000 := by
      have h1 := dirsF_len l (fun f hff => by have := checkF_path hc f hff; omega)
      have : costA l = l.length + (dirsF l).length := rfl
      have := hpar.1
      omega
    rw [hc] at C1
    have C1 := hide C1
    have Hc := hide hc
    have Hpath : Hid (∀ f ∈ l, f.path.size ≤ 1000) := hide (fun f hff => by have := checkF_path hc f hff; omega)
    have hl8 := hpar.1
    clear h hf hfH hp hpH hc hpar hA
    go_enter Tryz.func94, Tryz.ntmps94
    go_wp2_with fail
    refine (unhide C1).mono ?_
    rintro e w1 ⟨rfl, o1⟩
    have T1 := hide (MT.quiet (unhide H0) o1)
    have O1 := hide o1
    clear C1 o1
    obtain ⟨B, hB⟩ : ∃ B, parB ps = B := ⟨_, rfl⟩
    go_upto_region 4 with fail
    go_cut [37] (fun v wx => v = .bool B ∧ Only (fun _ => False) w1 wx)
    case first =>
      by_cases h2 : 2 < ps.length
      · have hBt : B = true := by rw [← hB]; unfold parB; simp [h2]
        subst hBt
        have d1 : decide ((2 : Int) < (ps.length : Int)) = true := decide_eq_true (by omega)
        have d1' : decide ((ps.length : Int) > 2) = true := decide_eq_true (by omega)
        clear hB
        go_quiet (fail)
        go_wp2_with fail
        go_meet
        exact ⟨rfl, onlyDN _ _⟩
      · have d1 : decide ((2 : Int) < (ps.length : Int)) = false := decide_eq_false (by omega)
        have d1' : decide ((ps.length : Int) > 2) = false := decide_eq_false (by omega)
        by_cases h3 : ps.length = 2
        · obtain ⟨g, cap, hve, hgl, p0⟩ := ((unhide HI).keep (unhide O1) (fun _ _ h => h)).cellAt (i := 0) (by omega)
          obtain ⟨_, _, hve2, _, p1⟩ := ((unhide HI).keep (unhide O1) (fun _ _ h => h)).cellAt (i := 1) (by omega)
          obtain ⟨rfl, rfl⟩ := slice_eq hve
          obtain ⟨e2, rfl⟩ := slice_eq hve2
          cases e2
          have hBt : B = decide (ps[0]'(by omega) = ps[1]'(by omega)) := by
            rw [← hB]
            unfold parB
            rw [List.getD_eq_getElem?_getD, List.getD_eq_getElem?_getD, List.getElem?_eq_getElem (by omega), List.getElem?_eq_getElem (by omega)]
            simp [h3]
          have d2 : ((ps.length : Int) == 2) = true := by simp [h3]
          have d3 : (0 : Int) < (ps.length : Int) := by omega
          have d4 : (1 : Int) < (ps.length : Int) := by omega
          generalize ps[0]'(by omega) = x0 at *
          generalize ps[1]'(by omega) = x1 at *
          by_cases hx : x0 = x1
          · subst hx
            have hBt2 : B = true := by rw [hBt]; simp
            subst hBt2
            have d5 := eqI x0
            clear hB hBt hve hve2 h3
            go_quiet (fail)
            go_wp2_with fail
            go_meet
            exact ⟨rfl, onlyDN _ _⟩
          · have hBt2 : B = false := by rw [hBt]; simp [hx]
            subst hBt2
            have d5 : (x0 == x1) = false := ne_intO hx
            clear hB hBt hve hve2 h3
            go_quiet (fail)
            go_wp2_with fail
            go_meet
            exact ⟨rfl, onlyDN _ _⟩
        · have hBt : B = false := by rw [← hB]; unfold parB; simp [h2, h3]
          subst hBt
          have d2 : ((ps.length : Int) == 2) = false := ne_intO (by omega)
          clear hB h3
          go_quiet (fail)
          go_wp2_with fail
          go_meet
          exact ⟨rfl, onlyDN _ _⟩
    case rest =>
    obtain ⟨rfl, o2⟩ := hcut
    generalize hwc : wc = w2 at *
    clear hwc
    have T2 := hide ((unhide T1).then o2)
    have O2 := hide ((unhide O1).trans o2 (fun _ _ h => h))
    clear T1 O1 o2
    cases B with
    | true =>
      have HE := hide (comE_par (A := A) (msg := msg) (unhide Hc) hB)
      clear hB
      go_wp2_with fail
      go_ret2
      exact ⟨0, 18, rfl, .inl ⟨by rw [unhide HE]; omega, (unhide HE).symm, rfl, unhide T2⟩⟩
    | false =>
      obtain ⟨hp2, hE⟩ := comE_np (A := A) (msg := msg) (unhide Hc) hB
      have HE := hide hE
      clear hB hE
      go_wp2_with fail
      go_loopw [11] (fun iv wr => ∃ i : Nat, iv = .int .i64 i ∧ i ≤ ps.length ∧ (∀ j (hj : j < ps.length), j < i → hasN A ps[j] = true) ∧ w2 = wr) (fun iv _ => ps.length - (intOf iv).toNat)
      case atStart => exact ⟨0, rfl, by omega, fun j _ hj => by omega, rfl⟩
      case round =>
        obtain ⟨i, rfl, hi, hall, rfl⟩ := hrel
        by_cases hil : i < ps.length
        · obtain ⟨g, cap, hve, hgl, p0⟩ := ((unhide HI).keep (unhide O2) (fun _ _ h => h)).cellAt hil
          obtain ⟨rfl, rfl⟩ := slice_eq hve
          have a1 : decide ((i : Int) < (ps.length : Int)) = true := decide_eq_true (by omega)
          have a1n : decide (i < ps.length) = true := decide_eq_true hil
          have a2 : (i : Int) < (ps.length : Int) := by omega
          have C2 := hhas_any (unhide T2).mg (unhide HA) ps[i]
          cases hh : hasN A ps[i] with
          | false =>
            rw [hh] at C2
            have C2 := hide C2
            have hE : comE A l ps msg = 17 := by
              rw [unhide HE, if_pos]
              cases hq : ps.all (hasN A) with
              | false => rfl
              | true =>
                rw [List.all_eq_true] at hq
                rw [hq _ (List.getElem_mem hil)] at hh
                cases hh
            have HE2 := hide hE
            clear HE hE hh hall hve
            generalize ps[i] = q at *
            go_wp2_with fail
            refine (unhide C2).mono ?_
            rintro e w3 ⟨rfl, rfl⟩
            clear C2
            go_wp2_with fail
            go_ret2
            exact ⟨0, 17, rfl, .inl ⟨by rw [unhide HE2]; omega, (unhide HE2).symm, rfl, unhide T2⟩⟩
          | true =>
            rw [hh] at C2
            have C2 := hide C2
            have hall' : ∀ j (hj : j < ps.length), j < i + 1 → hasN A ps[j] = true := fun j hj hji => by
              by_cases e : j = i
              · subst e; exact hh
              · exact hall j hj (by omega)
            have Hall := hide hall'
            clear hall hall' hh hve
            generalize ps[i] = q at *
            go_wp2_with fail
            refine (unhide C2).mono ?_
            rintro e w3 ⟨rfl, rfl⟩
            clear C2
            go_wp2_with fail
            go_roundw
            case rel => exact ⟨i + 1, by go_num, by omega, unhide Hall, by first | trivial | rfl⟩
            case measure => simp [intOf]; omega
        · have a1 : decide ((i : Int) < (ps.length : Int)) = false := decide_eq_false (by omega)
          have a1n : decide (i < ps.length) = false := decide_eq_false hil
          have hq : ps.all (hasN A) = true := by
            rw [List.all_eq_true]
            intro q hq
            obtain ⟨j, hj, rfl⟩ := List.getElem_of_mem hq
            exact hall j hj (by omega)
          have hE := unhide HE
          rw [if_neg (by rw [hq]; simp)] at hE
          have Hq := hide hq
          clear hq hall HE
          by_cases hm16 : 16 < msg.size
          · rw [if_pos hm16] at hE
            have HE := hide hE
            have b1 : decide ((16 : Int) < (msg.size : Int)) = true := decide_eq_true (by omega)
            have b1' : decide ((msg.size : Int) > 16) = true := decide_eq_true (by omega)
            clear hE
            go_wp2_with fail
            go_ret2
            exact ⟨0, 19, rfl, .inl ⟨by rw [unhide HE]; omega, (unhide HE).symm, rfl, unhide T2⟩⟩
          rw [if_neg hm16] at hE
          have b1 : decide ((16 : Int) < (msg.size : Int)) = false := decide_eq_false (by omega)
          have b1' : decide ((msg.size : Int) > 16) = false := decide_eq_false (by omega)
          obtain ⟨na, nc, ra, rc, aa, ac, c0, _, _, _, _, _, _, _, _, _⟩ := (unhide T2).mg.cur
          have hml2 := (unhide T2).mg.lt
          by_cases hn4 : 40 ≤ A.nodes.length
          · rw [if_pos hn4] at hE
            have HE := hide hE
            have b2 : decide ((40 : Int) ≤ (A.nodes.length : Int)) = true := decide_eq_true (by omega)
            have b2' : decide ((A.nodes.length : Int) ≥ 40) = true := decide_eq_true (by omega)
            have b2n : decide (40 ≤ A.nodes.length) = true := decide_eq_true hn4
            clear hE
            go_wp2_with fail
            go_ret2
            exact ⟨0, 8, rfl, .inl ⟨by rw [unhide HE]; omega, (unhide HE).symm, rfl, unhide T2⟩⟩
          rw [if_neg hn4] at hE
          have b2 : decide ((40 : Int) ≤ (A.nodes.length : Int)) = false := decide_eq_false (by omega)
          have b2' : decide ((A.nodes.length : Int) ≥ 40) = false := decide_eq_false (by omega)
          have b2n : decide (40 ≤ A.nodes.length) = false := decide_eq_false hn4
          have HE := hide hE
          have C3 := hide (acost_any ((unhide HF).keep (unhide O2) (fun _ _ h => h)) (by omega) (unhide Hpath))
          clear hE
          as_aux_lemma =>
          go_wp2_with fail
          refine (unhide C3).mono ?_
          rintro e w3 ⟨rfl, o3⟩
          have t3 := (unhide T2).then o3
          have O3 := hide ((unhide O2).trans o3 (fun _ _ h => h))
          have hcw : ((costA l : Nat) : Int) + 1 = ((costA l + 1 : Nat) : Int) := by omega
          have C4 := hpay_any t3.mg ((costA l : Nat) + 1) (by omega) (by omega)
          have C4 := hide C4
          have T3 := hide t3
          clear C3 o3 t3 T2 O2 c0 hml2
          generalize hcl : costA l = cl at *
          have Hcl := hide hcl
          clear hcw hcl
          go_wp2_with fail
          refine (unhide C4).mono ?_
          rintro e w4 ⟨rfl, h4, o4⟩
          have t4 := (unhide T3).trans (MT.of0 (unhide T3).mg ⟨h4, o4⟩)
          have F4 := ((unhide HF).keep (unhide O3) (fun _ _ h => h)).keep o4 (fun y hy e => unhide Hfm y hy e)
          have I4 := ((unhide HI).keep (unhide O3) (fun _ _ h => h)).keep o4 (fun y hy e => unhide Hpm y hy e)
          obtain ⟨_, _, _, _, _, _, _, n1, _, _, _, _, _, _, _, _⟩ := t4.mg.cur
          have z1 := t4.mg.free 1
          have hml4 := t4.mg.lt
          have hN := t4.mg.next (A.nx + 1)
          have t5 := t4.trans (MT.of0 t4.mg hN)
          have F5 := F4.keep hN.2 (fun y hy e => unhide Hfm y hy e)
          have I5 := I4.keep hN.2 (fun y hy e => unhide Hpm y hy e)
          have enx : (((A.nx + 1 : Nat)) : Int) = (A.nx : Int) + 1 := by omega
          rw [enx] at t5 F5 I5
          have T5 := hide t5
          have HF5 := hide F5
          have HI5 := hide I5
          clear C4 h4 o4 t4 F4 I4 hN t5 F5 I5 T3 O3 enx
          go_upto_region 20 with fail
          generalize w4.setCell ⟨m, 1, none⟩ (.int .i64 ((A.nx : Int) + 1)) = w5 at *
          have C6 := hide (copyFiles_any _ l (unhide HF5) (by omega))
          clear n1 z1
          as_aux_lemma =>
          go_wp2_with fail
          refine (unhide C6).mono ?_
          rintro e w6 ⟨v6, rfl, a1, a2, a3⟩
          have C7 := hide (acopyInts_any ((unhide HI5).keep a3 (fun _ _ h => h)) (by omega))
          have HOf := hide a1
          have HbF := hide a2
          have O56 := hide a3
          obtain ⟨fa, fc, rfl⟩ := ownsRow_shape a1
          clear C6 a1 a2 a3
          go_wp2_with fail
          refine (unhide C7).mono ?_
          rintro e w7 ⟨v7, rfl, hI7⟩
          have o57 := (unhide O56).trans hI7.ho (fun _ _ h => h)
          have h7 := (unhide T5).mg.quiet o57
          have hf7 := (unhide HOf).keep hI7.ho (fun _ _ h => h)
          obtain ⟨na, nc, rs, c0, own2, hgrowA⟩ := h7.grow
          obtain ⟨pa', pc', hpe⟩ := ownsRow_shape hI7.own
          have hpi := parI_par (unhide Hq) (x := ⟨A.nx, l, ps.map Int.toNat, msg⟩) rfl
          have hNR : NR w7 ⟨⟨A.nx, l, ps.map Int.toNat, msg⟩, .slice fa l.length fc, v7⟩ := ⟨hf7, by rw [hpi]; exact hI7.own⟩
          have s56 := (unhide O56).size
          have hnH : ∀ y, (⟨⟨A.nx, l, ps.map Int.toNat, msg⟩, .slice fa l.length fc, v7⟩ : NRow).blk y → w5.heap.size ≤ y := fun y hy => by
            rcases hy with e | e
            · exact unhide HbF y e
            · have := hI7.hb y e; omega
          have hinn := (unhide T5).mg.inn
          have Hgr := hide (fun (v' : Value) (w8 : World) (o : Obj) hown => hgrowA ⟨A.nx, l, ps.map Int.toNat, msg⟩ (.slice fa l.length fc) v7 v' w8 o (A.nodes.length + 1) hNR (fun y hy e => by have := hnH y hy; have := hinn y e; omega) hown rfl)
          have HnH := hide hnH
          have HO7 := hide o57
          have hml7 := h7.lt
          have hNRl := hide (fun y hy => hNR.lt y hy)
          subst hpe
          clear C7 hI7 o57 h7 hf7 hgrowA hNR hnH hinn HOf HbF O56 hpi
          go_wp2_with (at_builtin; refine wpList_append2 _ rfl _ _ 55 rfl 128 i0 _ 4 72 Tryz.underlying55 hi0 hz0 hz1 hz2 rfl (by decide) _ _ _ rfl (own2.alloc _) ⟨w7.heap.size, 0, none⟩ 1 1 [.int .i64 (A.nx : Int), .slice fa l.length fc, .slice pa' ps.length pc', .string msg] rfl rfl ?d1 ?d2 ?d3 ?d4 ?_)
          try (case d1 => exact news_ok _ _ _ _ rfl)
          case d2 => first | (intro u hu; simp at hu; rcases hu with rfl | rfl | rfl | rfl <;> rfl) | exact ⟨rfl, rfl, rfl, rfl⟩ | rfl
          case d3 => unfold maxLen; omega
          case d4 => omega
          intro v8 w8 hown hgrow hwhere
          obtain ⟨⟨v8a, v8c, rfl⟩, ⟨u0, e0⟩, f0, hm8, hMG8, hO8⟩ := unhide Hgr v8 w8 _ hown hgrow hwhere
          have hg8 : w7.heap.size + 1 ≤ w8.heap.size := by
            have := hgrow.size
            simpa using this
          have s57 := (unhide HO7).size
          have s8 : (w8.setCell ⟨m, 0, none⟩ (.slice v8a (A.nodes.length + 1) v8c)).heap.size = w8.heap.size := by simp
          have hfin : MT w (w8.setCell ⟨m, 0, none⟩ (.slice v8a (A.nodes.length + 1) v8c)) m true (A.addN ⟨A.nx, l, ps.map Int.toNat, msg⟩) (r - ((cl : Int) + 1)) S sr hz H := by
            refine (unhide T5).trans ⟨?_, ((unhide HO7).mono (fun _ _ h => h.elim)).trans hO8 (fun _ _ h => h)⟩
            refine MG.mono (show MG _ m true (A.addN ⟨A.nx, l, ps.map Int.toNat, msg⟩) _ S sr hz _ from hMG8) (fun y hy => ?_) (fun y hy => ?_)
            · rcases hy with hy | hy | hy
              · exact .inl hy
              · refine .inr ⟨unhide HnH y hy, ?_⟩
                have := unhide hNRl y hy
                omega
              · exact .inr ⟨by omega, by omega⟩
            · rcases hy with hy | hy
              · have := (unhide T5).mg.inn y hy; omega
              · omega
          have HFin := hide hfin
          clear hown hgrow hwhere own2 hMG8 hO8 hfin Hgr T5 HO7 HnH hNRl c0
          go_wp2_with fail
          go_ret2
          refine ⟨A.nx, 0, rfl, .inr ⟨unhide HE, rfl, rfl, ?_⟩⟩
          have := unhide HFin
          rw [unhide Hcl]
          rwa [show ((cl : Int) + 1) = ((cl + 1 : Nat) : Int) by omega] at this
  · have C1 := hide C1
    have b1 : ((checkF l : Int) == 0) = false := ne_intO (by omega)
    have hE : comE A l ps msg = checkF l := by unfold comE; rw [if_pos hc]
    have HE := hide hE
    have Hc := hide hc
    clear h hf hfH hp hpH hc hA hE
    obtain ⟨X, hX⟩ : ∃ X, checkF l = X := ⟨_, rfl⟩
    rw [hX] at C1 Hc b1 HE
    clear hX
    go_enter Tryz.func94, Tryz.ntmps94
    go_wp2_with fail
    refine (unhide C1).mono ?_
    rintro e w1 ⟨rfl, o1⟩
    clear C1
    go_wp2_with fail
    go_ret2
    exact ⟨0, X, rfl, .inl ⟨by rw [unhide HE]; exact unhide Hc, (unhide HE).symm, rfl, MT.quiet (unhide H0) o1⟩⟩
end
end Go.Proofs.Qxb6500417aGreat
