/-
  OWN WORK. THE GRAPH LAW: SameSeqs, SameBranches, SameAux, SameLog (written by tools/gen_gl2.py).
-/
import Derived.Test.Qxb6500417aGreatGL1
namespace Go.Proofs.Qxb6500417aGreat
open Go.RowKit Go.PlainAid
set_option linter.unusedSimpArgs false
set_option linter.unusedVariables false

theorem snap_S {J : Nat → Sl} (hI : Inv J) (hB : BlbI J) {i : Nat} (hi : IsT J i) : (snapJ J i).length ≤ 9 ∧ ∀ f ∈ snapJ J i, FlS f := by
  have hT := (hI.tr i hi.1 (liveS_ne hi.2.1) hi.2.2).fine
  refine ⟨by unfold snapJ; rw [List.length_map]; have := hT.cnt; omega, fun f hf => ?_⟩
  obtain ⟨e, he, rfl⟩ := List.mem_map.1 hf
  have hb := hI.blobsT hi e he
  have h12 := hT.len e he
  have hm := hT.md e he
  have h180 := (hB.byt _ hb.1 hb.2.1).2
  refine ⟨?_, ?_, hm.1, ?_⟩
  · show (sb e.path).size ≤ _
    have : (sb e.path).size = e.path.length := by rw [← ls_size, ls_sb]
    rw [this]; omega
  · show (bsOf (J e.id.toNat).dat).size ≤ _
    have : (bsOf (J e.id.toNat).dat).size = (J e.id.toNat).dat.length := by rw [← ls_size]; simp [bsOf, ls]
    rw [this]; omega
  · show e.mode ≤ _
    omega
theorem GI.asm {J : Nat → Sl} {rt : Nat} {T : Gt} (h : GI J rt T) (hB : BlbI J) : ASm (absG J T) := by
  have hn := h.ord.n40
  have hall : ∀ l ∈ (absG J T).nodes.map Nd.files ++ [(absG J T).aux], l.length ≤ 9 ∧ ∀ f ∈ l, FlS f := fun l hl => by
    rw [snaps_eq] at hl
    obtain ⟨i, hi, rfl⟩ := List.mem_map.1 hl
    exact snap_S h.inv hB (h.rootsT i hi)
  refine ⟨by rw [abs_len]; exact hn, ?_, ⟨?_, fun l hl => (hall l hl).1, fun l hl => (hall l hl).2⟩, fun x hx => ?_, ?_⟩
  · unfold NdS
    rw [List.pairwise_iff_getElem]
    intro a b ha hb hab
    rw [abs_len] at ha hb
    have e : ∀ k (hk : k < T.n) (hk' : k < (absG J T).nodes.length), ((absG J T).nodes[k]).seq = (T.c (T.o k)).seq := fun k hk hk' => by simp [absG, Gt.os, nodeJ]
    rw [e a ha, e b hb]
    exact h.ord.srt a b hab hb
  · rw [List.length_append, List.length_map, abs_len]
    simp; omega
  · obtain ⟨i, hi, rfl⟩ := List.mem_map.1 hx
    have hw := h.tab.cw i (h.os_iff.1 hi)
    show ((T.c i).pars.map _).length ≤ 1000
    rw [List.length_map]
    rw [Cr.pars_len _ hw.np]
    have := hw.np
    omega
  · show (T.bs.map _).length ≤ 100
    rw [List.length_map]
    have := h.ref.b4
    simp [Gt.bs]; omega
theorem GR.asm {w : World} {g t s d : Nat} {D B : Nat → Nat} {recs : List Rec} {J : Nat → Sl} {rt : Nat} {F : Nat → Prop} {T : Gt} {S : GA} (h : GR w g t s d D B recs J rt F T S) : ASm (absG J T) := h.gi.asm h.ts.blbI
theorem logV_len {A : GA} (h : ASm A) (q : Int) : (logV A q).1.length ≤ 1000 := by
  unfold logV
  by_cases hq : hasN A q = true
  · rw [if_pos hq]
    have := logD_len A.nodes (reachA A q) A.nodes.length
    have := h.n
    show (logD A.nodes (reachA A q) A.nodes.length).length ≤ 1000
    omega
  · rw [if_neg hq]; simp
theorem iff_bool {b b' : Bool} {p : Prop} (h : b = true ↔ p) (h' : b' = true ↔ p) : b = b' := by
  cases b <;> cases b' <;> simp_all
theorem Only.spoil {w w1 w2 : World} {v : Value} (h : Only (fun _ => False) w w1) (ho : Only (fun k => v.ownBlock = some k) w1 w2) (hb : ∀ y, v.ownBlock = some y → w.heap.size ≤ y) : Only (fun _ => False) w w2 :=
  h.trans ho (fun y hy e => by have := hb y e; omega)
section
variable {w : World} {g t s d : Nat} {D B : Nat → Nat} {recs : List Rec} {J : Nat → Sl} {rt : Nat} {F : Nat → Prop} {T : Gt} {S A S2 : GA} {m : Nat} {lx hz : Bool} {r sr : Int} {H : Nat → Prop}

set_option maxRecDepth 100000 in
set_option maxHeartbeats 4000000 in
theorem glSeqs_any (h : GR w g t s d D B recs J rt F T S) (hm : MG w m lx A r S2 sr hz H) (hA : ASm A) (once : Bool) :
    Calls Tryz.prog 37 #[.pointer (some ⟨g, 0, none⟩), .pointer (some ⟨m, 0, none⟩), .bool once] w fun e w' => ∃ b : Bool, e = .returned (.bool b) ∧ (b = true ↔ seqsA (absG J T) = seqsA A) ∧ Only (fun _ => False) w w' := by
  have hAr := h.asm
  have C1 := hide (gseqs_any (J := J) h.gh h.gi.ord)
  have HR := hide (fun (W : World) (ho : Only (fun _ => False) w W) => gseqs_any (J := J) (h.quiet ho).gh (h.quiet ho).gi.ord)
  have HM := hide (fun (W : World) (ho : Only (fun _ => False) w W) => hseqs_any (hm.quiet ho) hA)
  have hlx : (seqsA (absG J T)).length ≤ 1000 := by unfold seqsA; rw [List.length_map]; have := hAr.n; omega
  have hly : (seqsA A).length ≤ 1000 := by unfold seqsA; rw [List.length_map]; have := hA.n; omega
  obtain ⟨X, hX⟩ : ∃ X, seqsA (absG J T) = X := ⟨_, rfl⟩
  obtain ⟨Y, hY⟩ : ∃ Y, seqsA A = Y := ⟨_, rfl⟩
  rw [hX] at C1 HR hlx
  rw [hY] at HM hly
  rw [hX, hY]
  clear hX hY h hm hA hAr
  go_enter Tryz.func37, Tryz.ntmps37
  go_wp2_with fail
  refine (unhide C1).mono ?_
  rintro e w1 ⟨v1, rfl, h1⟩
  have C2 := hide (unhide HM w1 h1.ho)
  have H1 := hide h1
  obtain ⟨a1, c1, rfl⟩ := ownsRow_shape h1.own
  clear C1 h1
  go_wp2_with fail
  refine (unhide C2).mono ?_
  rintro e w2 ⟨v2, rfl, h2⟩
  have O2 := hide ((unhide H1).ho.trans h2.ho (fun _ _ h => h))
  have P1 := hide ((unhide H1).own.keep h2.ho (fun _ _ h => h))
  have hs1 := (unhide H1).ho.size
  have hs2 := h2.ho.size
  have L1 : Hid (∀ y, (Value.slice a1 X.length c1).ownBlock = some y → w.heap.size ≤ y ∧ y < w1.heap.size) := hide (fun y hy => ⟨(unhide H1).hb y hy, ownsRow_lt (unhide H1).own y hy⟩)
  have L2 := hide h2.hb
  have P2 := hide h2.own
  have C3 := hide (glsameI_any (unhide P1).in_ h2.own.in_ (by omega) (by omega))
  obtain ⟨a2, c2, rfl⟩ := ownsRow_shape h2.own
  clear C2 h2 H1
  go_wp2_with fail
  refine (unhide C3).mono ?_
  rintro e w3 ⟨b, rfl, hb, o3⟩
  have hs3 := o3.size
  have O3 := hide ((unhide O2).trans o3 (fun _ _ h => h))
  have Q1 := hide ((unhide P1).keep o3 (fun _ _ h => h))
  have Q2 := hide ((unhide P2).keep o3 (fun _ _ h => h))
  have Hb := hide hb
  clear C3 hb o3 O2 P1 P2
  cases once with
  | true =>
    have C4 := hide (glspoilI_any (unhide Q1))
    go_wp2_with fail
    refine (unhide C4).mono ?_
    rintro e w4 ⟨rfl, o4⟩
    have O4 := hide ((unhide O3).spoil o4 (fun y hy => (unhide L1 y hy).1))
    clear C4 o4
    go_wp2_with fail
    go_ret
    exact ⟨b, rfl, unhide Hb, unhide O4⟩
  | false =>
    have C4 := hide (unhide HR w3 (unhide O3))
    go_wp2_with fail
    refine (unhide C4).mono ?_
    rintro e w4 ⟨v4, rfl, h4⟩
    have O4 := hide ((unhide O3).trans h4.ho (fun _ _ h => h))
    have C5 := hide (unhide HR w4 (unhide O4))
    have H4 := hide h4
    have hs4 := h4.ho.size
    obtain ⟨a4, c4, rfl⟩ := ownsRow_shape h4.own
    clear C4 h4
    go_wp2_with fail
    refine (unhide C5).mono ?_
    rintro e w5 ⟨v5, rfl, h5⟩
    have O5 := hide ((unhide O4).trans h5.ho (fun _ _ h => h))
    have P4 := (unhide H4).own.keep h5.ho (fun _ _ h => h)
    have P1 := ((unhide Q1).keep (unhide H4).ho (fun _ _ h => h)).keep h5.ho (fun _ _ h => h)
    have P2 := ((unhide Q2).keep (unhide H4).ho (fun _ _ h => h)).keep h5.ho (fun _ _ h => h)
    have C6 := hide (glspoilI_any P1)
    have L4 : Hid (∀ y, (Value.slice a4 X.length c4).ownBlock = some y → w3.heap.size ≤ y ∧ y < w4.heap.size) := hide (fun y hy => ⟨(unhide H4).hb y hy, ownsRow_lt (unhide H4).own y hy⟩)
    have L5 := hide h5.hb
    have hs5 := h5.ho.size
    have K2 : Hid (∀ y, (Value.slice a2 Y.length c2).ownBlock = some y → y < w3.heap.size) := hide (fun y hy => ownsRow_lt (unhide Q2) y hy)
    have HP4 := hide P4
    have HP2 := hide P2
    have HP5 := hide h5.own
    obtain ⟨a5, c5, rfl⟩ := ownsRow_shape h5.own
    clear C5 h5 P4 P1 P2 H4 Q1 Q2 O3 O4
    go_wp2_with fail
    refine (unhide C6).mono ?_
    rintro e w6 ⟨rfl, o6⟩
    have O6 := hide ((unhide O5).spoil o6 (fun y hy => (unhide L1 y hy).1))
    have R4 := (unhide HP4).keep o6 (fun y hy e => by have := unhide L1 y e; have := unhide L4 y hy; omega)
    have R2 := (unhide HP2).keep o6 (fun y hy e => by have := unhide L1 y e; have := unhide L2 y hy; omega)
    have R5 := (unhide HP5).keep o6 (fun y hy e => by have := unhide L1 y e; have := unhide L5 y hy; omega)
    have C7 := hide (glsameI_any R4.in_ R2.in_ (by omega) (by omega))
    have HR4 := hide R4
    have HR2 := hide R2
    have HR5 := hide R5
    clear C6 o6 R4 R2 R5 HP4 HP2 HP5 O5
    go_wp2_with fail
    refine (unhide C7).mono ?_
    rintro e w7 ⟨b7, rfl, hb7, o7⟩
    obtain rfl := iff_bool (unhide Hb) hb7
    have O7 := hide ((unhide O6).trans o7 (fun _ _ h => h))
    have R4 := (unhide HR4).keep o7 (fun _ _ h => h)
    have HR2b := hide ((unhide HR2).keep o7 (fun _ _ h => h))
    have HR5b := hide ((unhide HR5).keep o7 (fun _ _ h => h))
    have C8 := hide (glspoilI_any R4)
    clear C7 hb7 o7 R4 HR4 HR2 HR5 O6
    go_wp2_with fail
    refine (unhide C8).mono ?_
    rintro e w8 ⟨rfl, o8⟩
    have O8 := hide ((unhide O7).spoil o8 (fun y hy => by have := unhide L4 y hy; omega))
    have R2 := (unhide HR2b).keep o8 (fun y hy e => by have := unhide L4 y e; have := unhide K2 y hy; omega)
    have R5 := (unhide HR5b).keep o8 (fun y hy e => by have := unhide L4 y e; have := unhide L5 y hy; omega)
    have C9 := hide (glsameI_any R5.in_ R2.in_ (by omega) (by omega))
    have HR5 := hide R5
    clear C8 o8 R2 R5 HR2b HR5b O7
    go_wp2_with fail
    refine (unhide C9).mono ?_
    rintro e w9 ⟨b9, rfl, hb9, o9⟩
    obtain rfl := iff_bool (unhide Hb) hb9
    have O9 := hide ((unhide O8).trans o9 (fun _ _ h => h))
    have R5 := (unhide HR5).keep o9 (fun _ _ h => h)
    have C10 := hide (glspoilI_any R5)
    clear C9 hb9 o9 R5 HR5 O8
    go_wp2_with fail
    refine (unhide C10).mono ?_
    rintro e w10 ⟨rfl, o10⟩
    have O10 := hide ((unhide O9).spoil o10 (fun y hy => by have := unhide L5 y hy; omega))
    clear C10 o10 O9
    cases b with
    | false =>
      have Hb2 : Hid (¬ X = Y) := hide (fun e => by have := (unhide Hb).2 e; cases this)
      go_wp2_with fail
      go_ret
      exact ⟨false, rfl, ⟨fun e => Bool.noConfusion e, fun e => absurd e (unhide Hb2)⟩, unhide O10⟩
    | true =>
      have HB := hide ((unhide Hb).1 rfl)
      go_wp2_with fail
      go_ret
      exact ⟨true, rfl, ⟨fun _ => unhide HB, fun _ => rfl⟩, unhide O10⟩
set_option maxRecDepth 100000 in
set_option maxHeartbeats 4000000 in
theorem glBrs_any (h : GR w g t s d D B recs J rt F T S) (hm : MG w m lx A r S2 sr hz H) (hA : ASm A) (once : Bool) :
    Calls Tryz.prog 40 #[.pointer (some ⟨g, 0, none⟩), .pointer (some ⟨m, 0, none⟩), .bool once] w fun e w' => ∃ b : Bool, e = .returned (.bool b) ∧ (b = true ↔ (absG J T).refs = A.refs) ∧ Only (fun _ => False) w w' := by
  have hAr := h.asm
  have C1 := hide (gbrs_any (J := J) h.gh h.gi.ref h.gi.tab.c0)
  have HR := hide (fun (W : World) (ho : Only (fun _ => False) w W) => gbrs_any (J := J) (h.quiet ho).gh (h.quiet ho).gi.ref (h.quiet ho).gi.tab.c0)
  have HM := hide (fun (W : World) (ho : Only (fun _ => False) w W) => hbrs_any (hm.quiet ho) hA)
  have hlx : ((absG J T).refs).length ≤ 1000 := by have := hAr.r; omega
  have hly : (A.refs).length ≤ 1000 := by have := hA.r; omega
  obtain ⟨X, hX⟩ : ∃ X, (absG J T).refs = X := ⟨_, rfl⟩
  obtain ⟨Y, hY⟩ : ∃ Y, A.refs = Y := ⟨_, rfl⟩
  rw [hX] at C1 HR hlx
  rw [hY] at HM hly
  rw [hX, hY]
  clear hX hY h hm hA hAr
  go_enter Tryz.func40, Tryz.ntmps40
  go_wp2_with fail
  refine (unhide C1).mono ?_
  rintro e w1 ⟨v1, rfl, h1⟩
  have C2 := hide (unhide HM w1 h1.ho)
  have H1 := hide h1
  obtain ⟨a1, c1, rfl⟩ := ownsRow_shape h1.own
  clear C1 h1
  go_wp2_with fail
  refine (unhide C2).mono ?_
  rintro e w2 ⟨v2, rfl, h2⟩
  have O2 := hide ((unhide H1).ho.trans h2.ho (fun _ _ h => h))
  have P1 := hide ((unhide H1).own.keep h2.ho (fun _ _ h => h))
  have hs1 := (unhide H1).ho.size
  have hs2 := h2.ho.size
  have L1 : Hid (∀ y, (Value.slice a1 X.length c1).ownBlock = some y → w.heap.size ≤ y ∧ y < w1.heap.size) := hide (fun y hy => ⟨(unhide H1).hb y hy, ownsRow_lt (unhide H1).own y hy⟩)
  have L2 := hide h2.hb
  have P2 := hide h2.own
  have C3 := hide (glsameR_any (unhide P1).in_ h2.own.in_ (by omega) (by omega))
  obtain ⟨a2, c2, rfl⟩ := ownsRow_shape h2.own
  clear C2 h2 H1
  go_wp2_with fail
  refine (unhide C3).mono ?_
  rintro e w3 ⟨b, rfl, hb, o3⟩
  have hs3 := o3.size
  have O3 := hide ((unhide O2).trans o3 (fun _ _ h => h))
  have Q1 := hide ((unhide P1).keep o3 (fun _ _ h => h))
  have Q2 := hide ((unhide P2).keep o3 (fun _ _ h => h))
  have Hb := hide hb
  clear C3 hb o3 O2 P1 P2
  cases once with
  | true =>
    have C4 := hide (glspoilR_any (unhide Q1))
    go_wp2_with fail
    refine (unhide C4).mono ?_
    rintro e w4 ⟨rfl, o4⟩
    have O4 := hide ((unhide O3).spoil o4 (fun y hy => (unhide L1 y hy).1))
    clear C4 o4
    go_wp2_with fail
    go_ret
    exact ⟨b, rfl, unhide Hb, unhide O4⟩
  | false =>
    have C4 := hide (unhide HR w3 (unhide O3))
    go_wp2_with fail
    refine (unhide C4).mono ?_
    rintro e w4 ⟨v4, rfl, h4⟩
    have O4 := hide ((unhide O3).trans h4.ho (fun _ _ h => h))
    have C5 := hide (unhide HR w4 (unhide O4))
    have H4 := hide h4
    have hs4 := h4.ho.size
    obtain ⟨a4, c4, rfl⟩ := ownsRow_shape h4.own
    clear C4 h4
    go_wp2_with fail
    refine (unhide C5).mono ?_
    rintro e w5 ⟨v5, rfl, h5⟩
    have O5 := hide ((unhide O4).trans h5.ho (fun _ _ h => h))
    have P4 := (unhide H4).own.keep h5.ho (fun _ _ h => h)
    have P1 := ((unhide Q1).keep (unhide H4).ho (fun _ _ h => h)).keep h5.ho (fun _ _ h => h)
    have P2 := ((unhide Q2).keep (unhide H4).ho (fun _ _ h => h)).keep h5.ho (fun _ _ h => h)
    have C6 := hide (glspoilR_any P1)
    have L4 : Hid (∀ y, (Value.slice a4 X.length c4).ownBlock = some y → w3.heap.size ≤ y ∧ y < w4.heap.size) := hide (fun y hy => ⟨(unhide H4).hb y hy, ownsRow_lt (unhide H4).own y hy⟩)
    have L5 := hide h5.hb
    have hs5 := h5.ho.size
    have K2 : Hid (∀ y, (Value.slice a2 Y.length c2).ownBlock = some y → y < w3.heap.size) := hide (fun y hy => ownsRow_lt (unhide Q2) y hy)
    have HP4 := hide P4
    have HP2 := hide P2
    have HP5 := hide h5.own
    obtain ⟨a5, c5, rfl⟩ := ownsRow_shape h5.own
    clear C5 h5 P4 P1 P2 H4 Q1 Q2 O3 O4
    go_wp2_with fail
    refine (unhide C6).mono ?_
    rintro e w6 ⟨rfl, o6⟩
    have O6 := hide ((unhide O5).spoil o6 (fun y hy => (unhide L1 y hy).1))
    have R4 := (unhide HP4).keep o6 (fun y hy e => by have := unhide L1 y e; have := unhide L4 y hy; omega)
    have R2 := (unhide HP2).keep o6 (fun y hy e => by have := unhide L1 y e; have := unhide L2 y hy; omega)
    have R5 := (unhide HP5).keep o6 (fun y hy e => by have := unhide L1 y e; have := unhide L5 y hy; omega)
    have C7 := hide (glsameR_any R4.in_ R2.in_ (by omega) (by omega))
    have HR4 := hide R4
    have HR2 := hide R2
    have HR5 := hide R5
    clear C6 o6 R4 R2 R5 HP4 HP2 HP5 O5
    go_wp2_with fail
    refine (unhide C7).mono ?_
    rintro e w7 ⟨b7, rfl, hb7, o7⟩
    obtain rfl := iff_bool (unhide Hb) hb7
    have O7 := hide ((unhide O6).trans o7 (fun _ _ h => h))
    have R4 := (unhide HR4).keep o7 (fun _ _ h => h)
    have HR2b := hide ((unhide HR2).keep o7 (fun _ _ h => h))
    have HR5b := hide ((unhide HR5).keep o7 (fun _ _ h => h))
    have C8 := hide (glspoilR_any R4)
    clear C7 hb7 o7 R4 HR4 HR2 HR5 O6
    go_wp2_with fail
    refine (unhide C8).mono ?_
    rintro e w8 ⟨rfl, o8⟩
    have O8 := hide ((unhide O7).spoil o8 (fun y hy => by have := unhide L4 y hy; omega))
    have R2 := (unhide HR2b).keep o8 (fun y hy e => by have := unhide L4 y e; have := unhide K2 y hy; omega)
    have R5 := (unhide HR5b).keep o8 (fun y hy e => by have := unhide L4 y e; have := unhide L5 y hy; omega)
    have C9 := hide (glsameR_any R5.in_ R2.in_ (by omega) (by omega))
    have HR5 := hide R5
    clear C8 o8 R2 R5 HR2b HR5b O7
    go_wp2_with fail
    refine (unhide C9).mono ?_
    rintro e w9 ⟨b9, rfl, hb9, o9⟩
    obtain rfl := iff_bool (unhide Hb) hb9
    have O9 := hide ((unhide O8).trans o9 (fun _ _ h => h))
    have R5 := (unhide HR5).keep o9 (fun _ _ h => h)
    have C10 := hide (glspoilR_any R5)
    clear C9 hb9 o9 R5 HR5 O8
    go_wp2_with fail
    refine (unhide C10).mono ?_
    rintro e w10 ⟨rfl, o10⟩
    have O10 := hide ((unhide O9).spoil o10 (fun y hy => by have := unhide L5 y hy; omega))
    clear C10 o10 O9
    cases b with
    | false =>
      have Hb2 : Hid (¬ X = Y) := hide (fun e => by have := (unhide Hb).2 e; cases this)
      go_wp2_with fail
      go_ret
      exact ⟨false, rfl, ⟨fun e => Bool.noConfusion e, fun e => absurd e (unhide Hb2)⟩, unhide O10⟩
    | true =>
      have HB := hide ((unhide Hb).1 rfl)
      go_wp2_with fail
      go_ret
      exact ⟨true, rfl, ⟨fun _ => unhide HB, fun _ => rfl⟩, unhide O10⟩
set_option maxRecDepth 100000 in
set_option maxHeartbeats 4000000 in
theorem glAux_any (h : GR w g t s d D B recs J rt F T S) (hm : MG w m lx A r S2 sr hz H) (hA : ASm A) (once : Bool) :
    Calls Tryz.prog 42 #[.pointer (some ⟨g, 0, none⟩), .pointer (some ⟨m, 0, none⟩), .bool once] w fun e w' => ∃ b : Bool, e = .returned (.bool b) ∧ (b = true ↔ (absG J T).aux = A.aux) ∧ Only (fun _ => False) w w' := by
  have hAr := h.asm
  have C1 := hide (gaux_any h)
  have HR := hide (fun (W : World) (ho : Only (fun _ => False) w W) => gaux_any (h.quiet ho))
  have HM := hide (fun (W : World) (ho : Only (fun _ => False) w W) => haux_any (hm.quiet ho) hA)
  have hlx : ((absG J T).aux).length ≤ 1000 := by have := hAr.aux; omega
  have hly : (A.aux).length ≤ 1000 := by have := hA.aux; omega
  obtain ⟨X, hX⟩ : ∃ X, (absG J T).aux = X := ⟨_, rfl⟩
  obtain ⟨Y, hY⟩ : ∃ Y, A.aux = Y := ⟨_, rfl⟩
  rw [hX] at C1 HR hlx
  rw [hY] at HM hly
  rw [hX, hY]
  clear hX hY h hm hA hAr
  go_enter Tryz.func42, Tryz.ntmps42
  go_wp2_with fail
  refine (unhide C1).mono ?_
  rintro e w1 ⟨v1, rfl, h1⟩
  have C2 := hide (unhide HM w1 h1.ho)
  have H1 := hide h1
  obtain ⟨a1, c1, rfl⟩ := ownsRow_shape h1.own
  clear C1 h1
  go_wp2_with fail
  refine (unhide C2).mono ?_
  rintro e w2 ⟨v2, rfl, h2⟩
  have O2 := hide ((unhide H1).ho.trans h2.ho (fun _ _ h => h))
  have P1 := hide ((unhide H1).own.keep h2.ho (fun _ _ h => h))
  have hs1 := (unhide H1).ho.size
  have hs2 := h2.ho.size
  have L1 : Hid (∀ y, (Value.slice a1 X.length c1).ownBlock = some y → w.heap.size ≤ y ∧ y < w1.heap.size) := hide (fun y hy => ⟨(unhide H1).hb y hy, ownsRow_lt (unhide H1).own y hy⟩)
  have L2 := hide h2.hb
  have P2 := hide h2.own
  have C3 := hide (glsameF_any (unhide P1).in_ h2.own.in_ (by omega) (by omega))
  obtain ⟨a2, c2, rfl⟩ := ownsRow_shape h2.own
  clear C2 h2 H1
  go_wp2_with fail
  refine (unhide C3).mono ?_
  rintro e w3 ⟨b, rfl, hb, o3⟩
  have hs3 := o3.size
  have O3 := hide ((unhide O2).trans o3 (fun _ _ h => h))
  have Q1 := hide ((unhide P1).keep o3 (fun _ _ h => h))
  have Q2 := hide ((unhide P2).keep o3 (fun _ _ h => h))
  have Hb := hide hb
  clear C3 hb o3 O2 P1 P2
  cases once with
  | true =>
    have C4 := hide (glspoilF_any (unhide Q1))
    go_wp2_with fail
    refine (unhide C4).mono ?_
    rintro e w4 ⟨rfl, o4⟩
    have O4 := hide ((unhide O3).spoil o4 (fun y hy => (unhide L1 y hy).1))
    clear C4 o4
    go_wp2_with fail
    go_ret
    exact ⟨b, rfl, unhide Hb, unhide O4⟩
  | false =>
    have C4 := hide (unhide HR w3 (unhide O3))
    go_wp2_with fail
    refine (unhide C4).mono ?_
    rintro e w4 ⟨v4, rfl, h4⟩
    have O4 := hide ((unhide O3).trans h4.ho (fun _ _ h => h))
    have C5 := hide (unhide HR w4 (unhide O4))
    have H4 := hide h4
    have hs4 := h4.ho.size
    obtain ⟨a4, c4, rfl⟩ := ownsRow_shape h4.own
    clear C4 h4
    go_wp2_with fail
    refine (unhide C5).mono ?_
    rintro e w5 ⟨v5, rfl, h5⟩
    have O5 := hide ((unhide O4).trans h5.ho (fun _ _ h => h))
    have P4 := (unhide H4).own.keep h5.ho (fun _ _ h => h)
    have P1 := ((unhide Q1).keep (unhide H4).ho (fun _ _ h => h)).keep h5.ho (fun _ _ h => h)
    have P2 := ((unhide Q2).keep (unhide H4).ho (fun _ _ h => h)).keep h5.ho (fun _ _ h => h)
    have C6 := hide (glspoilF_any P1)
    have L4 : Hid (∀ y, (Value.slice a4 X.length c4).ownBlock = some y → w3.heap.size ≤ y ∧ y < w4.heap.size) := hide (fun y hy => ⟨(unhide H4).hb y hy, ownsRow_lt (unhide H4).own y hy⟩)
    have L5 := hide h5.hb
    have hs5 := h5.ho.size
    have K2 : Hid (∀ y, (Value.slice a2 Y.length c2).ownBlock = some y → y < w3.heap.size) := hide (fun y hy => ownsRow_lt (unhide Q2) y hy)
    have HP4 := hide P4
    have HP2 := hide P2
    have HP5 := hide h5.own
    obtain ⟨a5, c5, rfl⟩ := ownsRow_shape h5.own
    clear C5 h5 P4 P1 P2 H4 Q1 Q2 O3 O4
    go_wp2_with fail
    refine (unhide C6).mono ?_
    rintro e w6 ⟨rfl, o6⟩
    have O6 := hide ((unhide O5).spoil o6 (fun y hy => (unhide L1 y hy).1))
    have R4 := (unhide HP4).keep o6 (fun y hy e => by have := unhide L1 y e; have := unhide L4 y hy; omega)
    have R2 := (unhide HP2).keep o6 (fun y hy e => by have := unhide L1 y e; have := unhide L2 y hy; omega)
    have R5 := (unhide HP5).keep o6 (fun y hy e => by have := unhide L1 y e; have := unhide L5 y hy; omega)
    have C7 := hide (glsameF_any R4.in_ R2.in_ (by omega) (by omega))
    have HR4 := hide R4
    have HR2 := hide R2
    have HR5 := hide R5
    clear C6 o6 R4 R2 R5 HP4 HP2 HP5 O5
    go_wp2_with fail
    refine (unhide C7).mono ?_
    rintro e w7 ⟨b7, rfl, hb7, o7⟩
    obtain rfl := iff_bool (unhide Hb) hb7
    have O7 := hide ((unhide O6).trans o7 (fun _ _ h => h))
    have R4 := (unhide HR4).keep o7 (fun _ _ h => h)
    have HR2b := hide ((unhide HR2).keep o7 (fun _ _ h => h))
    have HR5b := hide ((unhide HR5).keep o7 (fun _ _ h => h))
    have C8 := hide (glspoilF_any R4)
    clear C7 hb7 o7 R4 HR4 HR2 HR5 O6
    go_wp2_with fail
    refine (unhide C8).mono ?_
    rintro e w8 ⟨rfl, o8⟩
    have O8 := hide ((unhide O7).spoil o8 (fun y hy => by have := unhide L4 y hy; omega))
    have R2 := (unhide HR2b).keep o8 (fun y hy e => by have := unhide L4 y e; have := unhide K2 y hy; omega)
    have R5 := (unhide HR5b).keep o8 (fun y hy e => by have := unhide L4 y e; have := unhide L5 y hy; omega)
    have C9 := hide (glsameF_any R5.in_ R2.in_ (by omega) (by omega))
    have HR5 := hide R5
    clear C8 o8 R2 R5 HR2b HR5b O7
    go_wp2_with fail
    refine (unhide C9).mono ?_
    rintro e w9 ⟨b9, rfl, hb9, o9⟩
    obtain rfl := iff_bool (unhide Hb) hb9
    have O9 := hide ((unhide O8).trans o9 (fun _ _ h => h))
    have R5 := (unhide HR5).keep o9 (fun _ _ h => h)
    have C10 := hide (glspoilF_any R5)
    clear C9 hb9 o9 R5 HR5 O8
    go_wp2_with fail
    refine (unhide C10).mono ?_
    rintro e w10 ⟨rfl, o10⟩
    have O10 := hide ((unhide O9).spoil o10 (fun y hy => by have := unhide L5 y hy; omega))
    clear C10 o10 O9
    cases b with
    | false =>
      have Hb2 : Hid (¬ X = Y) := hide (fun e => by have := (unhide Hb).2 e; cases this)
      go_wp2_with fail
      go_ret
      exact ⟨false, rfl, ⟨fun e => Bool.noConfusion e, fun e => absurd e (unhide Hb2)⟩, unhide O10⟩
    | true =>
      have HB := hide ((unhide Hb).1 rfl)
      go_wp2_with fail
      go_ret
      exact ⟨true, rfl, ⟨fun _ => unhide HB, fun _ => rfl⟩, unhide O10⟩
set_option maxRecDepth 100000 in
set_option maxHeartbeats 4000000 in
theorem glLog_any (h : GR w g t s d D B recs J rt F T S) (hm : MG w m lx A r S2 sr hz H) (hA : ASm A) (q : Int) (once : Bool) :
    Calls Tryz.prog 56 #[.pointer (some ⟨g, 0, none⟩), .pointer (some ⟨m, 0, none⟩), .int .i64 q, .bool once] w fun e w' => ∃ b : Bool, e = .returned (.bool b) ∧ (b = true ↔ ((logV (absG J T) q).1 = (logV A q).1 ∧ (logV (absG J T) q).2 = (logV A q).2)) ∧ Only (fun _ => False) w w' := by
  have hAr := h.asm
  have C1 := hide (glog_any h q)
  have HR := hide (fun (W : World) (ho : Only (fun _ => False) w W) => glog_any (h.quiet ho) q)
  have HM := hide (fun (W : World) (ho : Only (fun _ => False) w W) => hlog_any (hm.quiet ho) hA q)
  have hlx : ((logV (absG J T) q).1).length ≤ 1000 := logV_len hAr q
  have hly : ((logV A q).1).length ≤ 1000 := logV_len hA q
  obtain ⟨X, hX⟩ : ∃ X, (logV (absG J T) q).1 = X := ⟨_, rfl⟩
  obtain ⟨Y, hY⟩ : ∃ Y, (logV A q).1 = Y := ⟨_, rfl⟩
  obtain ⟨ex, hex⟩ : ∃ x : Nat, (logV (absG J T) q).2 = x := ⟨_, rfl⟩
  obtain ⟨ey, hey⟩ : ∃ y : Nat, (logV A q).2 = y := ⟨_, rfl⟩
  rw [hX, hex] at C1 HR
  rw [hY, hey] at HM
  rw [hX, hY, hex, hey]
  rw [hX] at hlx
  rw [hY] at hly
  clear hX hY hex hey h hm hA hAr
  obtain ⟨be, hbe⟩ : ∃ b : Bool, decide (ex = ey) = b := ⟨_, rfl⟩
  have ce : ((ex : Int) == (ey : Int)) = be := by
    rw [← hbe]
    by_cases e : ex = ey
    · rw [e]; simp
    · rw [decide_eq_false e]; exact ne_intO (by omega)
  have Hbe : Hid (be = true ↔ ex = ey) := hide (by rw [← hbe]; exact decide_eq_true_iff)
  clear hbe
  go_enter Tryz.func56, Tryz.ntmps56
  go_wp2_with fail
  refine (unhide C1).mono ?_
  rintro e w1 ⟨v1, rfl, h1⟩
  have C2 := hide (unhide HM w1 h1.ho)
  have H1 := hide h1
  obtain ⟨a1, c1, rfl⟩ := ownsRow_shape h1.own
  clear C1 h1
  go_wp2_with fail
  refine (unhide C2).mono ?_
  rintro e w2 ⟨v2, rfl, h2⟩
  have O2 := hide ((unhide H1).ho.trans h2.ho (fun _ _ h => h))
  have P1 := hide ((unhide H1).own.keep h2.ho (fun _ _ h => h))
  have hs1 := (unhide H1).ho.size
  have hs2 := h2.ho.size
  have L1 : Hid (∀ y, (Value.slice a1 X.length c1).ownBlock = some y → w.heap.size ≤ y ∧ y < w1.heap.size) := hide (fun y hy => ⟨(unhide H1).hb y hy, ownsRow_lt (unhide H1).own y hy⟩)
  have L2 := hide h2.hb
  have P2 := hide h2.own
  have C3 := hide (glsameI_any (unhide P1).in_ h2.own.in_ (by omega) (by omega))
  obtain ⟨a2, c2, rfl⟩ := ownsRow_shape h2.own
  clear C2 h2 H1
  go_wp2_with fail
  refine (unhide C3).mono ?_
  rintro e w3 ⟨b, rfl, hb, o3⟩
  have hs3 := o3.size
  have O3 := hide ((unhide O2).trans o3 (fun _ _ h => h))
  have Q1 := hide ((unhide P1).keep o3 (fun _ _ h => h))
  have Q2 := hide ((unhide P2).keep o3 (fun _ _ h => h))
  have Hb := hide hb
  clear C3 hb o3 O2 P1 P2
  cases once with
  | true =>
    have C4 := hide (glspoilI_any (unhide Q1))
    go_wp2_with fail
    refine (unhide C4).mono ?_
    rintro e w4 ⟨rfl, o4⟩
    have O4 := hide ((unhide O3).spoil o4 (fun y hy => (unhide L1 y hy).1))
    clear C4 o4
    cases b with
    | false =>
      go_wp2_with fail
      go_ret
      exact ⟨false, rfl, ⟨fun e => Bool.noConfusion e, fun e => absurd ((unhide Hb).2 e.1) (by simp)⟩, unhide O4⟩
    | true =>
      have HB := hide ((unhide Hb).1 rfl)
      go_wp2_with fail
      go_ret
      exact ⟨be, rfl, ⟨fun e => ⟨unhide HB, (unhide Hbe).1 e⟩, fun e => (unhide Hbe).2 e.2⟩, unhide O4⟩
  | false =>
    have C4 := hide (unhide HR w3 (unhide O3))
    go_wp2_with fail
    refine (unhide C4).mono ?_
    rintro e w4 ⟨v4, rfl, h4⟩
    have O4 := hide ((unhide O3).trans h4.ho (fun _ _ h => h))
    have C5 := hide (unhide HR w4 (unhide O4))
    have H4 := hide h4
    have hs4 := h4.ho.size
    obtain ⟨a4, c4, rfl⟩ := ownsRow_shape h4.own
    clear C4 h4
    go_wp2_with fail
    refine (unhide C5).mono ?_
    rintro e w5 ⟨v5, rfl, h5⟩
    have O5 := hide ((unhide O4).trans h5.ho (fun _ _ h => h))
    have P4 := (unhide H4).own.keep h5.ho (fun _ _ h => h)
    have P1 := ((unhide Q1).keep (unhide H4).ho (fun _ _ h => h)).keep h5.ho (fun _ _ h => h)
    have P2 := ((unhide Q2).keep (unhide H4).ho (fun _ _ h => h)).keep h5.ho (fun _ _ h => h)
    have C6 := hide (glspoilI_any P1)
    have L4 : Hid (∀ y, (Value.slice a4 X.length c4).ownBlock = some y → w3.heap.size ≤ y ∧ y < w4.heap.size) := hide (fun y hy => ⟨(unhide H4).hb y hy, ownsRow_lt (unhide H4).own y hy⟩)
    have L5 := hide h5.hb
    have hs5 := h5.ho.size
    have K2 : Hid (∀ y, (Value.slice a2 Y.length c2).ownBlock = some y → y < w3.heap.size) := hide (fun y hy => ownsRow_lt (unhide Q2) y hy)
    have HP4 := hide P4
    have HP2 := hide P2
    have HP5 := hide h5.own
    obtain ⟨a5, c5, rfl⟩ := ownsRow_shape h5.own
    clear C5 h5 P4 P1 P2 H4 Q1 Q2 O3 O4
    go_wp2_with fail
    refine (unhide C6).mono ?_
    rintro e w6 ⟨rfl, o6⟩
    have O6 := hide ((unhide O5).spoil o6 (fun y hy => (unhide L1 y hy).1))
    have R4 := (unhide HP4).keep o6 (fun y hy e => by have := unhide L1 y e; have := unhide L4 y hy; omega)
    have R2 := (unhide HP2).keep o6 (fun y hy e => by have := unhide L1 y e; have := unhide L2 y hy; omega)
    have R5 := (unhide HP5).keep o6 (fun y hy e => by have := unhide L1 y e; have := unhide L5 y hy; omega)
    have C7 := hide (glsameI_any R4.in_ R2.in_ (by omega) (by omega))
    have HR4 := hide R4
    have HR2 := hide R2
    have HR5 := hide R5
    clear C6 o6 R4 R2 R5 HP4 HP2 HP5 O5
    go_wp2_with fail
    refine (unhide C7).mono ?_
    rintro e w7 ⟨b7, rfl, hb7, o7⟩
    obtain rfl := iff_bool (unhide Hb) hb7
    have O7 := hide ((unhide O6).trans o7 (fun _ _ h => h))
    have R4 := (unhide HR4).keep o7 (fun _ _ h => h)
    have HR2b := hide ((unhide HR2).keep o7 (fun _ _ h => h))
    have HR5b := hide ((unhide HR5).keep o7 (fun _ _ h => h))
    have C8 := hide (glspoilI_any R4)
    clear C7 hb7 o7 R4 HR4 HR2 HR5 O6
    go_wp2_with fail
    refine (unhide C8).mono ?_
    rintro e w8 ⟨rfl, o8⟩
    have O8 := hide ((unhide O7).spoil o8 (fun y hy => by have := unhide L4 y hy; omega))
    have R2 := (unhide HR2b).keep o8 (fun y hy e => by have := unhide L4 y e; have := unhide K2 y hy; omega)
    have R5 := (unhide HR5b).keep o8 (fun y hy e => by have := unhide L4 y e; have := unhide L5 y hy; omega)
    have C9 := hide (glsameI_any R5.in_ R2.in_ (by omega) (by omega))
    have HR5 := hide R5
    clear C8 o8 R2 R5 HR2b HR5b O7
    go_wp2_with fail
    refine (unhide C9).mono ?_
    rintro e w9 ⟨b9, rfl, hb9, o9⟩
    obtain rfl := iff_bool (unhide Hb) hb9
    have O9 := hide ((unhide O8).trans o9 (fun _ _ h => h))
    have R5 := (unhide HR5).keep o9 (fun _ _ h => h)
    have C10 := hide (glspoilI_any R5)
    clear C9 hb9 o9 R5 HR5 O8
    go_wp2_with fail
    refine (unhide C10).mono ?_
    rintro e w10 ⟨rfl, o10⟩
    have O10 := hide ((unhide O9).spoil o10 (fun y hy => by have := unhide L5 y hy; omega))
    clear C10 o10 O9
    cases b with
    | false =>
      go_wp2_with fail
      go_ret
      exact ⟨false, rfl, ⟨fun e => Bool.noConfusion e, fun e => absurd ((unhide Hb).2 e.1) (by simp)⟩, unhide O10⟩
    | true =>
      have HB := hide ((unhide Hb).1 rfl)
      cases be with
      | false =>
        go_wp2_with fail
        go_ret
        exact ⟨false, rfl, ⟨fun e => Bool.noConfusion e, fun e => absurd ((unhide Hbe).2 e.2) (by simp)⟩, unhide O10⟩
      | true =>
        have HE := hide ((unhide Hbe).1 rfl)
        go_wp2_with fail
        go_ret
        exact ⟨true, rfl, ⟨fun _ => ⟨unhide HB, unhide HE⟩, fun _ => rfl⟩, unhide O10⟩
end
end Go.Proofs.Qxb6500417aGreat
