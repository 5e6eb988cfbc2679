/-
  OWN WORK. THE GRAPH's MODEL: api's CopyNodes, Keep (written by tools/gen_hnl2.py).
-/
import Derived.Test.Qxb6500417aGreatHNl
namespace Go.Proofs.Qxb6500417aGreat
open Go.RowKit Go.PlainAid
set_option linter.unusedSimpArgs false
set_option linter.unusedVariables false

/-- Lists of a commit are short. -/
def Sml (l : List Nd) : Prop := ∀ x ∈ l, x.files.length ≤ 1000 ∧ x.par.length ≤ 1000
theorem parI_len (x : Nd) : (parI x).length = x.par.length := by simp [parI]
/-- A made commit goes into the list that is made. -/
theorem NL.pushM {w w1 w2 w3 : World} {v v' fv pv : Value} {rs : List NRow} {x : Nd} {o : Obj} {n : Nat} (h : NL (fun y => w.heap.size ≤ y) w1 v rs) (hs : w.heap.size ≤ w1.heap.size) (hN : NM w1 fv pv x w2) (hown : w3.ownsRow 0 128 4 v' n (nrCells rs ++ [.int .i64 (x.seq : Int), fv, pv, .string x.msg])) (hn : n = rs.length + 1) (hgrow : (w2.alloc o).grownBy w3 v.ownBlock) (hwhere : ∀ k, v'.ownBlock = some k → v.ownBlock = some k ∨ k = w2.heap.size + 1) : NL (fun y => w.heap.size ≤ y) w3 v' (rs ++ [⟨x, fv, pv⟩]) ∧ Only (fun y => v.ownBlock = some y) w1 w3 := by
  have hb : ∀ y, (⟨x, fv, pv⟩ : NRow).blk y → w1.heap.size ≤ y := fun y hy => by
    rcases hy with e | e
    · exact hN.bf y e
    · exact hN.bp y e
  obtain ⟨a, b⟩ := (h.quiet hN.ho).push (r := ⟨x, fv, pv⟩) ⟨hN.of, hN.op⟩ (fun y hy => by have := hb y hy; omega) (fun y hy e => by
    have h1 := hb y hy
    have h2 := ownsRow_lt h.own y e
    omega) hown hn hgrow hwhere
  have hs2 := hN.ho.size
  exact ⟨a.mono (fun y hy => by rcases hy with e | e; exact e; omega), (hN.ho.mono (T := fun y => v.ownBlock = some y) (fun _ _ h => h.elim)).trans b (fun _ _ h => h)⟩
section
variable {w : World}
set_option maxRecDepth 100000 in
set_option maxHeartbeats 4000000 in
theorem acopyNodes_any {H : Nat → Prop} {v : Value} {l : List Nd} (h : NodesIn H w v l) (hlen : l.length ≤ 1000) (hs : Sml l) :
    Calls Tryz.prog 67 #[v] w fun e w' => ∃ v', e = .returned v' ∧ NLM w v' l w' := by
  obtain ⟨i0, hi0, hz0, hz1, hz2⟩ := info_parts Tryz.infoNode
  have H0 := hide h
  have HS := hide hs
  obtain ⟨a, cap, rfl⟩ := h.shape
  clear h hs
  go_enter Tryz.func67, Tryz.ntmps67
  go_wp2_with fail
  go_loopw [3, 4] (fun ov iv wr => ∃ i : Nat, i ≤ l.length ∧ iv = .int .i64 i ∧ NLM w ov (l.take i) wr) (fun _ iv _ => l.length - (intOf iv).toNat)
  case atStart => exact ⟨0, by omega, rfl, NLM.nil w⟩
  case round =>
    obtain ⟨i, hi, rfl, hM⟩ := hrel
    by_cases hil : i < l.length
    · obtain ⟨g, _, he, hgl, hN⟩ := ((unhide H0).quiet hM.ho).cellAt hil
      obtain ⟨rfl, rfl⟩ := slice_eq he
      have a1 : decide ((i : Int) < (l.length : Int)) = true := decide_eq_true (by omega)
      have a1n : decide (i < l.length) = true := decide_eq_true hil
      have a2 : (i : Int) < (l.length : Int) := by omega
      have hsm := unhide HS _ (List.getElem_mem hil)
      have c0 := hN.sq
      have c3 := hN.ms
      obtain ⟨fv, c1, hF, _⟩ := hN.fs
      obtain ⟨pv, c2, hI, _⟩ := hN.ps
      have C1 := hide (acopyNode_any (x := l[i]) hF hI hsm.1 (by rw [parI_len]; exact hsm.2))
      obtain ⟨fa, fc, rfl, _⟩ := hF
      obtain ⟨pa, pc, rfl⟩ := hI.shape
      obtain ⟨rs, hrs, hL⟩ := hM.ex
      have hrl : rs.length ≤ i := by rw [← List.length_map (f := NRow.x), hrs, List.length_take]; omega
      have HL := hide hL
      have HO := hide hM.ho
      have hsz := hM.ho.size
      have own1 := hide hL.own
      obtain ⟨oa, oc, rfl⟩ := ownsRow_shape hL.own
      have hsn : l.take (i + 1) = rs.map NRow.x ++ [l[i]] := by rw [hrs, take_snoc hil]
      have Hsn := hide hsn
      clear hM he hN hL hsn hrs hsm hI
      generalize l[i] = x at *
      go_wp2_with fail
      refine (unhide C1).mono ?_
      rintro e w2 ⟨fv', pv', rfl, hN2⟩
      have HN2 := hide hN2
      have own2 : w2.ownsRow 0 128 4 _ _ _ := ownsRow_keep (unhide own1) hN2.ho (fun _ _ h => h)
      obtain ⟨fa', fc', hfe⟩ := ownsRow_shape hN2.of
      subst hfe
      obtain ⟨pa', pc', hpe⟩ := ownsRow_shape hN2.op
      rw [List.length_map] at hpe
      subst hpe
      clear C1 hN2 own1 c0 c1 c2 c3
      go_wp2_with (at_builtin; refine wpList_append2 _ rfl _ _ 55 rfl 128 i0 _ 4 72 Tryz.underlying55 hi0 hz0 hz1 hz2 rfl (by decide) _ _ _ rfl (own2.alloc _) ⟨w2.heap.size, 0, none⟩ 1 1 [.int .i64 (x.seq : Int), .slice fa' x.files.length fc', .slice pa' x.par.length pc', .string x.msg] rfl rfl ?d1 ?d2 ?d3 ?d4 ?_)
      try (case d1 => exact news_ok _ _ _ _ rfl)
      case d2 => first | (intro u hu; simp at hu; rcases hu with rfl | rfl | rfl | rfl <;> rfl) | exact ⟨rfl, rfl⟩ | exact ⟨rfl, rfl, rfl, rfl⟩ | rfl
      case d3 => unfold maxLen; omega
      case d4 => omega
      intro v7 w7 hown hgrow hwhere
      obtain ⟨hL7, hO7⟩ := (unhide HL).pushM hsz (unhide HN2) hown rfl hgrow hwhere
      have hO7' : Only (fun _ => False) w w7 := (unhide HO).trans hO7 (fun y hy e => by have := (unhide HL).hv y e; omega)
      have HM7 : Hid (NLM w v7 (l.take (i + 1)) w7) := hide ⟨⟨_, by rw [unhide Hsn, List.map_append]; rfl, hL7⟩, hO7'⟩
      clear hown hgrow hwhere own2 hL7 hO7 hO7' HL HN2
      go_wp2_with fail
      go_roundw
      case rel => exact ⟨i + 1, by omega, by go_num, unhide HM7⟩
      case measure => simp [intOf]; omega
    · have e1 : i = l.length := by omega
      subst e1
      have a1 : decide ((l.length : Int) < (l.length : Int)) = false := by simp
      rw [List.take_length] at hM
      have HM := hide hM
      clear hM
      go_wp2_with fail
      go_ret
      exact ⟨_, rfl, unhide HM⟩
set_option maxRecDepth 100000 in
set_option maxHeartbeats 8000000 in
theorem akeep_any {H : Nat → Prop} {v rv : Value} {l : List Nd} {rl : List Rf} (h : NodesIn H w v l) (hlen : l.length ≤ 1000) (hs : Sml l) (hS : NdS l) (hr : RefsIn w rv rl) (hrl : rl.length ≤ 100) (hn : ByteArray) (hsq hm : Nat) :
    Calls Tryz.prog 160 #[v, rv, .agg #[.string hn, .int .i64 (hsq : Int), .int .i64 (hm : Int)]] w fun e w' => ∃ v', e = .returned v' ∧ NLM w v' (keepI l (reachN l l.length (rootI l (rootsI rl hn hsq hm))) l.length) w' := by
  obtain ⟨i0, hi0, hz0, hz1, hz2⟩ := info_parts Tryz.infoNode
  have o1 := (Only.refl (fun _ => False) w).alloc (.cells #[.string hn, .int .i64 (hsq : Int), .int .i64 (hm : Int)] 58)
  have hA := Has.new w #[.string hn, .int .i64 (hsq : Int), .int .i64 (hm : Int)] 58
  have C1 := hide (aroots_any (hr.keep o1 (fun _ _ h => h)) (by omega) hn hsq hm)
  have hrl2 : (rootsI rl hn hsq hm).length ≤ 1000 := by
    unfold rootsI rsI
    rw [List.length_append, List.length_append, List.length_map]
    split <;> split <;> simp <;> omega
  have H0 := hide h
  have HS := hide hs
  have HSS := hide hS
  have O1 := hide o1
  have k0 := hA.cell 0
  have k1 := hA.cell 1
  have k2 := hA.cell 2
  simp only [List.getElem?_toArray, List.getElem?_cons_zero, List.getElem?_cons_succ] at k0 k1 k2
  obtain ⟨a, cap, rfl⟩ := h.shape
  obtain ⟨ra, rcap, rfl⟩ := hr.shape
  generalize rootsI rl hn hsq hm = RS at *
  obtain ⟨sn, hsn⟩ : ∃ sn, reachN l l.length (rootI l RS) = sn := ⟨_, rfl⟩
  rw [hsn]
  have Hsn0 := hide hsn
  clear h hs hS hr o1 hA hsn
  go_enter Tryz.func160, Tryz.ntmps160
  go_wp2_with fail
  refine (unhide C1).mono ?_
  rintro e w2 ⟨v2, rfl, hII⟩
  have hO2 := (unhide O1).trans hII.ho (fun _ _ h => h)
  have C2 := areach_any ((unhide H0).quiet hO2) hlen (unhide HSS) hII.own.in_ hrl2 (fun x hx => (unhide HS x hx).2)
  rw [unhide Hsn0] at C2
  have C2 := hide C2
  obtain ⟨oa, oc, hoe⟩ := ownsRow_shape hII.own
  subst hoe
  have HO2 := hide hO2
  clear C1 hII hO2 k0 k1 k2
  go_wp2_with fail
  refine (unhide C2).mono ?_
  rintro e w3 ⟨b, rfl, hP⟩
  have HP := hide hP
  have hO3 := (unhide HO2).trans hP.ho (fun _ _ h => h)
  have HO3 := hide hO3
  have HN3 := hide ((unhide H0).quiet hO3)
  have Hfin := hide (fun (vv : Value) (ww : World) (P3 : List Nd) (hh : NLM w3 vv P3 ww) => (show NLM w vv P3 ww from by
    obtain ⟨rs, e, hL⟩ := hh.ex
    have := (unhide HO3).size
    exact ⟨⟨rs, e, hL.mono (fun y hy => by omega)⟩, (unhide HO3).trans hh.ho (fun _ _ h => h)⟩))
  clear C2 hP hO3 HO2 Hsn0
  go_wp2_with fail
  go_loopw [9, 10] (fun ov iv wr => ∃ i : Nat, i ≤ l.length ∧ iv = .int .i64 i ∧ NLM w3 ov (keepI l sn i) wr) (fun _ iv _ => l.length - (intOf iv).toNat)
  case atStart => exact ⟨0, by omega, rfl, NLM.nil w3⟩
  case round =>
    obtain ⟨i, hi, rfl, hM⟩ := hrel
    by_cases hil : i < l.length
    · obtain ⟨g, _, he, hgl, hN⟩ := ((unhide HN3).quiet hM.ho).cellAt hil
      obtain ⟨rfl, rfl⟩ := slice_eq he
      have a1 : decide ((i : Int) < (l.length : Int)) = true := decide_eq_true (by omega)
      have a1n : decide (i < l.length) = true := decide_eq_true hil
      have a2 : (i : Int) < (l.length : Int) := by omega
      have cs := (((unhide HP).quiet hM.ho).sn.cell i hil).1
      have hki : keepI l sn (i + 1) = keepI l sn i ++ (if sn i = true then [l[i]] else []) := by
        show keepI l sn i ++ _ = _
        rw [List.getElem?_eq_getElem hil]
      cases hsi : sn i with
      | false =>
        rw [hsi] at cs hki
        rw [if_neg (by simp), List.append_nil] at hki
        have HM := hide hM
        have Hki := hide hki
        obtain ⟨oa2, oc2, hoe⟩ := hM.shape
        subst hoe
        clear hM he hN hki hsi
        go_wp2_with fail
        go_roundw
        case rel => exact ⟨i + 1, by omega, by go_num, by rw [unhide Hki]; exact unhide HM⟩
        case measure => simp [intOf]; omega
      | true =>
        rw [hsi] at cs hki
        rw [if_pos rfl] at hki
        have hsm := unhide HS _ (List.getElem_mem hil)
        have c0 := hN.sq
        have c3 := hN.ms
        obtain ⟨fv, c1, hF, _⟩ := hN.fs
        obtain ⟨pv, c2, hI, _⟩ := hN.ps
        have C1 := hide (acopyNode_any (x := l[i]) hF hI hsm.1 (by rw [parI_len]; exact hsm.2))
        obtain ⟨fa, fc, rfl, _⟩ := hF
        obtain ⟨pa, pc, rfl⟩ := hI.shape
        obtain ⟨rs, hrs, hL⟩ := hM.ex
        have hrl3 : rs.length ≤ i := by
          rw [← List.length_map (f := NRow.x), hrs]
          have : ∀ k, (keepI l sn k).length ≤ k := by
            intro k
            induction k with
            | zero => simp [keepI]
            | succ k ih =>
              show (keepI l sn k ++ _).length ≤ k + 1
              rw [List.length_append]
              cases l[k]? with
              | none => simp; omega
              | some b =>
                by_cases e : sn k = true
                · simp only [if_pos e]; simp; omega
                · simp only [if_neg e]; simp; omega
          exact this i
        have HL := hide hL
        have HO := hide hM.ho
        have hsz := hM.ho.size
        have own1 := hide hL.own
        obtain ⟨oa2, oc2, hoe⟩ := ownsRow_shape hL.own
        subst hoe
        have Hki := hide (show keepI l sn (i + 1) = rs.map NRow.x ++ [l[i]] by rw [hki, hrs])
        clear hM he hN hL hki hrs hsm hI hsi
        generalize l[i] = x at *
        go_wp2_with fail
        refine (unhide C1).mono ?_
        rintro e w4 ⟨fv', pv', rfl, hN2⟩
        have HN2 := hide hN2
        have own2 : w4.ownsRow 0 128 4 _ _ _ := ownsRow_keep (unhide own1) hN2.ho (fun _ _ h => h)
        obtain ⟨fa', fc', hfe⟩ := ownsRow_shape hN2.of
        subst hfe
        obtain ⟨pa', pc', hpe⟩ := ownsRow_shape hN2.op
        rw [List.length_map] at hpe
        subst hpe
        clear C1 hN2 own1 c0 c1 c2 c3 cs
        go_wp2_with (at_builtin; refine wpList_append2 _ rfl _ _ 55 rfl 128 i0 _ 4 72 Tryz.underlying55 hi0 hz0 hz1 hz2 rfl (by decide) _ _ _ rfl (own2.alloc _) ⟨w4.heap.size, 0, none⟩ 1 1 [.int .i64 (x.seq : Int), .slice fa' x.files.length fc', .slice pa' x.par.length pc', .string x.msg] rfl rfl ?d1 ?d2 ?d3 ?d4 ?_)
        try (case d1 => exact news_ok _ _ _ _ rfl)
        case d2 => first | (intro u hu; simp at hu; rcases hu with rfl | rfl | rfl | rfl <;> rfl) | exact ⟨rfl, rfl⟩ | exact ⟨rfl, rfl, rfl, rfl⟩ | rfl
        case d3 => unfold maxLen; omega
        case d4 => omega
        intro v7 w7 hown hgrow hwhere
        obtain ⟨hL7, hO7⟩ := (unhide HL).pushM hsz (unhide HN2) hown rfl hgrow hwhere
        have hO7' : Only (fun _ => False) w3 w7 := (unhide HO).trans hO7 (fun y hy e => by have := (unhide HL).hv y e; omega)
        have HM7 : Hid (NLM w3 v7 (keepI l sn (i + 1)) w7) := hide ⟨⟨_, by rw [unhide Hki, List.map_append]; rfl, hL7⟩, hO7'⟩
        clear hown hgrow hwhere own2 hL7 hO7 hO7' HL HN2
        go_wp2_with fail
        go_roundw
        case rel => exact ⟨i + 1, by omega, by go_num, unhide HM7⟩
        case measure => simp [intOf]; omega
    · have e1 : i = l.length := by omega
      subst e1
      have a1 : decide ((l.length : Int) < (l.length : Int)) = false := by simp
      have HM := hide hM
      obtain ⟨oa2, oc2, hoe⟩ := hM.shape
      subst hoe
      clear hM
      go_wp2_with fail
      go_ret
      exact ⟨_, rfl, unhide Hfin _ _ _ (unhide HM)⟩
end
end Go.Proofs.Qxb6500417aGreat
