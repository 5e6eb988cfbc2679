/-
  OWN WORK. THE GRAPH's MODEL: SetHead, SetAux (written by tools/gen_hmd6.py).
-/
import Derived.Test.Qxb6500417aGreatHMd5
namespace Go.Proofs.Qxb6500417aGreat
open Go.RowKit Go.PlainAid
set_option linter.unusedSimpArgs false
set_option linter.unusedVariables false

theorem checkF_path {l : List Fl} (hc : checkF l = 0) : ∀ f ∈ l, f.path.size ≤ 12 := by
  have hl8 : ¬ 8 < l.length := fun h => by unfold checkF at hc; rw [if_pos h] at hc; cases hc
  have hfine : Fine (mE l) := by
    refine checkE_fine ?_ ?_
    · unfold checkE
      rw [if_neg (by unfold mE; rw [List.length_map]; exact hl8)]
      refine chk_mE l [] ?_
      unfold checkF at hc
      rwa [if_neg hl8] at hc
    · intro e he
      obtain ⟨f, _, rfl⟩ := List.mem_map.1 he
      exact ⟨by show (1 : Int) ≤ 1; omega, by show (1 : Int) ≤ 48; omega⟩
  intro f hf
  have := hfine.len _ (List.mem_map.2 ⟨f, hf, rfl⟩)
  rw [← ls_size]
  exact this
section
variable {w w' : World} {nv rv av : Value} {A S : GA} {O P H : Nat → Prop} {m : Nat} {lx hz : Bool} {r sr : Int}
theorem shA_err {nm : ByteArray} {s mq : Int} {e : Nat} (h : shE A nm s mq = e) (he : e ≠ 0) : shA A nm s mq = A := by unfold shA; rw [if_neg (by rw [h]; exact he)]
theorem shA_ok {nm : ByteArray} {s mq : Int} (h : shE A nm s mq = 0) : shA A nm s mq = setHdA A nm s mq := by unfold shA; rw [if_pos h]
theorem MT.head {w1 : World} (h : MG w m lx A r S sr hz H) (ho : Only (fun _ => False) w w1) (nm : ByteArray) (sq mq : Nat) : MT w (((w1.setCell ⟨m, 3, none⟩ (.string nm)).setCell ⟨m, 4, none⟩ (.int .i64 (sq : Int))).setCell ⟨m, 5, none⟩ (.int .i64 (mq : Int))) m lx { A with hn := nm, hs := sq, hm := mq } r S sr hz H :=
  (MT.quiet h ho).trans (MT.of0 (MT.quiet h ho).mg ((MT.quiet h ho).mg.putHead nm sq mq))

set_option maxRecDepth 100000 in
set_option maxHeartbeats 4000000 in
theorem hsetHd_any (h : MG w m lx A r S sr hz H) (hA : ASm A) (nm : ByteArray) (sq mq : Int) :
    Calls Tryz.prog 103 #[.pointer (some ⟨m, 0, none⟩), .agg #[.string nm, .int .i64 sq, .int .i64 mq]] w fun e w' => e = .returned (.int .i64 (shE A nm sq mq : Nat)) ∧ MT w w' m lx (shA A nm sq mq) r S sr hz H := by
  have oA := (Only.refl (fun _ => False) w).alloc (.cells #[.string nm, .int .i64 sq, .int .i64 mq] 58)
  have hK := Has.new w #[.string nm, .int .i64 sq, .int .i64 mq] 58
  have CG := fun W => goodName_any nm W
  have H0 := hide h
  have hml := h.lt
  have HO := hide oA
  have HK := hide hK
  have hbl := hK.lt
  clear oA hK h
  go_enter Tryz.func103, Tryz.ntmps103
  go_upto_region 1 with fail
  generalize hW : w.alloc (.cells #[.string nm, .int .i64 sq, .int .i64 mq] 58) = W at *
  clear hW
  obtain ⟨b, hb⟩ : ∃ b, w.heap.size = b := ⟨_, rfl⟩
  rw [hb] at HK hml hbl ⊢
  have k0 := (unhide HK).cell 0
  have k1 := (unhide HK).cell 1
  have k2 := (unhide HK).cell 2
  have f1 := (unhide HK).free 1
  simp only [List.getElem?_toArray, List.getElem?_cons_zero, List.getElem?_cons_succ] at k0 k1 k2
  have h1 := (unhide H0).quiet (unhide HO)
  obtain ⟨_, _, _, _, _, _, _, _, _, e3, e4, e5, _, _, _, _⟩ := h1.cur
  have z3 := h1.free 3
  have z4 := h1.free 4
  have z5 := h1.free 5
  have hmW := h1.lt
  clear h1
  by_cases hnz : nm.size ≠ 0
  · have b1 := nonempty_size hnz
    cases hg : goodN nm with
    | false =>
      have hE : shE A nm sq mq = 14 := by unfold shE; rw [if_pos (by rw [if_pos hnz]; exact hg)]
      have hX := shA_err hE (by omega)
      have C1 := CG W
      rw [hg] at C1
      have C1 := hide C1
      have HE := hide hE
      have HX := hide hX
      clear hE hX CG hg
      go_wp2_with fail
      refine (unhide C1).mono ?_
      rintro e w1 ⟨rfl, rfl⟩
      clear C1
      go_wp2_with fail
      go_ret
      exact ⟨by rw [unhide HE]; rfl, by rw [unhide HX]; exact MT.quiet (unhide H0) (unhide HO)⟩
    | true =>
      have C1 := CG W
      rw [hg] at C1
      have C1 := hide C1
      have hK2 := (unhide HK).setCell 1 (.int .i64 0)
      have oK : Only (fun y => y = b) W (W.setCell ⟨b, 1, none⟩ (.int .i64 0)) := onlyS (Only.refl _ _) _ _
      have HO2 := hide ((unhide HO).trans oK (fun y hy e => by omega))
      have HK2 : Hid (Has (W.setCell ⟨b, 1, none⟩ (.int .i64 0)) b #[.string nm, .int .i64 0, .int .i64 mq] 58) := hide hK2
      have hsz := oK.size
      clear hK2 oK CG
      go_wp2_with fail
      refine (unhide C1).mono ?_
      rintro e w1 ⟨rfl, rfl⟩
      clear C1
      go_upto_region 7 with fail
      generalize W.setCell ⟨b, 1, none⟩ (.int .i64 0) = W2 at *
      clear HO HK k0 k1 k2 f1 e3 e4 e5 z3 z4 z5
      have Hnz := hide hnz
      have Hhg := hide hg
      clear hnz hg
      have HO := HO2
      have k0 := (unhide HK2).cell 0
      have k1 := (unhide HK2).cell 1
      have k2 := (unhide HK2).cell 2
      simp only [List.getElem?_toArray, List.getElem?_cons_zero, List.getElem?_cons_succ] at k0 k1 k2
      have h1 := (unhide H0).quiet (unhide HO)
      obtain ⟨_, _, _, _, _, _, _, _, _, e3, e4, e5, _, _, _, _⟩ := h1.cur
      have z3 := h1.free 3
      have z4 := h1.free 4
      have z5 := h1.free 5
      have hmW2 := h1.lt
      clear h1
      by_cases hmz : mq = 0
      · have hE : shE A nm sq mq = 0 := by have hnz := unhide Hnz; unfold shE; rw [if_neg (by rw [if_pos hnz, unhide Hhg]; simp), if_neg (fun z => hnz z.1)]; simp [hmz]
        have hX := shA_ok hE
        have hP := MT.head (unhide H0) (unhide HO) nm 0 0
        have e0 : ((0 : Nat) : Int) = 0 := rfl
        have hS : setHdA A nm sq mq = { A with hn := nm, hs := 0, hm := 0 } := by have hnz := unhide Hnz; unfold setHdA; rw [if_pos hnz, hmz]; rfl
        rw [hS] at hX
        rw [← hX] at hP
        simp only [e0] at hP
        have HE := hide hE
        have HP := hide hP
        clear hE hX hP hS
        subst hmz
        go_wp2_with fail
        go_ret
        exact ⟨by rw [unhide HE]; rfl, unhide HP⟩
      · have hmb : (mq == 0) = false := ne_intO hmz
        cases hmh : hasN A mq with
        | false =>
          have hE : shE A nm sq mq = 17 := by have hnz := unhide Hnz; unfold shE; rw [if_neg (by rw [if_pos hnz, unhide Hhg]; simp), if_neg (fun z => hnz z.1)]; rw [if_pos ⟨hmz, hmh⟩]
          have hX := shA_err hE (by omega)
          have C4 := hhas_any ((unhide H0).quiet (unhide HO)) hA mq
          rw [hmh] at C4
          have C4 := hide C4
          have HE := hide hE
          have HX := hide hX
          clear hE hX
          go_wp2_with fail
          refine (unhide C4).mono ?_
          rintro e w4 ⟨rfl, rfl⟩
          clear C4
          go_wp2_with fail
          go_ret
          exact ⟨by rw [unhide HE]; rfl, by rw [unhide HX]; exact MT.quiet (unhide H0) (unhide HO)⟩
        | true =>
          obtain ⟨mn, rfl⟩ := hasN_nat hmh
          have hE : shE A nm sq (mn : Int) = 0 := by have hnz := unhide Hnz; unfold shE; rw [if_neg (by rw [if_pos hnz, unhide Hhg]; simp), if_neg (fun z => hnz z.1)]; rw [if_neg (fun z => by rw [hmh] at z; cases z.2)]
          have hX := shA_ok hE
          have hP := MT.head (unhide H0) (unhide HO) nm 0 mn
          have hS : setHdA A nm sq (mn : Int) = { A with hn := nm, hs := 0, hm := mn } := by have hnz := unhide Hnz; unfold setHdA; rw [if_pos hnz, Int.toNat_natCast]
          rw [hS] at hX
          rw [← hX] at hP
          have e0 : ((0 : Nat) : Int) = 0 := rfl
          rw [e0] at hP
          have C4 := hhas_any ((unhide H0).quiet (unhide HO)) hA (mn : Int)
          rw [hmh] at C4
          have C4 := hide C4
          have HE := hide hE
          have HP := hide hP
          clear hE hX hP hS hmh
          go_wp2_with fail
          refine (unhide C4).mono ?_
          rintro e w4 ⟨rfl, rfl⟩
          clear C4
          go_wp2_with fail
          go_ret
          exact ⟨by rw [unhide HE]; rfl, unhide HP⟩
  · have hn0 : nm.size = 0 := by omega
    have b1 := empty_size hn0
    cases hg : hasN A sq with
    | false =>
      have hE : shE A nm sq mq = 17 := by unfold shE; rw [if_neg (by rw [if_neg hnz]; exact id), if_pos ⟨hn0, hg⟩]
      have hX := shA_err hE (by omega)
      have C1 := hhas_any ((unhide H0).quiet (unhide HO)) hA sq
      rw [hg] at C1
      have C1 := hide C1
      have HE := hide hE
      have HX := hide hX
      clear hE hX CG hg
      go_wp2_with fail
      refine (unhide C1).mono ?_
      rintro e w1 ⟨rfl, rfl⟩
      clear C1
      go_wp2_with fail
      go_ret
      exact ⟨by rw [unhide HE]; rfl, by rw [unhide HX]; exact MT.quiet (unhide H0) (unhide HO)⟩
    | true =>
      have C1 := hhas_any ((unhide H0).quiet (unhide HO)) hA sq
      rw [hg] at C1
      have C1 := hide C1
      obtain ⟨sn, rfl⟩ := hasN_nat hg
      have Hhg := hide hg
      clear hg
      have Hnz := hide hnz
      clear CG hnz hn0
      go_wp2_with fail
      refine (unhide C1).mono ?_
      rintro e w1 ⟨rfl, rfl⟩
      clear C1
      go_upto_region 7 with fail
      by_cases hmz : mq = 0
      · have hE : shE A nm (sn : Int) mq = 0 := by have hnz := unhide Hnz; unfold shE; rw [if_neg (by rw [if_neg hnz]; exact id), if_neg (fun z => by rw [unhide Hhg] at z; cases z.2)]; simp [hmz]
        have hX := shA_ok hE
        have hP := MT.head (unhide H0) (unhide HO) nm sn 0
        have e0 : ((0 : Nat) : Int) = 0 := rfl
        have hS : setHdA A nm (sn : Int) mq = { A with hn := nm, hs := sn, hm := 0 } := by have hnz := unhide Hnz; unfold setHdA; rw [if_neg hnz, hmz, Int.toNat_natCast]; rfl
        rw [hS] at hX
        rw [← hX] at hP
        rw [e0] at hP
        have HE := hide hE
        have HP := hide hP
        clear hE hX hP hS
        subst hmz
        go_wp2_with fail
        go_ret
        exact ⟨by rw [unhide HE]; rfl, unhide HP⟩
      · have hmb : (mq == 0) = false := ne_intO hmz
        cases hmh : hasN A mq with
        | false =>
          have hE : shE A nm (sn : Int) mq = 17 := by have hnz := unhide Hnz; unfold shE; rw [if_neg (by rw [if_neg hnz]; exact id), if_neg (fun z => by rw [unhide Hhg] at z; cases z.2)]; rw [if_pos ⟨hmz, hmh⟩]
          have hX := shA_err hE (by omega)
          have C4 := hhas_any ((unhide H0).quiet (unhide HO)) hA mq
          rw [hmh] at C4
          have C4 := hide C4
          have HE := hide hE
          have HX := hide hX
          clear hE hX
          go_wp2_with fail
          refine (unhide C4).mono ?_
          rintro e w4 ⟨rfl, rfl⟩
          clear C4
          go_wp2_with fail
          go_ret
          exact ⟨by rw [unhide HE]; rfl, by rw [unhide HX]; exact MT.quiet (unhide H0) (unhide HO)⟩
        | true =>
          obtain ⟨mn, rfl⟩ := hasN_nat hmh
          have hE : shE A nm (sn : Int) (mn : Int) = 0 := by have hnz := unhide Hnz; unfold shE; rw [if_neg (by rw [if_neg hnz]; exact id), if_neg (fun z => by rw [unhide Hhg] at z; cases z.2)]; rw [if_neg (fun z => by rw [hmh] at z; cases z.2)]
          have hX := shA_ok hE
          have hP := MT.head (unhide H0) (unhide HO) nm sn mn
          have hS : setHdA A nm (sn : Int) (mn : Int) = { A with hn := nm, hs := sn, hm := mn } := by have hnz := unhide Hnz; unfold setHdA; rw [if_neg hnz, Int.toNat_natCast, Int.toNat_natCast]
          rw [hS] at hX
          rw [← hX] at hP
          have e0 : ((0 : Nat) : Int) = 0 := rfl
          
          have C4 := hhas_any ((unhide H0).quiet (unhide HO)) hA (mn : Int)
          rw [hmh] at C4
          have C4 := hide C4
          have HE := hide hE
          have HP := hide hP
          clear hE hX hP hS hmh
          go_wp2_with fail
          refine (unhide C4).mono ?_
          rintro e w4 ⟨rfl, rfl⟩
          clear C4
          go_wp2_with fail
          go_ret
          exact ⟨by rw [unhide HE]; rfl, unhide HP⟩
set_option maxRecDepth 100000 in
set_option maxHeartbeats 4000000 in
theorem hsetAux_any (h : MG w m true A r S sr hz H) {vf : Value} {l : List Fl} (hf : FilesIn w vf l) (hfH : ∀ y, vf.ownBlock = some y → ¬ H y) (hr1 : -4000000000000000000 < r) (hr2 : r < 1000) :
    Calls Tryz.prog 105 #[.pointer (some ⟨m, 0, none⟩), vf] w fun e w' => ∃ en : Nat, e = .returned (.int .i64 en) ∧ ((checkF l ≠ 0 ∧ en = checkF l ∧ MT w w' m true A r S sr hz H) ∨ (checkF l = 0 ∧ en = 0 ∧ MT w w' m true { A with aux := l } (r - (costA l : Nat)) S sr hz H)) := by
  have C1 := checkFiles_any vf l hf
  have H0 := hide h
  have HF := hide hf
  have Hfm := hide (fun y hy => fun (e : y = m) => hfH y hy (by rw [e]; exact h.hm))
  obtain ⟨va, vc, rfl⟩ := hf.shape
  by_cases hc : checkF l = 0
  · have hpar := checkF_parts hc
    have hcost : costA l ≤ 10000 := by
      have h1 := dirsF_len l (fun f hff => by have := checkF_path hc f hff; omega)
      have : costA l = l.length + (dirsF l).length := rfl
      have := hpar.1
      omega
    rw [hc] at C1
    have C1 := hide C1
    have Hc := hide hc
    have Hpath : Hid (∀ f ∈ l, f.path.size ≤ 1000) := hide (fun f hff => by have := checkF_path hc f hff; omega)
    have hl8 := hpar.1
    clear h hf hfH hc hpar
    go_enter Tryz.func105, Tryz.ntmps105
    go_wp2_with fail
    refine (unhide C1).mono ?_
    rintro e w1 ⟨rfl, o1⟩
    have C2 := hide (acost_any ((unhide HF).keep o1 (fun _ _ h => h)) (by omega) (unhide Hpath))
    have T1 := hide (MT.quiet (unhide H0) o1)
    have O1 := hide o1
    clear C1 o1
    go_wp2_with fail
    refine (unhide C2).mono ?_
    rintro e w2 ⟨rfl, o2⟩
    have t2 := (unhide T1).then o2
    have O2 := hide ((unhide O1).trans o2 (fun _ _ h => h))
    have C3 := hide (hpay_any t2.mg (costA l : Nat) (by omega) (by omega))
    have T2 := hide t2
    clear C2 o2 t2 T1 O1
    go_wp2_with fail
    refine (unhide C3).mono ?_
    rintro e w3 ⟨rfl, h3, o3⟩
    have t3 := (unhide T2).trans (MT.of0 (unhide T2).mg ⟨h3, o3⟩)
    have F3 := ((unhide HF).keep (unhide O2) (fun _ _ h => h)).keep o3 (fun y hy e => unhide Hfm y hy e)
    have C4 := hide (copyFiles_any _ l F3 (by omega))
    have T3 := hide t3
    clear C3 h3 o3 t3 F3 T2
    go_wp2_with fail
    refine (unhide C4).mono ?_
    rintro e w4 ⟨v4, rfl, a1, a2, a3⟩
    have hM : FM w3 v4 l w4 := ⟨a1, a2, a3⟩
    have h4 := (unhide T3).mg.quiet a3
    obtain ⟨_, _, _, _, _, _, _, _, _, _, _, _, e6, _, _, _⟩ := h4.cur
    have z6 := h4.free 6
    have hm4 := h4.lt
    have HP := hide ((unhide T3).trans (MT.of (unhide T3).mg.hm ((unhide T3).mg.putAux hM)))
    obtain ⟨oa, oc, rfl⟩ := ownsRow_shape a1
    clear C4 a1 a2 a3 hM h4
    go_wp2_with fail
    go_ret
    exact ⟨0, rfl, .inr ⟨unhide Hc, rfl, unhide HP⟩⟩
  · have C1 := hide C1
    have Hc := hide hc
    have b1 : ((checkF l : Int) == 0) = false := ne_intO (by omega)
    clear h hf hfH hc
    obtain ⟨X, hX⟩ : ∃ X, checkF l = X := ⟨_, rfl⟩
    rw [hX] at C1 Hc b1 ⊢
    clear hX
    go_enter Tryz.func105, Tryz.ntmps105
    go_wp2_with fail
    refine (unhide C1).mono ?_
    rintro e w1 ⟨rfl, o1⟩
    clear C1
    go_wp2_with fail
    go_ret
    exact ⟨X, rfl, .inl ⟨unhide Hc, rfl, MT.quiet (unhide H0) o1⟩⟩
end
end Go.Proofs.Qxb6500417aGreat
