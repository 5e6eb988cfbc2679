/-
  OWN WORK. THE MODEL's STATUS: StatusOf.
-/
import Derived.Test.Qxb6500418aICode
namespace Go.Proofs.Qxb6500418a
open Go.RowKit Go.PlainAid
set_option linter.unusedSimpArgs false
set_option linter.unusedVariables false

theorem withL_len : ∀ (l : List Fl) (f : Fl), (withL l f).length ≤ l.length + 1
  | [], f => by simp [withL]
  | g :: r, f => by
    simp only [withL]
    have := withL_len r f
    split
    · simp
    · split <;> simp <;> omega
theorem addP_len : ∀ (L A : List Fl), (addP A L).length ≤ A.length + L.length
  | [], A => by simp [addP]
  | f :: L, A => by
    have h1 := addP_len L (withL A (po f))
    have h2 := withL_len A (po f)
    show (addP (withL A (po f)) L).length ≤ _
    simp only [List.length_cons]
    omega
theorem addP_snoc (A L : List Fl) (f : Fl) : addP A (L ++ [f]) = withL (addP A L) (po f) := by simp [addP, List.foldl_append]
theorem chg_take {l : List Fl} {F : Fl → Option Chg} {k : Nat} (h : k < l.length) : (l.take (k + 1)).filterMap F = (l.take k).filterMap F ++ (F l[k]).toList := by
  rw [List.take_succ_eq_append_getElem h, List.filterMap_append]
  congr 1
theorem chg_len {l : List Fl} {F : Fl → Option Chg} {k : Nat} : ((l.take k).filterMap F).length ≤ k := by
  have h1 := List.length_filterMap_le F (l.take k)
  rw [List.length_take] at h1
  omega
set_option maxRecDepth 100000 in
set_option maxHeartbeats 4000000 in
theorem statusOf_any {w : World} (hv xv wv : Value) (H X W : List Fl) (hH : FilesIn w hv H) (hX : FilesIn w xv X) (hW : FilesIn w wv W) (lH : H.length ≤ 8) (lX : X.length ≤ 8) (lW : W.length ≤ 8) :
    Calls Try.prog 51 #[hv, xv, wv] w fun e w' => ∃ v', e = .returned v' ∧ OwnC w' v' (statusL H X W) ∧ (∀ y, v'.ownBlock = some y → w.heap.size ≤ y) ∧ Only (fun _ => False) w w' := by
  obtain ⟨i0, hi0, hz0, hz1, hz2⟩ := info_parts Try.infoChg
  have HF := hide (And.intro hH (And.intro hX hW))
  obtain ⟨ah, caph, rfl, hcH⟩ := hH
  obtain ⟨ax, capx, rfl, hcX⟩ := hX
  obtain ⟨aw, capw, rfl, hcW⟩ := hW
  have HcH := hide hcH
  have HcX := hide hcX
  have HcW := hide hcW
  have HLEN : Hid ((addP [] H).length ≤ 8 ∧ (addP (addP [] H) X).length ≤ 16 ∧ (pathsL H X W).length ≤ 24 ∧ ([] : List Fl).length = 0) := hide (by
    have h1 := addP_len H []
    have h2 := addP_len X (addP [] H)
    have h3 := addP_len W (addP (addP [] H) X)
    simp at h1
    refine ⟨by omega, by omega, ?_, rfl⟩
    show (addP (addP (addP [] H) X) W).length ≤ 24
    omega)
  have H0 := hide (GI.nil w)
  clear hcH hcX hcW
  go_enter Try.func51, Try.ntmps51
  go_wp2_with fail
  go_loopw [7, 8] (fun pv iv wr => ∃ i : Nat, i ≤ H.length ∧ iv = .int .i64 i ∧ GI w pv (addP [] (H.take i)) wr) (fun _ iv _ => H.length - (intOf iv).toNat)
  case atStart => exact ⟨0, by omega, rfl, unhide H0⟩
  case round =>
    clear H0
    obtain ⟨i, hi, rfl, hG⟩ := hrel
    by_cases hil : i < H.length
    · obtain ⟨g, rfl, hcell⟩ := unhide HcH (by omega)
      obtain ⟨c0, _, _⟩ := hcell i hil
      have hgl : g < w.heap.size := World.block_lt_of_cell? w _ c0
      have hbk := hG.ho.block g hgl (fun h => h)
      rw [← World.cell?_of_block hbk] at c0
      have a1 : decide ((i : Int) < (H.length : Int)) = true := by simp; omega
      have a2 : (i : Int) < (H.length : Int) := by omega
      have hws := hG.ho.size
      have hgw : g < wr.heap.size := by omega
      have hlen : (addP [] (H.take i)).length ≤ 1000 := by
        have h1 := addP_len (H.take i) ([])
        have h2 := unhide HLEN
        rw [List.length_take] at h1
        omega
      have C := with_any _ (addP [] (H.take i)) ⟨H[i].path, ⟨#[]⟩, 0⟩ hG.own.in_ hlen
      dsimp only at C
      have hstep : addP [] (H.take (i + 1)) = withL (addP [] (H.take i)) ⟨H[i].path, ⟨#[]⟩, 0⟩ := by
        rw [List.take_succ_eq_append_getElem hil, addP_snoc]; rfl
      have C := hide C
      have HG := hide hG
      have Hstep := hide hstep
      clear hG hcell hbk hstep hlen
      generalize H[i].path = ph at *
      go_wp2_with fail
      refine (unhide C).mono ?_
      rintro e w1 ⟨v', rfl, hv, hvb, ho1⟩
      have HG1 : Hid (GI w v' (addP [] (H.take (i + 1))) w1) := hide (by
        rw [unhide Hstep]
        refine ⟨hv, fun y hy => ?_, (unhide HG).ho.trans ho1 (fun _ _ h => h)⟩
        have := hvb y hy
        omega)
      clear hv hvb ho1 C HG Hstep
      go_wp2_with fail
      go_roundw
      case rel => exact ⟨i + 1, by omega, by go_num, unhide HG1⟩
      case measure => simp [intOf]; omega
    · have a1 : decide ((i : Int) < (H.length : Int)) = false := by simp; omega
      have a1' : ¬ (i : Int) < (H.length : Int) := by omega
      have e1 : i = H.length := by omega
      rw [e1, List.take_length] at hG
      have H1 := hide hG
      clear hG e1
      go_wp2_with fail
      go_loopw [7, 9] (fun pv iv wr => ∃ i : Nat, i ≤ X.length ∧ iv = .int .i64 i ∧ GI w pv (addP (addP [] H) (X.take i)) wr) (fun _ iv _ => X.length - (intOf iv).toNat)
      case atStart => exact ⟨0, by omega, rfl, unhide H1⟩
      case round =>
        clear H1
        obtain ⟨i, hi, rfl, hG⟩ := hrel
        by_cases hil : i < X.length
        · obtain ⟨g, rfl, hcell⟩ := unhide HcX (by omega)
          obtain ⟨c0, _, _⟩ := hcell i hil
          have hgl : g < w.heap.size := World.block_lt_of_cell? w _ c0
          have hbk := hG.ho.block g hgl (fun h => h)
          rw [← World.cell?_of_block hbk] at c0
          have a1 : decide ((i : Int) < (X.length : Int)) = true := by simp; omega
          have a2 : (i : Int) < (X.length : Int) := by omega
          have hws := hG.ho.size
          have hgw : g < wr.heap.size := by omega
          have hlen : (addP (addP [] H) (X.take i)).length ≤ 1000 := by
            have h1 := addP_len (X.take i) ((addP [] H))
            have h2 := unhide HLEN
            rw [List.length_take] at h1
            omega
          have C := with_any _ (addP (addP [] H) (X.take i)) ⟨X[i].path, ⟨#[]⟩, 0⟩ hG.own.in_ hlen
          dsimp only at C
          have hstep : addP (addP [] H) (X.take (i + 1)) = withL (addP (addP [] H) (X.take i)) ⟨X[i].path, ⟨#[]⟩, 0⟩ := by
            rw [List.take_succ_eq_append_getElem hil, addP_snoc]; rfl
          have C := hide C
          have HG := hide hG
          have Hstep := hide hstep
          clear hG hcell hbk hstep hlen
          generalize X[i].path = ph at *
          go_wp2_with fail
          refine (unhide C).mono ?_
          rintro e w1 ⟨v', rfl, hv, hvb, ho1⟩
          have HG1 : Hid (GI w v' (addP (addP [] H) (X.take (i + 1))) w1) := hide (by
            rw [unhide Hstep]
            refine ⟨hv, fun y hy => ?_, (unhide HG).ho.trans ho1 (fun _ _ h => h)⟩
            have := hvb y hy
            omega)
          clear hv hvb ho1 C HG Hstep
          go_wp2_with fail
          go_roundw
          case rel => exact ⟨i + 1, by omega, by go_num, unhide HG1⟩
          case measure => simp [intOf]; omega
        · have a1 : decide ((i : Int) < (X.length : Int)) = false := by simp; omega
          have a1' : ¬ (i : Int) < (X.length : Int) := by omega
          have e1 : i = X.length := by omega
          rw [e1, List.take_length] at hG
          have H2 := hide hG
          clear hG e1
          go_wp2_with fail
          go_loopw [7, 10] (fun pv iv wr => ∃ i : Nat, i ≤ W.length ∧ iv = .int .i64 i ∧ GI w pv (addP (addP (addP [] H) X) (W.take i)) wr) (fun _ iv _ => W.length - (intOf iv).toNat)
          case atStart => exact ⟨0, by omega, rfl, unhide H2⟩
          case round =>
            clear H2
            obtain ⟨i, hi, rfl, hG⟩ := hrel
            by_cases hil : i < W.length
            · obtain ⟨g, rfl, hcell⟩ := unhide HcW (by omega)
              obtain ⟨c0, _, _⟩ := hcell i hil
              have hgl : g < w.heap.size := World.block_lt_of_cell? w _ c0
              have hbk := hG.ho.block g hgl (fun h => h)
              rw [← World.cell?_of_block hbk] at c0
              have a1 : decide ((i : Int) < (W.length : Int)) = true := by simp; omega
              have a2 : (i : Int) < (W.length : Int) := by omega
              have hws := hG.ho.size
              have hgw : g < wr.heap.size := by omega
              have hlen : (addP (addP (addP [] H) X) (W.take i)).length ≤ 1000 := by
                have h1 := addP_len (W.take i) ((addP (addP [] H) X))
                have h2 := unhide HLEN
                rw [List.length_take] at h1
                omega
              have C := with_any _ (addP (addP (addP [] H) X) (W.take i)) ⟨W[i].path, ⟨#[]⟩, 0⟩ hG.own.in_ hlen
              dsimp only at C
              have hstep : addP (addP (addP [] H) X) (W.take (i + 1)) = withL (addP (addP (addP [] H) X) (W.take i)) ⟨W[i].path, ⟨#[]⟩, 0⟩ := by
                rw [List.take_succ_eq_append_getElem hil, addP_snoc]; rfl
              have C := hide C
              have HG := hide hG
              have Hstep := hide hstep
              clear hG hcell hbk hstep hlen
              generalize W[i].path = ph at *
              go_wp2_with fail
              refine (unhide C).mono ?_
              rintro e w1 ⟨v', rfl, hv, hvb, ho1⟩
              have HG1 : Hid (GI w v' (addP (addP (addP [] H) X) (W.take (i + 1))) w1) := hide (by
                rw [unhide Hstep]
                refine ⟨hv, fun y hy => ?_, (unhide HG).ho.trans ho1 (fun _ _ h => h)⟩
                have := hvb y hy
                omega)
              clear hv hvb ho1 C HG Hstep
              go_wp2_with fail
              go_roundw
              case rel => exact ⟨i + 1, by omega, by go_num, unhide HG1⟩
              case measure => simp [intOf]; omega
            · have a1 : decide ((i : Int) < (W.length : Int)) = false := by simp; omega
              have a1' : ¬ (i : Int) < (W.length : Int) := by omega
              have e1 : i = W.length := by omega
              rw [e1, List.take_length] at hG
              have H3 := hide hG
              clear hG e1
              go_wp2_with fail
              obtain ⟨PL, hPL⟩ : ∃ l, l = pathsL H X W := ⟨_, rfl⟩
              have hPl : PL.length ≤ 24 := by rw [hPL]; exact (unhide HLEN).2.2.1
              have h3 := unhide H3
              have e3 : addP (addP (addP [] H) X) W = PL := hPL.symm
              rw [e3] at h3
              have hres : statusL H X W = PL.filterMap (fun f => chgO H X W f.path) := by rw [hPL]; rfl
              have Hres := hide hres
              have ho3 := h3.ho
              have hs3 := ho3.size
              obtain ⟨ap, capp, rfl, hcP⟩ := h3.own.in_
              have HcP := hide hcP
              have HF3 := hide (And.intro ((unhide HF).1.keep ho3 (fun _ _ h => h)) (And.intro ((unhide HF).2.1.keep ho3 (fun _ _ h => h)) ((unhide HF).2.2.keep ho3 (fun _ _ h => h))))
              have HO3 := hide ho3
              have H00 := hide (CI.nil wr)
              clear h3 e3 hres hPL ho3 hcP H3 HF HcH HcX HcW
              generalize wr = w3 at *
              go_loopw [11, 12] (fun ov kv wr => ∃ k : Nat, k ≤ PL.length ∧ kv = .int .i64 k ∧ CI w3 ov ((PL.take k).filterMap (fun f => chgO H X W f.path)) wr) (fun _ kv _ => PL.length - (intOf kv).toNat)
              case atStart => exact ⟨0, by omega, rfl, unhide H00⟩
              case round =>
                clear H00
                obtain ⟨k, hk, rfl, hC⟩ := hrel
                by_cases hkl : k < PL.length
                · obtain ⟨g, rfl, hcell⟩ := unhide HcP (by omega)
                  obtain ⟨c0, _, _⟩ := hcell k hkl
                  have hgl : g < w3.heap.size := World.block_lt_of_cell? w3 _ c0
                  have hbk := hC.ho.block g hgl (fun h => h)
                  rw [← World.cell?_of_block hbk] at c0
                  have a1 : decide ((k : Int) < (PL.length : Int)) = true := by simp; omega
                  have a2 : (k : Int) < (PL.length : Int) := by omega
                  have hws := hC.ho.size
                  have hgw : g < wr.heap.size := by omega
                  obtain ⟨f1, f2, f3⟩ := unhide HF3
                  have C1 := hide (find_any _ H PL[k].path (f1.keep hC.ho (fun _ _ h => h)) (by omega))
                  have C2 := hide (find_any _ X PL[k].path (f2.keep hC.ho (fun _ _ h => h)) (by omega))
                  have C3 := hide (find_any _ W PL[k].path (f3.keep hC.ho (fun _ _ h => h)) (by omega))
                  have C4 := code_any _ _ H X PL[k].path true (f1.keep hC.ho (fun _ _ h => h)) (f2.keep hC.ho (fun _ _ h => h))
                  have C5 := fun W1 (ho : Only (fun _ => False) wr W1) => code_any _ _ X W PL[k].path false (f2.keep (hC.ho.trans ho (fun _ _ h => h)) (fun _ _ h => h)) (f3.keep (hC.ho.trans ho (fun _ _ h => h)) (fun _ _ h => h))
                  have hnew := chg_take hkl (F := fun f => chgO H X W f.path)
                  have hlen := chg_len (l := PL) (F := fun f => chgO H X W f.path) (k := k)
                  have hch : chgO H X W PL[k].path = if codeM (rowO H PL[k].path) (rowO X PL[k].path) true = 0 ∧ codeM (rowO X PL[k].path) (rowO W PL[k].path) false = 0 then none else some ⟨PL[k].path, codeM (rowO H PL[k].path) (rowO X PL[k].path) true, codeM (rowO X PL[k].path) (rowO W PL[k].path) false⟩ := rfl
                  rw [hch] at hnew
                  have hnew := hide hnew
                  have C4 := hide C4
                  have C5 := hide C5
                  have HC := hide hC
                  clear hch f1 f2 f3 hcell hbk hC
                  generalize codeM (rowO H PL[k].path) (rowO X PL[k].path) true = s1 at *
                  generalize codeM (rowO X PL[k].path) (rowO W PL[k].path) false = s2 at *
                  generalize PL[k].path = ph at *
                  generalize (PL.take k).filterMap (fun f => chgO H X W f.path) = out0 at *
                  generalize hL1 : (PL.take (k + 1)).filterMap (fun f => chgO H X W f.path) = out1 at *
                  have HL1 := hide hL1
                  clear hL1
                  generalize findI H ph = jh at *
                  generalize findI X ph = jx at *
                  generalize findI W ph = jw at *
                  go_wp2_with fail
                  refine (unhide C1).mono ?_
                  rintro e w' ⟨rfl, rfl⟩
                  go_wp2_with fail
                  refine (unhide C2).mono ?_
                  rintro e w' ⟨rfl, rfl⟩
                  go_wp2_with fail
                  refine (unhide C3).mono ?_
                  rintro e w' ⟨rfl, rfl⟩
                  go_wp2_with fail
                  refine (unhide C4).mono ?_
                  rintro e w4 ⟨rfl, ho4⟩
                  go_wp2_with fail
                  refine (unhide C5 _ ho4).mono ?_
                  rintro e w5 ⟨rfl, ho5⟩
                  have ho5 := ho4.trans ho5 (fun _ _ h => h)
                  have hs5 := ho5.size
                  obtain ⟨tb, htb⟩ : ∃ tb, tb = w5.heap.size := ⟨_, rfl⟩
                  have htb1 : w5.heap.size ≤ tb := by omega
                  have r8 := Has.new' w5 #[.string ph, .int .i64 (s1 : Int), .int .i64 (s2 : Int)] 89 tb htb
                  have o8 : Only (fun _ => False) wr (w5.alloc (.cells #[.string ph, .int .i64 (s1 : Int), .int .i64 (s2 : Int)] 89)) := ho5.alloc _
                  have HR8 := hide r8
                  have HC8 := hide ((unhide HC).quiet o8)
                  clear r8 o8 ho4 ho5 C1 C2 C3 C4 C5 HC c0
                  go_upto_region 25 with fail
                  rw [← htb]
                  clear htb
                  generalize (w5.alloc (.cells #[.string ph, .int .i64 (s1 : Int), .int .i64 (s2 : Int)] 89)) = W8 at *
                  have r8 := unhide HR8
                  have htl := r8.lt
                  have y0 := r8.cell 0
                  have y1 := r8.cell 1
                  have y2 := r8.cell 2
                  clear r8
                  by_cases hz : s1 = 0 ∧ s2 = 0
                  · have e1 : ((s1 : Int) != 0) = false := by rw [hz.1]; rfl
                    have e2 : ((s2 : Int) != 0) = false := by rw [hz.2]; rfl
                    have hn := unhide hnew
                    rw [if_pos hz] at hn
                    have hn : out1 = out0 := by rw [hn]; simp
                    have Hn := hide hn
                    clear hn hz
                    go_wp2_with fail
                    go_roundw
                    case rel => exact ⟨k + 1, by omega, by go_num, by rw [unhide HL1, unhide Hn]; exact unhide HC8⟩
                    case measure => simp [intOf]; omega
                  · have e12 : ((s1 : Int) != 0) = true ∨ (((s1 : Int) != 0) = false ∧ ((s2 : Int) != 0) = true) := by
                      by_cases e : s1 = 0
                      · right; exact ⟨by rw [e]; rfl, by simp; omega⟩
                      · left; simp; omega
                    have hn := unhide hnew
                    rw [if_neg hz] at hn
                    have Hn := hide hn
                    clear hn hz
                    have own8 : W8.ownsRow 0 89 3 _ _ _ := (unhide HC8).own
                    rcases e12 with e1 | ⟨e1, e2⟩ <;>
                    · go_wp2_with (at_builtin; refine wpList_append2 _ rfl _ _ 62 rfl 89 i0 _ 3 32 Try.underlying62 hi0 hz0 hz1 hz2 rfl (by decide) _ _ _ rfl (own8.alloc _) ⟨W8.heap.size, 0, none⟩ 1 1 [.string ph, .int .i64 (s1 : Int), .int .i64 (s2 : Int)] rfl rfl ?c1 ?c2 ?c3 ?c4 ?_)
                      try (case c1 => exact news_ok _ _ _ _ rfl)
                      case c2 => first | exact ⟨rfl, rfl, rfl⟩ | (intro u hu; simp at hu; rcases hu with rfl | rfl | rfl <;> rfl)
                      case c3 => unfold maxLen; omega
                      case c4 => omega
                      intro v4 w4 hown' hgrow hwhere
                      have h4 := (unhide HC8).push ⟨ph, s1, s2⟩ hown' (by first | rfl | omega) hgrow hwhere
                      have H4 := hide h4
                      clear hown' hgrow hwhere own8 HC8 h4
                      go_wp2_with fail
                      go_roundw
                      case rel => exact ⟨k + 1, by omega, by go_num, by rw [unhide HL1, unhide Hn]; exact unhide H4⟩
                      case measure => simp [intOf]; omega
                · have a1 : decide ((k : Int) < (PL.length : Int)) = false := by simp; omega
                  have a1' : ¬ (k : Int) < (PL.length : Int) := by omega
                  have e1 : k = PL.length := by omega
                  rw [e1, List.take_length] at hC
                  have HC := hide hC
                  clear hC e1
                  go_wp2_with fail
                  go_ret
                  exact ⟨_, rfl, by rw [unhide Hres]; exact (unhide HC).own, fun y hy => by have := (unhide HC).hb y hy; omega, (unhide HO3).trans (unhide HC).ho (fun _ _ h => h)⟩

theorem xstatus_any {w : World} {m : Nat} {L : List Fl} {Q : Nat → Prop} (h : XAt w m L Q) (hL : L.length ≤ 8) (hv wv : Value) (H W : List Fl) (hH : FilesIn w hv H) (hW : FilesIn w wv W) :
    Calls Try.prog 32 #[.pointer (some ⟨m, 0, none⟩), hv, wv] w fun e w' => ∃ v', e = .returned (.tuple #[v', .int .i64 (statErr H W : Nat)]) ∧ OwnC w' v' (if statErr H W = 0 then statusL H L W else []) ∧ (∀ y, v'.ownBlock = some y → w.heap.size ≤ y) ∧ Only (fun _ => False) w w' := by
  have hml := h.lt
  have C1 := checkFiles_any hv H hH
  have C2 := fun W1 (ho : Only (fun _ => False) w W1) => checkFiles_any wv W (hW.keep ho (fun _ _ h => h))
  unfold statErr
  by_cases hz : checkF H = 0
  · have cH := ((checkF_law H).1 hz).cnt
    rw [if_pos hz]
    rw [hz] at C1
    by_cases hz2 : checkF W = 0
    · have cW := ((checkF_law W).1 hz2).cnt
      rw [if_pos hz2]
      rw [hz2] at C2 ⊢
      obtain ⟨v0, hv0, hvL, _⟩ := h.ex
      have K0 := hide hv0
      have C3 := hide (fun W1 (ho : Only (fun _ => False) w W1) => statusOf_any hv v0 wv H L W (hH.keep ho (fun _ _ h => h)) (hvL.keep ho (fun _ _ h => h)) (hW.keep ho (fun _ _ h => h)) cH hL cW)
      have C1 := hide C1
      have C2 := hide C2
      clear hz hz2 hv0 hvL h hH hW
      go_enter Try.func32, Try.ntmps32
      go_wp2_with fail
      refine (unhide C1).mono ?_
      rintro e w1 ⟨rfl, ho1⟩
      go_wp2_with fail
      refine (unhide C2 _ ho1).mono ?_
      rintro e w2 ⟨rfl, ho2⟩
      have ho2 := ho1.trans ho2 (fun _ _ h => h)
      have k2 := (unhide K0).keep ho2 (fun h => h)
      have c0 := k2.cell 0
      have hml2 := k2.lt
      have hs2 := ho2.size
      go_wp2_with fail
      refine (unhide C3 _ ho2).mono ?_
      rintro e w3 ⟨v', rfl, hown, hb, ho3⟩
      go_wp2_with fail
      go_ret2
      exact ⟨_, rfl, hown, fun y hy => by have := hb y hy; omega, ho2.trans ho3 (fun _ _ h => h)⟩
    · rw [if_neg hz2]
      generalize checkF W = er at *
      have e1 : ((er : Int) != 0) = true := by simp; omega
      have C1 := hide C1
      have C2 := hide C2
      clear hz hz2 h hH hW
      go_enter Try.func32, Try.ntmps32
      go_wp2_with fail
      refine (unhide C1).mono ?_
      rintro e w1 ⟨rfl, ho1⟩
      go_wp2_with fail
      refine (unhide C2 _ ho1).mono ?_
      rintro e w2 ⟨rfl, ho2⟩
      go_wp2_with fail
      go_ret2
      exact ⟨_, rfl, OwnC.nil _, fun y hy => by simp [Value.ownBlock] at hy, ho1.trans ho2 (fun _ _ h => h)⟩
  · rw [if_neg hz, if_neg hz]
    generalize checkF H = er at *
    have e1 : ((er : Int) != 0) = true := by simp; omega
    have C1 := hide C1
    clear hz h hH hW C2
    go_enter Try.func32, Try.ntmps32
    go_wp2_with fail
    refine (unhide C1).mono ?_
    rintro e w1 ⟨rfl, ho1⟩
    go_wp2_with fail
    go_ret2
    exact ⟨_, rfl, OwnC.nil _, fun y hy => by simp [Value.ownBlock] at hy, ho1⟩
end Go.Proofs.Qxb6500418a
