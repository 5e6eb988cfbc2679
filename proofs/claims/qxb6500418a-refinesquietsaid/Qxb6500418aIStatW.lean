/-
  OWN WORK. THE INDEX: Status, the walk.
-/
import Derived.Test.Qxb6500418aIStatQ
import Derived.Deep.RegionHeld3
namespace Go.Proofs.Qxb6500418a
open Go.RowKit Go.PlainAid
set_option linter.unusedSimpArgs false
set_option linter.unusedVariables false

section
variable {w : World} {x : Nat} {L : List Fl}
def takeB (o : Option ByteArray) (p : ByteArray) : Bool := match o with
  | none => true
  | some q => ltS p q
theorem takes_cons (o : Option ByteArray) (f : Fl) (r : List Fl) : takes o (f :: r) = takeB o f.path := by cases o <;> rfl
theorem at_some {L : List Fl} {p : ByteArray} (hs : Srt L) (hl : Low p L) {f : Fl} (hf : f ∈ L) (e : f.path = p) : atP L p = true := by
  obtain ⟨_, _, _, _, h5, _⟩ := cut_facts hs hl
  cases ha : atP L p with
  | true => rfl
  | false =>
    rw [ha, if_neg (by simp)] at h5
    unfold rowO at h5
    rw [List.find?_eq_none] at h5
    exact absurd (decide_eq_true e) (h5 f hf)
theorem beqS (a b : ByteArray) : (a.toList == b.toList) = decide (a = b) := by
  rw [ls_eq_iff]
  by_cases e : a = b
  · rw [e]; simp
  · rw [decide_eq_false e, decide_eq_false (fun h => e (ls_inj h))]

set_option maxRecDepth 100000 in
set_option maxHeartbeats 40000000 in
theorem istatus_any (h : IX w x L) (hv wv : Value) (H W : List Fl) (hH : FilesIn w hv H) (hW : FilesIn w wv W) :
    Calls Try.prog 31 #[.pointer (some ⟨x, 0, none⟩), hv, wv] w fun e w' => ∃ v', e = .returned (.tuple #[v', .int .i64 (statErr H W : Nat)]) ∧ OwnC w' v' (if statErr H W = 0 then statusL H L W else []) ∧ (∀ y, v'.ownBlock = some y → w.heap.size ≤ y) ∧ Only (fun _ => False) w w' := by
  have hxl := h.lt
  have C1 := checkFiles_any hv H hH
  have lH := checkF_law H
  have lW := checkF_law W
  unfold statErr
  by_cases hz : checkF H = 0
  · have C2 := fun W1 (ho : Only (fun _ => False) w W1) => checkFiles_any wv W (hW.keep ho (fun _ _ h => h))
    rw [if_pos hz]
    by_cases hz2 : checkF W = 0
    · rw [if_pos hz2]
      have C3 := fun W1 (ho : Only (fun _ => False) w W1) => (h.keep ho (fun h => h)).gather
      have sH := (lH.1 hz).srt
      have sW := (lW.1 hz2).srt
      have sX := h.lawful.srt
      have HG : Hid ((∀ f ∈ H, f.data.size ≤ 180) ∧ (∀ f ∈ W, f.data.size ≤ 180)) := hide ⟨fun f hf => ((lH.1 hz).good f hf).2.2.2, fun f hf => ((lW.1 hz2).good f hf).2.2.2⟩
      have cH := (lH.1 hz).cnt
      have cW := (lW.1 hz2).cnt
      have cX := h.cnt
      rw [hz] at C1
      rw [hz2] at C2 ⊢
      obtain ⟨ah, caph, rfl, hcH⟩ := hH
      obtain ⟨aw, capw, rfl, hcW⟩ := hW
      obtain ⟨i0, hi0, hz0, hz1, hz2⟩ := info_parts Try.infoChg
      have C1 := hide C1
      have C2 := hide C2
      have C3 := hide C3
      have HcH := hide hcH
      have HcW := hide hcW
      have HS := hide (And.intro sH (And.intro sX sW))
      clear h lH lW hz hcH hcW sH sX sW
      go_enter Try.func31, Try.ntmps31
      go_wp2_with fail
      refine (unhide C1).mono ?_
      rintro e w1 ⟨rfl, ho1⟩
      go_wp2_with fail
      refine (unhide C2 _ ho1).mono ?_
      rintro e w2 ⟨rfl, ho2⟩
      have ho2 := ho1.trans ho2 (fun _ _ h => h)
      go_wp2_with fail
      refine (unhide C3 _ ho2).mono ?_
      rintro e w3 ⟨rv, rfl, hR⟩
      have ho3 := ho2.trans hR.ho (fun _ _ h => h)
      obtain ⟨ax, capx, rfl, hcX⟩ := hR.own.in_
      have HcX := hide hcX
      have H0 := hide (CI.nil w3)
      clear hcX hR C1 C2 C3 ho1 ho2
      go_wp2_with fail
      go_loopw [10, 11, 12, 13] (fun ov hv iv kv wr => ∃ (h i k : Nat) (outl : List Chg), hv = .int .i64 h ∧ iv = .int .i64 i ∧ kv = .int .i64 k ∧ h ≤ H.length ∧ i ≤ L.length ∧ k ≤ W.length ∧ statusL H L W = outl ++ statusL (H.drop h) (L.drop i) (W.drop k) ∧ outl.length ≤ h + i + k ∧ CI w3 ov outl wr) (fun _ hv iv kv _ => (H.length - (intOf hv).toNat) + (L.length - (intOf iv).toNat) + (W.length - (intOf kv).toNat))
      case atStart => exact ⟨0, 0, 0, [], rfl, rfl, rfl, by omega, by omega, by omega, by simp, by simp, unhide H0⟩
      case round =>
        clear H0
        obtain ⟨h, i, k, outl, rfl, rfl, rfl, hh, hi, hk, hst, hol, hC⟩ := hrel
        have ho := ho3.trans hC.ho (fun _ _ h => h)
        obtain ⟨H', eH⟩ : ∃ l, l = H.drop h := ⟨_, rfl⟩
        obtain ⟨X', eX⟩ : ∃ l, l = L.drop i := ⟨_, rfl⟩
        obtain ⟨W', eW⟩ : ∃ l, l = W.drop k := ⟨_, rfl⟩
        have lh : ∀ (hj : h < H.length), H' = H[h] :: H.drop (h + 1) := fun hj => by rw [eH]; exact drop_cons' hj
        have lh0 : ¬ h < H.length → H' = [] := fun hj => by rw [eH]; exact drop_none' hj
        have lx : ∀ (hj : i < L.length), X' = L[i] :: L.drop (i + 1) := fun hj => by rw [eX]; exact drop_cons' hj
        have lx0 : ¬ i < L.length → X' = [] := fun hj => by rw [eX]; exact drop_none' hj
        have lw : ∀ (hj : k < W.length), W' = W[k] :: W.drop (k + 1) := fun hj => by rw [eW]; exact drop_cons' hj
        have lw0 : ¬ k < W.length → W' = [] := fun hj => by rw [eW]; exact drop_none' hj
        rw [← eH, ← eX, ← eW] at hst
        have fH := fun (W1 : World) (ho' : Only (fun _ => False) wr W1) (hj : h < H.length) => files_at (unhide HcH) (ho.trans ho' (fun _ _ h => h)) h hj
        have fX := fun (W1 : World) (ho' : Only (fun _ => False) wr W1) (hj : i < L.length) => rows_at (unhide HcX) (hC.ho.trans ho' (fun _ _ h => h)) i hj
        have fW := fun (W1 : World) (ho' : Only (fun _ => False) wr W1) (hj : k < W.length) => files_at (unhide HcW) (ho.trans ho' (fun _ _ h => h)) k hj
        have tH := fun (hj : h < H.length) => (show decide ((h : Int) < (H.length : Int)) = true by simp; omega)
        have tH0 := fun (hj : ¬ h < H.length) => (show decide ((h : Int) < (H.length : Int)) = false by simp; omega)
        have tX := fun (hj : i < L.length) => (show decide ((i : Int) < (L.length : Int)) = true by simp; omega)
        have tX0 := fun (hj : ¬ i < L.length) => (show decide ((i : Int) < (L.length : Int)) = false by simp; omega)
        have tW := fun (hj : k < W.length) => (show decide ((k : Int) < (W.length : Int)) = true by simp; omega)
        have tW0 := fun (hj : ¬ k < W.length) => (show decide ((k : Int) < (W.length : Int)) = false by simp; omega)
        have HS' : Srt H' ∧ Srt X' ∧ Srt W' := by
          obtain ⟨s1, s2, s3⟩ := unhide HS
          rw [eH, eX, eW]
          exact ⟨s1.sublist (List.drop_sublist _ _), s2.sublist (List.drop_sublist _ _), s3.sublist (List.drop_sublist _ _)⟩
        have HS' := hide HS'
        have EH := hide eH
        have EX := hide eX
        have EW := hide eW
        have LH := hide (And.intro lh lh0)
        have LX := hide (And.intro lx lx0)
        have LW := hide (And.intro lw lw0)
        have FH := hide fH
        have FX := hide fX
        have FW := hide fW
        have TH := hide (And.intro tH tH0)
        have TX := hide (And.intro tX tX0)
        have TW := hide (And.intro tW tW0)
        have Hst := hide hst
        have HC := hide hC
        have HO := hide ho
        clear lh lh0 lx lx0 lw lw0 fH fX fW tH tH0 tX tX0 tW tW0 hst hC ho eH eX eW
        by_cases hany : h < H.length ∨ i < L.length ∨ k < W.length
        · have hq : ∃ q, turnP H' X' W' = some q := by
            cases e : turnP H' X' W' with
            | some q => exact ⟨q, rfl⟩
            | none =>
              obtain ⟨e1, e2, e3⟩ := turn_none.1 e
              rw [unhide EH] at e1
              rw [unhide EX] at e2
              rw [unhide EW] at e3
              have n1 := congrArg List.length e1
              have n2 := congrArg List.length e2
              have n3 := congrArg List.length e3
              simp at n1 n2 n3
              omega
          obtain ⟨q, hq⟩ := hq
          obtain ⟨o1, ho1⟩ : ∃ o, o = lesser none H' := ⟨_, rfl⟩
          obtain ⟨o2, ho2⟩ : ∃ o, o = lesser o1 X' := ⟨_, rfl⟩
          have ho3 : lesser o2 W' = some q := by rw [ho2, ho1]; exact hq
          have Hq := hide hq
          have Ho1 := hide ho1
          have Ho2 := hide ho2
          have Ho3 := hide ho3
          clear hq ho1 ho2 ho3
          go_upto_region 10 with fail
          go_cut [49] (fun v wx => v = .bool true ∧ wr = wx)
          case first =>
            as_aux_lemma =>
            by_cases e1 : h < H.length
            · have t1 := (unhide TH).1 e1
              go_wp2_with fail
              go_meet
              exact ⟨rfl, rfl⟩
            · have t1 := (unhide TH).2 e1
              by_cases e2 : i < L.length
              · have t2 := (unhide TX).1 e2
                go_wp2_with fail
                go_meet
                exact ⟨rfl, rfl⟩
              · have t2 := (unhide TX).2 e2
                have e3 : k < W.length := by omega
                go_wp2_with fail
                go_meet
                exact ⟨by first | rfl | rw [decide_eq_true e3], rfl⟩
          case rest =>
          obtain ⟨rfl, rfl⟩ := hcut
          go_upto_if 53 with fail
          go_cut [14, 15] (fun pv av wx => pv = .string (oS o1) ∧ av = .bool o1.isSome ∧ wr = wx)
          case first =>
            as_aux_lemma =>
            by_cases e1 : h < H.length
            · obtain ⟨g, rfl, hg, c0, _, _⟩ := unhide FH wr (Only.refl _ _) e1
              have b2 : (h : Int) < (H.length : Int) := by omega
              have hd := (unhide LH).1 e1
              have hp : o1 = some H[h].path := by rw [unhide Ho1, hd]; rfl
              have Hp := hide hp
              clear hd hp
              generalize H[h].path = ph at *
              go_wp2_with fail
              go_meet
              exact ⟨by rw [unhide Hp]; rfl, by rw [unhide Hp]; rfl, rfl⟩
            · have hd := (unhide LH).2 e1
              have hp : o1 = none := by rw [unhide Ho1, hd]; rfl
              have Hp := hide hp
              clear hd hp
              go_wp2_with fail
              go_meet
              exact ⟨by rw [unhide Hp]; rfl, by rw [unhide Hp]; rfl, rfl⟩
          case rest =>
          obtain ⟨rfl, rfl, rfl⟩ := hcut
          go_upto_region 14 with fail
          go_cut [76] (fun v wx => v = .bool (takes o1 X') ∧ wr = wx)
          case first =>
            as_aux_lemma =>
            by_cases e1 : i < L.length
            · obtain ⟨g, rfl, hg, c0, _, _, _, _⟩ := unhide FX wr (Only.refl _ _) e1
              have b1 := (unhide TX).1 e1
              have b2 : (i : Int) < (L.length : Int) := by omega
              have hd := (unhide LX).1 e1
              have hp : takes o1 X' = takeB o1 L[i].path := by rw [hd, takes_cons]
              have Hp := hide hp
              clear hd hp
              generalize L[i].path = ph at *
              cases o1 with
              | none =>
                go_wp2_with fail
                go_meet
                exact ⟨by rw [unhide Hp]; try rfl, rfl⟩
              | some q1 =>
                go_wp2_with fail
                go_meet
                exact ⟨by rw [unhide Hp]; try rfl, rfl⟩
            · have b1 := (unhide TX).2 e1
              have hd := (unhide LX).2 e1
              have hp : takes o1 X' = false := by rw [hd]; rfl
              have Hp := hide hp
              clear hd hp
              go_wp2_with fail
              go_meet
              exact ⟨by rw [unhide Hp]; try rfl, rfl⟩
          case rest =>
          obtain ⟨rfl, rfl⟩ := hcut
          go_upto_if 76 with fail
          go_cut [14, 15] (fun pv av wx => pv = .string (oS o2) ∧ av = .bool o2.isSome ∧ wr = wx)
          case first =>
            as_aux_lemma =>
            cases et : takes o1 X' with
            | true =>
              have e1 : i < L.length := by
                by_cases e1 : i < L.length
                · exact e1
                · rw [(unhide LX).2 e1] at et; cases et
              obtain ⟨g, rfl, hg, c0, _, _, _, _⟩ := unhide FX wr (Only.refl _ _) e1
              have b2 : (i : Int) < (L.length : Int) := by omega
              have hd := (unhide LX).1 e1
              have hp : lesser o1 X' = some L[i].path := by rw [lesser_takes, et, if_pos rfl, hd]; rfl
              have Hp := hide hp
              clear hd hp et
              generalize L[i].path = ph at *
              go_wp2_with fail
              go_meet
              exact ⟨by rw [unhide Ho2, unhide Hp]; rfl, by rw [unhide Ho2, unhide Hp]; rfl, rfl⟩
            | false =>
              have hp : lesser o1 X' = o1 := by rw [lesser_takes, et]; rfl
              have Hp := hide hp
              clear hp et
              go_wp2_with fail
              go_meet
              exact ⟨by rw [unhide Ho2, unhide Hp], by rw [unhide Ho2, unhide Hp], rfl⟩
          case rest =>
          obtain ⟨rfl, rfl, rfl⟩ := hcut
          go_upto_region 16 with fail
          go_cut [99] (fun v wx => v = .bool (takes o2 W') ∧ wr = wx)
          case first =>
            as_aux_lemma =>
            by_cases e1 : k < W.length
            · obtain ⟨g, rfl, hg, c0, _, _⟩ := unhide FW wr (Only.refl _ _) e1
              have b1 := (unhide TW).1 e1
              have b2 : (k : Int) < (W.length : Int) := by omega
              have hd := (unhide LW).1 e1
              have hp : takes o2 W' = takeB o2 W[k].path := by rw [hd, takes_cons]
              have Hp := hide hp
              clear hd hp
              generalize W[k].path = ph at *
              cases o2 with
              | none =>
                go_wp2_with fail
                go_meet
                exact ⟨by rw [unhide Hp]; try rfl, rfl⟩
              | some q1 =>
                go_wp2_with fail
                go_meet
                exact ⟨by rw [unhide Hp]; try rfl, rfl⟩
            · have b1 := (unhide TW).2 e1
              have hd := (unhide LW).2 e1
              have hp : takes o2 W' = false := by rw [hd]; rfl
              have Hp := hide hp
              clear hd hp
              go_wp2_with fail
              go_meet
              exact ⟨by rw [unhide Hp]; try rfl, rfl⟩
          case rest =>
          obtain ⟨rfl, rfl⟩ := hcut
          go_upto_if 99 with fail
          go_cut [14] (fun pv wx => pv = .string q ∧ wr = wx)
          case first =>
            as_aux_lemma =>
            cases et : takes o2 W' with
            | true =>
              have e1 : k < W.length := by
                by_cases e1 : k < W.length
                · exact e1
                · rw [(unhide LW).2 e1] at et; cases et
              obtain ⟨g, rfl, hg, c0, _, _⟩ := unhide FW wr (Only.refl _ _) e1
              have b2 : (k : Int) < (W.length : Int) := by omega
              have hd := (unhide LW).1 e1
              have hp : lesser o2 W' = some W[k].path := by rw [lesser_takes, et, if_pos rfl, hd]; rfl
              have Hp := hide hp
              clear hd hp et
              generalize W[k].path = ph at *
              go_wp2_with fail
              go_meet
              exact ⟨by have e3 := unhide Ho3; rw [unhide Hp] at e3; cases e3; rfl, rfl⟩
            | false =>
              have hp : lesser o2 W' = o2 := by rw [lesser_takes, et]; rfl
              have Hp := hide hp
              clear hp et
              go_wp2_with fail
              go_meet
              exact ⟨by have e3 := unhide Ho3; rw [unhide Hp] at e3; rw [e3]; try rfl, rfl⟩
          case rest =>
          obtain ⟨rfl, rfl⟩ := hcut
          obtain ⟨bH, ebH⟩ : ∃ b, b = atP H' q := ⟨_, rfl⟩
          obtain ⟨bX, ebX⟩ : ∃ b, b = atP X' q := ⟨_, rfl⟩
          obtain ⟨bW, ebW⟩ : ∃ b, b = atP W' q := ⟨_, rfl⟩
          have EbH := hide ebH
          have EbX := hide ebX
          have EbW := hide ebW
          clear ebH ebX ebW Ho1 Ho2 Ho3
          go_upto_region 18 with fail
          go_cut [16] (fun v wx => v = .bool bH ∧ wr = wx)
          case first =>
            as_aux_lemma =>
            by_cases e1 : h < H.length
            · obtain ⟨g, rfl, hg, c0, _, _⟩ := unhide FH wr (Only.refl _ _) e1
              have b1 := (unhide TH).1 e1
              have b2 : (h : Int) < (H.length : Int) := by omega
              have hd := (unhide LH).1 e1
              have hp : bH = (H[h].path.toList == q.toList) := by
                rw [beqS, unhide EbH, hd]; rfl
              have Hp := hide hp
              clear hd hp
              generalize H[h].path = ph at *
              go_wp2_with fail
              go_meet
              exact ⟨by rw [unhide Hp], rfl⟩
            · have b1 := (unhide TH).2 e1
              have hd := (unhide LH).2 e1
              have hp : bH = false := by rw [unhide EbH, hd]; rfl
              have Hp := hide hp
              clear hd hp
              go_wp2_with fail
              go_meet
              exact ⟨by rw [unhide Hp], rfl⟩
          case rest =>
          obtain ⟨rfl, rfl⟩ := hcut
          go_upto_region 19 with fail
          go_cut [17] (fun v wx => v = .bool bX ∧ wr = wx)
          case first =>
            as_aux_lemma =>
            by_cases e1 : i < L.length
            · obtain ⟨g, rfl, hg, c0, _, _, _, _⟩ := unhide FX wr (Only.refl _ _) e1
              have b1 := (unhide TX).1 e1
              have b2 : (i : Int) < (L.length : Int) := by omega
              have hd := (unhide LX).1 e1
              have hp : bX = (L[i].path.toList == q.toList) := by
                rw [beqS, unhide EbX, hd]; rfl
              have Hp := hide hp
              clear hd hp
              generalize L[i].path = ph at *
              go_wp2_with fail
              go_meet
              exact ⟨by rw [unhide Hp], rfl⟩
            · have b1 := (unhide TX).2 e1
              have hd := (unhide LX).2 e1
              have hp : bX = false := by rw [unhide EbX, hd]; rfl
              have Hp := hide hp
              clear hd hp
              go_wp2_with fail
              go_meet
              exact ⟨by rw [unhide Hp], rfl⟩
          case rest =>
          obtain ⟨rfl, rfl⟩ := hcut
          go_upto_region 20 with fail
          go_cut [18] (fun v wx => v = .bool bW ∧ wr = wx)
          case first =>
            as_aux_lemma =>
            by_cases e1 : k < W.length
            · obtain ⟨g, rfl, hg, c0, _, _⟩ := unhide FW wr (Only.refl _ _) e1
              have b1 := (unhide TW).1 e1
              have b2 : (k : Int) < (W.length : Int) := by omega
              have hd := (unhide LW).1 e1
              have hp : bW = (W[k].path.toList == q.toList) := by
                rw [beqS, unhide EbW, hd]; rfl
              have Hp := hide hp
              clear hd hp
              generalize W[k].path = ph at *
              go_wp2_with fail
              go_meet
              exact ⟨by rw [unhide Hp], rfl⟩
            · have b1 := (unhide TW).2 e1
              have hd := (unhide LW).2 e1
              have hp : bW = false := by rw [unhide EbW, hd]; rfl
              have Hp := hide hp
              clear hd hp
              go_wp2_with fail
              go_meet
              exact ⟨by rw [unhide Hp], rfl⟩
          case rest =>
          obtain ⟨rfl, rfl⟩ := hcut
          have XH : bH = true → h < H.length := by
            intro e
            by_cases e1 : h < H.length
            · exact e1
            · have := unhide EbH; rw [(unhide LH).2 e1, e] at this; cases this
          have XX : bX = true → i < L.length := by
            intro e
            by_cases e1 : i < L.length
            · exact e1
            · have := unhide EbX; rw [(unhide LX).2 e1, e] at this; cases this
          have XW : bW = true → k < W.length := by
            intro e
            by_cases e1 : k < W.length
            · exact e1
            · have := unhide EbW; rw [(unhide LW).2 e1, e] at this; cases this
          have XH := hide XH
          have XX := hide XX
          have XW := hide XW
          obtain ⟨s1, es1⟩ : ∃ b, b = (bH && bX && likeB H' X' true) := ⟨_, rfl⟩
          obtain ⟨s2, es2⟩ : ∃ b, b = (bX && bW && likeB X' W' false) := ⟨_, rfl⟩
          have Es1 := hide es1
          have Es2 := hide es2
          clear es1 es2
          obtain ⟨bHX, ebHX⟩ : ∃ b, b = (bH && bX) := ⟨_, rfl⟩
          have EbHX := hide ebHX
          clear ebHX
          go_upto_region 22 with fail
          go_cut [148] (fun v wx => v = .bool bHX ∧ wr = wx)
          case first =>
            as_aux_lemma =>
            cases bH <;>
            · go_wp2_with fail
              go_meet
              exact ⟨by rw [unhide EbHX]; rfl, rfl⟩
          case rest =>
          obtain ⟨rfl, rfl⟩ := hcut
          go_upto_if 148 with fail
          go_cut [19] (fun v wx => v = .bool s1 ∧ Only (fun _ => False) wr wx)
          case first =>
            as_aux_lemma =>
            have eb := unhide EbHX
            clear EbHX
            cases bHX with
            | false =>
              have hp : s1 = false := by rw [unhide Es1, ← eb]; rfl
              have Hp := hide hp
              clear hp eb
              go_wp2_with fail
              go_meet
              exact ⟨by rw [unhide Hp], Only.refl _ _⟩
            | true =>
              obtain ⟨eb1, eb2⟩ := Bool.and_eq_true_iff.1 eb.symm
              have e1 := unhide XH eb1
              have e2 := unhide XX eb2
              obtain ⟨g, rfl, hg, c0, c1, c2⟩ := unhide FH wr (Only.refl _ _) e1
              obtain ⟨g', rfl, hg', d0, d1, d2, d3, d4⟩ := unhide FX wr (Only.refl _ _) e2
              have hp : s1 = (decide (L[i].data = H[h].data) && decide (H[h].mode = L[i].mode)) := by
                rw [unhide Es1, ← eb, (unhide LH).1 e1, (unhide LX).1 e2]
                simp [likeB, eq_comm]
              clear eb eb1 eb2
              have C := holds_any L[i] H[h].data (by have := ((unhide HG).1 _ (List.getElem_mem e1)); omega)
              have b1 : (h : Int) < (H.length : Int) := by omega
              have b2 : (i : Int) < (L.length : Int) := by omega
              have CW := hide (fun W1 (ho' : Only (fun _ => False) wr W1) => And.intro (unhide FH W1 ho' e1) (unhide FX W1 ho' e2))
              have C := hide C
              have hoq : Only (fun _ => False) wr wr := Only.refl _ _
              clear HcH HcX HcW HS HG HO HC Hst EH EX EW LH LX LW FH FX FW TH TX TW HS' Hq EbH EbX EbW XH XX XW Es1 Es2 C1 C2 C3
              have Hp := hide hp
              clear hp
              generalize H[h] = fh at c0 c1 c2 C CW Hp
              generalize L[i] = fx at d0 d1 d2 d3 d4 C CW Hp
              go_upto_region 23 with fail
              go_cut [19] (fun v wx => v = .bool (decide (fx.data = fh.data)) ∧ Only (fun _ => False) wr wx)
              case first =>
                as_aux_lemma =>
                go_region_held3 (fun w' => w'.cell? ⟨g', i * 5, none⟩ = some (.string fx.path) ∧ w'.cell? ⟨g', i * 5 + 1, none⟩ = some (.string fx.data) ∧ w'.cell? ⟨g', i * 5 + 2, none⟩ = some (.int .i64 fx.mode) ∧ w'.cell? ⟨g', i * 5 + 3, none⟩ = some (.int .i64 (fx.data.size : Int)) ∧ w'.cell? ⟨g', i * 5 + 4, none⟩ = some (.int .i64 (hashL (ls fx.data) : Int)) ∧ w'.cell? ⟨g, h * 3 + 1, none⟩ = some (.string fh.data)) (first | exact ⟨d0, d1, d2, d3, d4, c1⟩ | exact ⟨x0, x1, x2, x3, x4, x5⟩) (first | (go_at_call 49; refine ((unhide C) _).mono ?_; rintro e w2 ⟨rfl, ho2⟩; have ho3 := (hoq.drew).trans ho2 (fun _ _ h => h); obtain ⟨⟨_, q1, hg2, _, x5, m2⟩, ⟨_, q2, hg2', x0, x1, x2, x3, x4⟩⟩ := unhide CW _ ho3; cases q1; cases q2))
                all_goals
                  go_wp2_with fail
                  go_meet
                  exact ⟨rfl, ho3⟩
              case rest =>
              obtain ⟨rfl, ho3⟩ := hcut
              obtain ⟨⟨_, q1, hg2, _, _, m2⟩, ⟨_, q2, hg2', _, _, n2, _, _⟩⟩ := unhide CW _ ho3
              cases q1
              cases q2
              clear C CW c0 c1 c2 d0 d1 d2 d3 d4
              by_cases hm : fh.mode = fx.mode
              · have hm1 : (fh.mode != fx.mode) = false := by rw [hm]; simp
                have hp2 : s1 = decide (fx.data = fh.data) := by rw [unhide Hp, decide_eq_true hm, Bool.and_true]
                have Hp2 := hide hp2
                clear hm hp2
                go_wp2_with fail
                go_quiet (fail)
                have ho4 := ho3.drewO nq
                go_wp2_with fail
                go_meet
                exact ⟨by rw [unhide Hp2], ho4⟩
              · have hm1 : (fh.mode != fx.mode) = true := by simpa using hm
                have hp2 : s1 = false := by rw [unhide Hp, decide_eq_false hm, Bool.and_false]
                have Hp2 := hide hp2
                clear hm hp2
                go_wp2_with fail
                go_quiet (fail)
                have ho4 := ho3.drewO nq
                go_wp2_with fail
                go_meet
                exact ⟨by rw [unhide Hp2], ho4⟩
          case rest =>
          obtain ⟨rfl, hoA⟩ := hcut
          generalize hwc : wc = wA at *
          clear hwc
          have HOA := hide hoA
          clear hoA
          go_upto_region 26 with fail
          obtain ⟨bXW, ebXW⟩ : ∃ b, b = (bX && bW) := ⟨_, rfl⟩
          have EbXW := hide ebXW
          clear ebXW
          go_cut [174] (fun v wx => v = .bool bXW ∧ wA = wx)
          case first =>
            as_aux_lemma =>
            cases bX <;>
            · go_wp2_with fail
              go_meet
              exact ⟨by rw [unhide EbXW]; rfl, rfl⟩
          case rest =>
          obtain ⟨rfl, rfl⟩ := hcut
          go_upto_if 174 with fail
          go_cut [20] (fun v wx => v = .bool s2 ∧ Only (fun _ => False) wA wx)
          case first =>
            as_aux_lemma =>
            have eb := unhide EbXW
            clear EbXW
            cases bXW with
            | false =>
              have hp : s2 = false := by rw [unhide Es2, ← eb]; rfl
              clear eb
              have Hp := hide hp
              clear hp
              go_wp2_with fail
              go_meet
              exact ⟨by rw [unhide Hp], Only.refl _ _⟩
            | true =>
              obtain ⟨eb1, eb2⟩ := Bool.and_eq_true_iff.1 eb.symm
              have e1 := unhide XX eb1
              have e2 := unhide XW eb2
              obtain ⟨g, rfl, hg, d0, d1, d2, d3, d4⟩ := unhide FX wA (unhide HOA) e1
              obtain ⟨g', rfl, hg', c0, c1, c2⟩ := unhide FW wA (unhide HOA) e2
              have hp : s2 = decide (L[i].data = W[k].data) := by
                rw [unhide Es2, ← eb, (unhide LX).1 e1, (unhide LW).1 e2]
                simp [likeB]
              clear eb eb1 eb2
              have C := hide (holds_any L[i] W[k].data (by have := ((unhide HG).2 _ (List.getElem_mem e2)); omega))
              have b1 : (k : Int) < (W.length : Int) := by omega
              have b2 : (i : Int) < (L.length : Int) := by omega
              have hoq : Only (fun _ => False) wA wA := Only.refl _ _
              have CW := hide (fun W1 (ho' : Only (fun _ => False) wA W1) => And.intro (unhide FX W1 ((unhide HOA).trans ho' (fun _ _ h => h)) e1) (unhide FW W1 ((unhide HOA).trans ho' (fun _ _ h => h)) e2))
              have Hp := hide hp
              clear hp
              clear HcH HcX HcW HS HG HO HC Hst EH EX EW LH LX LW FH FX FW TH TX TW HS' Hq EbH EbX EbW XH XX XW Es1 Es2 C1 C2 C3 HOA
              generalize W[k] = fh at c0 c1 c2 C CW Hp
              generalize L[i] = fx at d0 d1 d2 d3 d4 C CW Hp
              go_upto_region 27 with fail
              go_region_held3 (fun w' => w'.cell? ⟨g, i * 5, none⟩ = some (.string fx.path) ∧ w'.cell? ⟨g, i * 5 + 1, none⟩ = some (.string fx.data) ∧ w'.cell? ⟨g, i * 5 + 2, none⟩ = some (.int .i64 fx.mode) ∧ w'.cell? ⟨g, i * 5 + 3, none⟩ = some (.int .i64 (fx.data.size : Int)) ∧ w'.cell? ⟨g, i * 5 + 4, none⟩ = some (.int .i64 (hashL (ls fx.data) : Int)) ∧ w'.cell? ⟨g', k * 3 + 1, none⟩ = some (.string fh.data)) (first | exact ⟨d0, d1, d2, d3, d4, c1⟩ | exact ⟨x0, x1, x2, x3, x4, x5⟩) (first | (go_at_call 49; refine ((unhide C) _).mono ?_; rintro e w2 ⟨rfl, ho2⟩; have ho3 := (hoq.drew).trans ho2 (fun _ _ h => h); obtain ⟨⟨_, q2, hg2', x0, x1, x2, x3, x4⟩, ⟨_, q1, hg2, _, x5, m2⟩⟩ := unhide CW _ ho3; cases q1; cases q2))
              all_goals
                go_wp2_with fail
                go_meet
                exact ⟨by rw [unhide Hp], ho3⟩
          case rest =>
          obtain ⟨rfl, hoB⟩ := hcut
          generalize hwc : wc = wB at *
          clear hwc
          have HOB := hide ((unhide HOA).trans hoB (fun _ _ h => h))
          clear hoB HOA
          obtain ⟨k1, ek1⟩ : ∃ n, n = codeB bH bX s1 := ⟨_, rfl⟩
          obtain ⟨k2, ek2⟩ : ∃ n, n = codeB bX bW s2 := ⟨_, rfl⟩
          have K1 := fun W => codeOf_any bH bX s1 W
          have K2 := fun W => codeOf_any bX bW s2 W
          rw [← ek1] at K1
          rw [← ek2] at K2
          obtain ⟨sH, sX, sW⟩ := unhide HS'
          obtain ⟨lH, lX, lW, hex⟩ := turn_facts sH sX sW (unhide Hq)
          have hch : chgO H' X' W' q = if k1 = 0 ∧ k2 = 0 then none else some ⟨q, k1, k2⟩ := by
            unfold chgO
            rw [code_turn sH sX lH lX true s1 (fun u1 u2 => by rw [unhide Es1, unhide EbH, unhide EbX, u1, u2]; rfl), code_turn sX sW lX lW false s2 (fun u1 u2 => by rw [unhide Es2, unhide EbX, unhide EbW, u1, u2]; rfl), ← unhide EbH, ← unhide EbX, ← unhide EbW, ← ek1, ← ek2]
          have hstep := status_step sH sX sW lH lX lW hex
          have hone : bH = true ∨ bX = true ∨ bW = true := by
            obtain ⟨f, hf, e⟩ := hex
            rcases hf with hf | hf | hf
            · left; rw [unhide EbH]; exact at_some sH lH hf e
            · right; left; rw [unhide EbX]; exact at_some sX lX hf e
            · right; right; rw [unhide EbW]; exact at_some sW lW hf e
          have cdH := cut_drop H h q hh
          have cdX := cut_drop L i q hi
          have cdW := cut_drop W k q hk
          rw [← unhide EH, ← unhide EbH] at cdH
          rw [← unhide EX, ← unhide EbX] at cdX
          rw [← unhide EW, ← unhide EbW] at cdW
          obtain ⟨h2, eh2⟩ : ∃ n, n = h + (if bH = true then 1 else 0) := ⟨_, rfl⟩
          obtain ⟨i2, ei2⟩ : ∃ n, n = i + (if bX = true then 1 else 0) := ⟨_, rfl⟩
          obtain ⟨w2, ew2⟩ : ∃ n, n = k + (if bW = true then 1 else 0) := ⟨_, rfl⟩
          rw [← eh2] at cdH
          rw [← ei2] at cdX
          rw [← ew2] at cdW
          obtain ⟨ou2, eo2⟩ : ∃ l, l = outl ++ (chgO H' X' W' q).toList := ⟨_, rfl⟩
          have hnew : statusL H L W = ou2 ++ statusL (H.drop h2) (L.drop i2) (W.drop w2) := by
            rw [unhide Hst, hstep, cdH.1, cdX.1, cdW.1, eo2, List.append_assoc]
          have hol2 : ou2.length ≤ h2 + i2 + w2 := by
            rw [eo2, List.length_append]
            have : (chgO H' X' W' q).toList.length ≤ 1 := by cases chgO H' X' W' q <;> simp
            rcases hone with e | e | e
            · rw [if_pos e] at eh2; split at ei2 <;> split at ew2 <;> omega
            · rw [if_pos e] at ei2; split at eh2 <;> split at ew2 <;> omega
            · rw [if_pos e] at ew2; split at eh2 <;> split at ei2 <;> omega
          have HN := hide (And.intro cdH.2 (And.intro cdX.2 (And.intro cdW.2 (And.intro hnew hol2))))
          rw [hch] at eo2
          have Eo2 := hide eo2
          have Hone := hide hone
          have E2 := hide (And.intro eh2 (And.intro ei2 ew2))
          have K1 := hide K1
          have K2 := hide K2
          obtain ⟨tb, htb⟩ : ∃ tb, tb = wB.heap.size := ⟨_, rfl⟩
          have htb1 : wB.heap.size ≤ tb := by omega
          have r8 := Has.new' wB #[.string q, .int .i64 (k1 : Int), .int .i64 (k2 : Int)] 89 tb htb
          have o8 : Only (fun _ => False) wr (wB.alloc (.cells #[.string q, .int .i64 (k1 : Int), .int .i64 (k2 : Int)] 89)) := (unhide HOB).alloc _
          have HR8 := hide r8
          have HC8 := hide ((unhide HC).quiet o8)
          clear r8 o8 ek1 ek2 sH sX sW lH lX lW hch hstep hone hex cdH cdX cdW eh2 ei2 ew2 eo2 hnew hol2 HC HOB Hst HS' EH EX EW LH LX LW FH FX FW TH TX TW Hq EbH EbX EbW XH XX XW Es1 Es2 HO HcH HcX HcW HG HS
          go_wp2_with fail
          refine (unhide K1 _).mono ?_
          rintro e w' ⟨rfl, rfl⟩
          go_wp2_with fail
          refine (unhide K2 _).mono ?_
          rintro e w' ⟨rfl, rfl⟩
          go_upto_region 31 with fail
          rw [← htb]
          clear htb K1 K2
          generalize (wB.alloc (.cells #[.string q, .int .i64 (k1 : Int), .int .i64 (k2 : Int)] 89)) = W8 at *
          have r8 := unhide HR8
          have htl := r8.lt
          have y0 := r8.cell 0
          have y1 := r8.cell 1
          have y2 := r8.cell 2
          clear r8
          obtain ⟨b12, eb12⟩ : ∃ b, b = (((k1 : Int) != 0) || ((k2 : Int) != 0)) := ⟨_, rfl⟩
          have Eb12 := hide eb12
          clear eb12
          go_cut [204] (fun v wx => v = .bool b12 ∧ W8 = wx)
          case first =>
            as_aux_lemma =>
            cases e1 : ((k1 : Int) != 0) with
            | true =>
              go_wp2_with fail
              go_meet
              exact ⟨by rw [unhide Eb12, e1]; rfl, rfl⟩
            | false =>
              go_wp2_with fail
              go_meet
              exact ⟨by rw [unhide Eb12, e1]; rfl, rfl⟩
          case rest =>
          obtain ⟨rfl, rfl⟩ := hcut
          go_upto_if 204 with fail
          go_cut [10] (fun ov' wx => CI w3 ov' ou2 wx)
          case first =>
            as_aux_lemma =>
            have hn := unhide Eo2
            have hb := unhide Eb12
            clear Eb12
            cases b12 with
            | false =>
              have hz : k1 = 0 ∧ k2 = 0 := by simp at hb; omega
              rw [if_pos hz] at hn
              have hn : ou2 = outl := by rw [hn]; simp
              have Hn := hide hn
              clear hn hz hb
              go_wp2_with fail
              go_meet
              rw [unhide Hn]
              exact unhide HC8
            | true =>
              have hz : ¬ (k1 = 0 ∧ k2 = 0) := by
                rintro ⟨u1, u2⟩
                rw [u1, u2] at hb
                cases hb
              rw [if_neg hz] at hn
              have Hn := hide hn
              clear hn hz hb
              have own8 : W8.ownsRow 0 89 3 _ _ _ := (unhide HC8).own
              go_wp2_with (at_builtin; refine wpList_append2 _ rfl _ _ 62 rfl 89 i0 _ 3 32 Try.underlying62 hi0 hz0 hz1 hz2 rfl (by decide) _ _ _ rfl (own8.alloc _) ⟨W8.heap.size, 0, none⟩ 1 1 [.string q, .int .i64 (k1 : Int), .int .i64 (k2 : Int)] rfl rfl ?c1 ?c2 ?c3 ?c4 ?_)
              try (case c1 => exact news_ok _ _ _ _ rfl)
              case c2 => first | exact ⟨rfl, rfl, rfl⟩ | (intro u hu; simp at hu; rcases hu with rfl | rfl | rfl <;> rfl)
              case c3 => unfold maxLen; omega
              case c4 => omega
              intro v4 w4 hown' hgrow hwhere
              have h4 := (unhide HC8).push ⟨q, k1, k2⟩ hown' (by first | rfl | omega) hgrow hwhere
              have H4 := hide h4
              clear hown' hgrow hwhere own8 HC8 h4
              go_wp2_with fail
              go_meet
              rw [unhide Hn]
              exact unhide H4
          case rest =>
          generalize hwc : wc = wD at *
          clear hwc HC8 HR8 y0 y1 y2 htl
          have HCD := hide hcut
          clear hcut
          as_aux_lemma =>
          obtain ⟨n1, n2, n3, n4, n5⟩ := unhide HN
          have N4 := hide n4
          have h8 : h ≤ 8 := by omega
          have i8 : i ≤ 8 := by omega
          have k8 : k ≤ 8 := by omega
          clear n4 HN Eo2
          obtain ⟨f1, f2, f3⟩ := unhide E2
          have hone := unhide Hone
          clear E2 Hone
          cases bH <;> cases bX <;> cases bW <;> simp only [Bool.false_eq_true, if_false, if_true, Nat.add_zero] at f1 f2 f3
          · simp at hone
          all_goals
            subst f1 f2 f3
            clear hone
            go_wp2_with fail
            go_roundw
            case rel => exact ⟨_, _, _, ou2, by first | rfl | go_num, by first | rfl | go_num, by first | rfl | go_num, n1, n2, n3, unhide N4, n5, unhide HCD⟩
            case measure => simp [intOf]; omega
        · have hh' : ¬ h < H.length := by omega
          have hi' : ¬ i < L.length := by omega
          have hk' : ¬ k < W.length := by omega
          have t1 := (unhide TH).2 hh'
          have t2 := (unhide TX).2 hi'
          have t3 := (unhide TW).2 hk'
          have t1' : ¬ (h : Int) < (H.length : Int) := by omega
          have t2' : ¬ (i : Int) < (L.length : Int) := by omega
          have t3' : ¬ (k : Int) < (W.length : Int) := by omega
          have hs := unhide Hst
          rw [(unhide LH).2 hh', (unhide LX).2 hi', (unhide LW).2 hk', status_nil, List.append_nil] at hs
          have Hs := hide hs
          have s3 := ho3.size
          clear hs LH LX LW FH FX FW TH TX TW Hst
          go_wp2_with fail
          go_ret2
          exact ⟨_, rfl, by rw [unhide Hs]; exact (unhide HC).own, fun y hy => by have := (unhide HC).hb y hy; omega, ho3.trans (unhide HC).ho (fun _ _ h => h)⟩
    · rw [if_neg hz2]
      generalize checkF W = er at *
      rw [hz] at C1
      have e1 : ((er : Int) != 0) = true := by simp; omega
      have C1 := hide C1
      have C2 := hide C2
      clear hz hz2 h hH hW lH lW
      go_enter Try.func31, Try.ntmps31
      go_wp2_with fail
      refine (unhide C1).mono ?_
      rintro e w1 ⟨rfl, ho1⟩
      go_wp2_with fail
      refine (unhide C2 _ ho1).mono ?_
      rintro e w2 ⟨rfl, ho2⟩
      go_wp2_with fail
      go_ret2
      exact ⟨_, rfl, OwnC.nil _, fun y hy => by simp [Value.ownBlock] at hy, ho1.trans ho2 (fun _ _ h => h)⟩
  · rw [if_neg hz, if_neg hz]
    generalize checkF H = er at *
    have e1 : ((er : Int) != 0) = true := by simp; omega
    have C1 := hide C1
    clear hz h hH hW lH lW
    go_enter Try.func31, Try.ntmps31
    go_wp2_with fail
    refine (unhide C1).mono ?_
    rintro e w1 ⟨rfl, ho1⟩
    go_wp2_with fail
    go_ret2
    exact ⟨_, rfl, OwnC.nil _, fun y hy => by simp [Value.ownBlock] at hy, ho1⟩
end
end Go.Proofs.Qxb6500418a
