/-
  OWN WORK. THE MERGE: piece.
-/
import Derived.Test.Qxb6500416aDPc
namespace Go.Proofs.Qxb6500416a
open Go.RowKit Go.PlainAid
set_option linter.unusedSimpArgs false
set_option linter.unusedVariables false

/-- The three texts in memory, as lines and as numbers. -/
structure TX (w : World) (x : Nat) (vb vo vt : Value) (gb go gt : Nat) (B O T P : List Str) : Prop where
  hd : Has w x #[vb, vo, vt, .slice (some ⟨gb, 0, none⟩) B.length B.length, .slice (some ⟨go, 0, none⟩) O.length O.length, .slice (some ⟨gt, 0, none⟩) T.length T.length] 100
  lb : OwnL w vb B
  lo : OwnL w vo O
  lt : OwnL w vt T
  nb : IntsR w gb (numsL P B)
  no : IntsR w go (numsL P O)
  nt : IntsR w gt (numsL P T)
  mb : ∀ t ∈ B, t ∈ P
  mo : ∀ t ∈ O, t ∈ P
  mt : ∀ t ∈ T, t ∈ P
section
variable {w : World} {x : Nat} {vb vo vt : Value} {gb go gt : Nat} {B O T P : List Str}
theorem TX.keep {S : Nat → Prop} {w' : World} (h : TX w x vb vo vt gb go gt B O T P) (ho : Only S w w') (hx : ¬ S x) (h1 : ∀ y, vb.ownBlock = some y → ¬ S y) (h2 : ∀ y, vo.ownBlock = some y → ¬ S y) (h3 : ∀ y, vt.ownBlock = some y → ¬ S y) (h4 : ¬ S gb) (h5 : ¬ S go) (h6 : ¬ S gt) : TX w' x vb vo vt gb go gt B O T P :=
  ⟨h.hd.keep ho hx, h.lb.keep ho h1, h.lo.keep ho h2, h.lt.keep ho h3, h.nb.keep ho h4, h.no.keep ho h5, h.nt.keep ho h6, h.mb, h.mo, h.mt⟩
theorem TX.quiet {w' : World} (h : TX w x vb vo vt gb go gt B O T P) (ho : Only (fun _ => False) w w') : TX w' x vb vo vt gb go gt B O T P :=
  h.keep ho (fun h => h) (fun _ _ h => h) (fun _ _ h => h) (fun _ _ h => h) (fun h => h) (fun h => h) (fun h => h)
theorem TX.byt {v0 ov : Value} {l l0 : Str} {wr : World} (h : TX w x vb vo vt gb go gt B O T P) (h0 : OwnB w v0 l0) (hb : BI w v0 ov l wr) : TX wr x vb vo vt gb go gt B O T P := by
  have h0' : w.ownsRow 0 5 1 v0 l0.length (u8V l0) := h0
  refine h.keep hb.ho (fun e => ownsRow_ne h0' h.hd (by decide) x e rfl) (fun y hy e => own_ne h.lb.row h0' (by decide) y hy e) (fun y hy e => own_ne h.lo.row h0' (by decide) y hy e) (fun y hy e => own_ne h.lt.row h0' (by decide) y hy e)
    (fun e => ownsRow_ne h0' h.nb (by decide) gb e rfl) (fun e => ownsRow_ne h0' h.no (by decide) go e rfl) (fun e => ownsRow_ne h0' h.nt (by decide) gt e rfl)
theorem TX.same1 (h : TX w x vb vo vt gb go gt B O T P) (b0 b1 o0 o1 : Nat) (hb0 : b0 ≤ b1) (hb1 : b1 ≤ B.length) (ho0 : o0 ≤ o1) (ho1 : o1 ≤ O.length) (hlb : B.length ≤ 2000) (hlo : O.length ≤ 2000) :
    Calls Try.prog 59 #[.slice (some ⟨go, 0, none⟩) O.length O.length, .int .i64 o0, .int .i64 o1, .slice (some ⟨gb, 0, none⟩) B.length B.length, .int .i64 b0, .int .i64 b1] w fun e w' => e = .returned (.bool (decide (cutL O o0 o1 = cutL B b0 b1))) ∧ Only (fun _ => False) w w' := by
  have := dsame_any h.no h.nb O.length B.length o0 o1 b0 b1 (by rw [numsL_len]; omega) (by rw [numsL_len]; omega) ho0 (by rw [numsL_len]; exact ho1) hb0 (by rw [numsL_len]; exact hb1)
  rw [numsL_len, numsL_len, ← numsL_cut, ← numsL_cut] at this
  have e : decide (numsL P (cutL O o0 o1) = numsL P (cutL B b0 b1)) = decide (cutL O o0 o1 = cutL B b0 b1) := by
    congr 1
    exact propext (numsL_eq P _ _ (fun t ht => h.mo t (List.mem_of_mem_drop (List.mem_of_mem_take ht))) (fun t ht => h.mb t (List.mem_of_mem_drop (List.mem_of_mem_take ht))))
  rw [e] at this
  exact this
theorem TX.same2 (h : TX w x vb vo vt gb go gt B O T P) (b0 b1 t0 t1 : Nat) (hb0 : b0 ≤ b1) (hb1 : b1 ≤ B.length) (ho0 : t0 ≤ t1) (ho1 : t1 ≤ T.length) (hlb : B.length ≤ 2000) (hlo : T.length ≤ 2000) :
    Calls Try.prog 59 #[.slice (some ⟨gt, 0, none⟩) T.length T.length, .int .i64 t0, .int .i64 t1, .slice (some ⟨gb, 0, none⟩) B.length B.length, .int .i64 b0, .int .i64 b1] w fun e w' => e = .returned (.bool (decide (cutL T t0 t1 = cutL B b0 b1))) ∧ Only (fun _ => False) w w' := by
  have := dsame_any h.nt h.nb T.length B.length t0 t1 b0 b1 (by rw [numsL_len]; omega) (by rw [numsL_len]; omega) ho0 (by rw [numsL_len]; exact ho1) hb0 (by rw [numsL_len]; exact hb1)
  rw [numsL_len, numsL_len, ← numsL_cut, ← numsL_cut] at this
  have e : decide (numsL P (cutL T t0 t1) = numsL P (cutL B b0 b1)) = decide (cutL T t0 t1 = cutL B b0 b1) := by
    congr 1
    exact propext (numsL_eq P _ _ (fun t ht => h.mt t (List.mem_of_mem_drop (List.mem_of_mem_take ht))) (fun t ht => h.mb t (List.mem_of_mem_drop (List.mem_of_mem_take ht))))
  rw [e] at this
  exact this
theorem TX.same3 (h : TX w x vb vo vt gb go gt B O T P) (o0 o1 t0 t1 : Nat) (hb0 : o0 ≤ o1) (hb1 : o1 ≤ O.length) (ho0 : t0 ≤ t1) (ho1 : t1 ≤ T.length) (hlb : O.length ≤ 2000) (hlo : T.length ≤ 2000) :
    Calls Try.prog 59 #[.slice (some ⟨go, 0, none⟩) O.length O.length, .int .i64 o0, .int .i64 o1, .slice (some ⟨gt, 0, none⟩) T.length T.length, .int .i64 t0, .int .i64 t1] w fun e w' => e = .returned (.bool (decide (cutL O o0 o1 = cutL T t0 t1))) ∧ Only (fun _ => False) w w' := by
  have := dsame_any h.no h.nt O.length T.length o0 o1 t0 t1 (by rw [numsL_len]; omega) (by rw [numsL_len]; omega) hb0 (by rw [numsL_len]; exact hb1) ho0 (by rw [numsL_len]; exact ho1)
  rw [numsL_len, numsL_len, ← numsL_cut, ← numsL_cut] at this
  have e : decide (numsL P (cutL O o0 o1) = numsL P (cutL T t0 t1)) = decide (cutL O o0 o1 = cutL T t0 t1) := by
    congr 1
    exact propext (numsL_eq P _ _ (fun t ht => h.mo t (List.mem_of_mem_drop (List.mem_of_mem_take ht))) (fun t ht => h.mt t (List.mem_of_mem_drop (List.mem_of_mem_take ht))))
  rw [e] at this
  exact this
set_option maxRecDepth 100000 in
set_option maxHeartbeats 8000000 in
theorem dpiece_any {v : Value} {l : Str} (h : TX w x vb vo vt gb go gt B O T P) (hB : OwnB w v l) (b0 b1 o0 o1 t0 t1 : Nat) (hb0 : b0 ≤ b1) (hb1 : b1 ≤ B.length) (ho0 : o0 ≤ o1) (ho1 : o1 ≤ O.length) (ht0 : t0 ≤ t1) (ht1 : t1 ≤ T.length)
    (lb : B.length ≤ 2000) (lo : O.length ≤ 2000) (lt : T.length ≤ 2000) (fo : O.flatten.length ≤ 100000) (ft : T.flatten.length ≤ 100000) (ll : l.length ≤ 100000) (neo : ∀ s ∈ O, s ≠ []) (net : ∀ s ∈ T, s ≠ []) :
    Calls Try.prog 49 #[.pointer (some ⟨x, 0, none⟩), v, .int .i64 b0, .int .i64 b1, .int .i64 o0, .int .i64 o1, .int .i64 t0, .int .i64 t1] w fun e w' => ∃ v', e = .returned (.tuple #[v', .int .i64 (pieceN (cutL B b0 b1) (cutL O o0 o1) (cutL T t0 t1) : Nat)]) ∧ BI w v v' (l ++ pieceT (cutL B b0 b1) (cutL O o0 o1) (cutL T t0 t1)) w' := by
  have HX := hide h
  have HB := hide hB
  have C1 := hide (fun W (hW : Only (fun _ => False) w W) => (h.quiet hW).same1 b0 b1 o0 o1 hb0 hb1 ho0 ho1 lb lo)
  have C2 := hide (fun W (hW : Only (fun _ => False) w W) => (h.quiet hW).same2 b0 b1 t0 t1 hb0 hb1 ht0 ht1 lb lt)
  have C3 := hide (fun W (hW : Only (fun _ => False) w W) => (h.quiet hW).same3 o0 o1 t0 t1 ho0 ho1 ht0 ht1 lo lt)
  have AT := hide (fun W (hW : Only (fun _ => False) w W) => daddAll_any (hB.keep hW (fun _ _ h => h)) (h.quiet hW).lt t0 t1 T.length rfl ht0 ht1 (by omega) (by omega) (by omega))
  have AO := hide (fun W (hW : Only (fun _ => False) w W) => daddAll_any (hB.keep hW (fun _ _ h => h)) (h.quiet hW).lo o0 o1 O.length rfl ho0 ho1 (by omega) (by omega) (by omega))
  have c1 := h.hd.cell 1
  have c2 := h.hd.cell 2
  have c3 := h.hd.cell 3
  have c4 := h.hd.cell 4
  have c5 := h.hd.cell 5
  have hxl := h.hd.lt
  have HC := hide (fun W (hW : Only (fun _ => False) w W) => And.intro (((h.quiet hW).hd.cell 1)) (And.intro ((h.quiet hW).hd.cell 2) (And.intro ((h.quiet hW).hd.cell 3) (And.intro ((h.quiet hW).hd.cell 4) (And.intro ((h.quiet hW).hd.cell 5) (h.quiet hW).hd.lt)))))
  have hco := cutL_len O o0 o1 ho0 ho1
  have hct := cutL_len T t0 t1 ht0 ht1
  clear h hB
  generalize hpn : pieceN (cutL B b0 b1) (cutL O o0 o1) (cutL T t0 t1) = pn
  generalize hR : l ++ pieceT (cutL B b0 b1) (cutL O o0 o1) (cutL T t0 t1) = R
  unfold pieceN at hpn
  unfold pieceT at hR
  have Hpn := hide hpn
  have HR := hide hR
  clear hpn hR
  obtain ⟨ba, bn, bc, rfl⟩ := own_slice (unhide HX).lb
  obtain ⟨oa, on, oc, rfl⟩ := own_slice (unhide HX).lo
  obtain ⟨ta, tn, tc, rfl⟩ := own_slice (unhide HX).lt
  clear c1 c2 c3 c4 c5
  have o0_ := Only.refl (fun _ => False) w
  go_enter Try.func49, Try.ntmps49
  have hcl := closeS_len (cutL O o0 o1).flatten
  have hclt := closeS_len (cutL T t0 t1).flatten
  have hfo : (cutL O o0 o1).flatten.length ≤ 100000 := by
    have := flat_take O o0 o1 ho0
    have := flat_take_le O o1
    omega
  have hft : (cutL T t0 t1).flatten.length ≤ 100000 := by
    have := flat_take T t0 t1 ht0
    have := flat_take_le T t1
    omega
  by_cases e1 : cutL O o0 o1 = cutL B b0 b1
  · rw [decide_eq_true e1] at C1
    have EE : Hid (pn = 0 ∧ R = l ++ (cutL T t0 t1).flatten) := hide ⟨by rw [← unhide Hpn, if_pos e1], by rw [← unhide HR, if_pos e1]⟩
    clear e1 hfo hft hcl hclt Hpn HR
    go_upto_region 1 with fail
    go_cut [30] (fun u W => u = .bool true ∧ Only (fun _ => False) w W)
    case first =>
      obtain ⟨_, _, _, _, _, _⟩ := unhide HC w o0_
      have hq : Only (fun _ => False) w w := Only.refl _ _
      go_region_with (go_at_call 59; have hC := unhide C1 w.drew o0_.drew; refine hC.mono ?_; rintro e w2 ⟨rfl, hS⟩)
      all_goals
        have hS' := hide (hq.drew.trans hS (fun _ _ h => h))
        clear hS
        go_wp2_with fail
        go_meet
        exact ⟨rfl, unhide hS'⟩
    case rest =>
    obtain ⟨rfl, hoc⟩ := hcut
    have oW1 := o0_.trans hoc (fun _ _ h => h)
    clear hoc
    generalize wc = W1 at *
    obtain ⟨d1, d2, d3, d4, d5, d6⟩ := unhide HC W1 oW1
    have A1 := hide (unhide AT W1 oW1)
    go_wp2_with fail
    refine (unhide A1).mono ?_
    rintro e w3 ⟨v3, rfl, hB3⟩
    have hN := hide ((BI.start (unhide HB)).quiet oW1 |>.trans hB3)
    clear hB3
    go_wp2_with fail
    go_ret2
    rw [(unhide EE).1, (unhide EE).2]
    exact ⟨_, rfl, unhide hN⟩
  · rw [decide_eq_false e1] at C1
    have HE1 := hide e1
    clear e1
    go_upto_region 1 with fail
    go_cut [30] (fun u W => u = .bool false ∧ Only (fun _ => False) w W)
    case first =>
      obtain ⟨_, _, _, _, _, _⟩ := unhide HC w o0_
      have hq : Only (fun _ => False) w w := Only.refl _ _
      go_region_with (go_at_call 59; have hC := unhide C1 w.drew o0_.drew; refine hC.mono ?_; rintro e w2 ⟨rfl, hS⟩)
      all_goals
        have hS' := hide (hq.drew.trans hS (fun _ _ h => h))
        clear hS
        go_wp2_with fail
        go_meet
        exact ⟨rfl, unhide hS'⟩
    case rest =>
    obtain ⟨rfl, hoc⟩ := hcut
    have oW1 := o0_.trans hoc (fun _ _ h => h)
    clear hoc
    generalize wc = W1 at *
    by_cases e2 : cutL T t0 t1 = cutL B b0 b1
    · rw [decide_eq_true e2] at C2
      have EE : Hid (pn = 0 ∧ R = l ++ (cutL O o0 o1).flatten) := hide ⟨by rw [← unhide Hpn, if_neg (unhide HE1), if_pos e2], by rw [← unhide HR, if_neg (unhide HE1), if_pos e2]⟩
      clear e2 hfo hft hcl hclt Hpn HR
      go_upto_region 3 with fail
      go_cut [51] (fun u W => u = .bool true ∧ Only (fun _ => False) W1 W)
      case first =>
        obtain ⟨_, _, _, _, _, _⟩ := unhide HC W1 oW1
        have hq : Only (fun _ => False) W1 W1 := Only.refl _ _
        go_region_with (go_at_call 59; have hC := unhide C2 W1.drew oW1.drew; refine hC.mono ?_; rintro e w2 ⟨rfl, hS⟩)
        all_goals
          have hS' := hide (hq.drew.trans hS (fun _ _ h => h))
          clear hS
          go_wp2_with fail
          go_meet
          exact ⟨rfl, unhide hS'⟩
      case rest =>
      obtain ⟨rfl, hoc⟩ := hcut
      have oW2 := oW1.trans hoc (fun _ _ h => h)
      clear hoc
      generalize wc = W2 at *
      obtain ⟨d1, d2, d3, d4, d5, d6⟩ := unhide HC W2 oW2
      have A1 := hide (unhide AO W2 oW2)
      go_wp2_with fail
      refine (unhide A1).mono ?_
      rintro e w3 ⟨v3, rfl, hB3⟩
      have hN := hide ((BI.start (unhide HB)).quiet oW2 |>.trans hB3)
      clear hB3
      go_wp2_with fail
      go_ret2
      rw [(unhide EE).1, (unhide EE).2]
      exact ⟨_, rfl, unhide hN⟩
    · rw [decide_eq_false e2] at C2
      have HE2 := hide e2
      clear e2
      go_upto_region 3 with fail
      go_cut [51] (fun u W => u = .bool false ∧ Only (fun _ => False) W1 W)
      case first =>
        obtain ⟨_, _, _, _, _, _⟩ := unhide HC W1 oW1
        have hq : Only (fun _ => False) W1 W1 := Only.refl _ _
        go_region_with (go_at_call 59; have hC := unhide C2 W1.drew oW1.drew; refine hC.mono ?_; rintro e w2 ⟨rfl, hS⟩)
        all_goals
          have hS' := hide (hq.drew.trans hS (fun _ _ h => h))
          clear hS
          go_wp2_with fail
          go_meet
          exact ⟨rfl, unhide hS'⟩
      case rest =>
      obtain ⟨rfl, hoc⟩ := hcut
      have oW2 := oW1.trans hoc (fun _ _ h => h)
      clear hoc
      generalize wc = W2 at *
      by_cases e3 : cutL O o0 o1 = cutL T t0 t1
      · rw [decide_eq_true e3] at C3
        have EE : Hid (pn = 0 ∧ R = l ++ (cutL O o0 o1).flatten) := hide ⟨by rw [← unhide Hpn, if_neg (unhide HE1), if_neg (unhide HE2), if_pos e3], by rw [← unhide HR, if_neg (unhide HE1), if_neg (unhide HE2), if_pos e3]⟩
        clear e3 hfo hft hcl hclt Hpn HR
        go_upto_region 5 with fail
        go_cut [72] (fun u W => u = .bool true ∧ Only (fun _ => False) W2 W)
        case first =>
          obtain ⟨_, _, _, _, _, _⟩ := unhide HC W2 oW2
          have hq : Only (fun _ => False) W2 W2 := Only.refl _ _
          go_region_with (go_at_call 59; have hC := unhide C3 W2.drew oW2.drew; refine hC.mono ?_; rintro e w2 ⟨rfl, hS⟩)
          all_goals
            have hS' := hide (hq.drew.trans hS (fun _ _ h => h))
            clear hS
            go_wp2_with fail
            go_meet
            exact ⟨rfl, unhide hS'⟩
        case rest =>
        obtain ⟨rfl, hoc⟩ := hcut
        have oW3 := oW2.trans hoc (fun _ _ h => h)
        clear hoc
        generalize wc = W3 at *
        obtain ⟨d1, d2, d3, d4, d5, d6⟩ := unhide HC W3 oW3
        have A1 := hide (unhide AO W3 oW3)
        go_wp2_with fail
        refine (unhide A1).mono ?_
        rintro e w3 ⟨v3, rfl, hB3⟩
        have hN := hide ((BI.start (unhide HB)).quiet oW3 |>.trans hB3)
        clear hB3
        go_wp2_with fail
        go_ret2
        rw [(unhide EE).1, (unhide EE).2]
        exact ⟨_, rfl, unhide hN⟩
      · rw [decide_eq_false e3] at C3
        have EE : Hid (pn = 1 ∧ R = l ++ (markO ++ closeS (cutL O o0 o1).flatten ++ markM ++ closeS (cutL T t0 t1).flatten ++ markT)) := hide ⟨by rw [← unhide Hpn, if_neg (unhide HE1), if_neg (unhide HE2), if_neg e3], by rw [← unhide HR, if_neg (unhide HE1), if_neg (unhide HE2), if_neg e3]⟩
        clear e3 Hpn HR
        go_upto_region 5 with fail
        go_cut [72] (fun u W => u = .bool false ∧ Only (fun _ => False) W2 W)
        case first =>
          obtain ⟨_, _, _, _, _, _⟩ := unhide HC W2 oW2
          have hq : Only (fun _ => False) W2 W2 := Only.refl _ _
          go_region_with (go_at_call 59; have hC := unhide C3 W2.drew oW2.drew; refine hC.mono ?_; rintro e w2 ⟨rfl, hS⟩)
          all_goals
            have hS' := hide (hq.drew.trans hS (fun _ _ h => h))
            clear hS
            go_wp2_with fail
            go_meet
            exact ⟨rfl, unhide hS'⟩
        case rest =>
        obtain ⟨rfl, hoc⟩ := hcut
        have oW3 := oW2.trans hoc (fun _ _ h => h)
        clear hoc
        generalize wc = W3 at *
        obtain ⟨d1, d2, d3, d4, d5, d6⟩ := unhide HC W3 oW3
        have hB0 := (unhide HB).keep oW3 (fun _ _ h => h)
        have hX0 := (unhide HX).quiet oW3
        have A1 := hide (dadd_any hB0 markO (by omega) (by decide))
        have HS0 := hide ((BI.start (unhide HB)).quiet oW3)
        have HB0 := hide hB0
        have HX0 := hide hX0
        clear hB0 hX0
        go_wp2_with fail
        refine (unhide A1).mono ?_
        rintro e w4 ⟨v4, rfl, hB4, b4, o4⟩
        have hI4 := (BI.start (unhide HB0)).step hB4 b4 o4
        have hX4 := (unhide HX0).byt (unhide HB0) hI4
        have A2 := hide (dclosed_any hI4.own hX4.lo neo o0 o1 ho0 ho1 (by rw [List.length_append]; have : markO.length = 8 := rfl; omega) (by omega) (by omega))
        have q1 := hX4.hd.cell 1
        have q2 := hX4.hd.lt
        have HI4 := hide ((unhide HS0).trans hI4)
        have HX4 := hide hX4
        have HO4 := hide hI4.own
        clear hI4 hX4 hB4 b4 o4 A1 d1 d2 d3 d4 d5 d6
        go_wp2_with fail
        refine (unhide A2).mono ?_
        rintro e w5 ⟨v5, rfl, hI5⟩
        have hX5 := (unhide HX4).byt (unhide HO4) hI5
        have A3 := hide (dadd_any hI5.own markM (by simp only [List.length_append]; have : markO.length = 8 := rfl; omega) (by decide))
        have HI5 := hide ((unhide HI4).trans hI5)
        have HX5 := hide hX5
        have HO5 := hide hI5.own
        clear hI5 hX5 A2 q1 q2
        go_wp2_with fail
        refine (unhide A3).mono ?_
        rintro e w6 ⟨v6, rfl, hB6, b6, o6⟩
        have hI6 := (BI.start (unhide HO5)).step hB6 b6 o6
        have hX6 := (unhide HX5).byt (unhide HO5) hI6
        have A4 := hide (dclosed_any hI6.own hX6.lt net t0 t1 ht0 ht1 (by simp only [List.length_append]; have : markO.length = 8 := rfl; have : markM.length = 8 := rfl; omega) (by omega) (by omega))
        have q1 := hX6.hd.cell 2
        have q2 := hX6.hd.lt
        have HI6 := hide ((unhide HI5).trans hI6)
        have HO6 := hide hI6.own
        clear hI6 hX6 hB6 b6 o6 A3
        go_wp2_with fail
        refine (unhide A4).mono ?_
        rintro e w7 ⟨v7, rfl, hI7⟩
        have A5 := hide (dadd_any hI7.own markT (by simp only [List.length_append]; have : markO.length = 8 := rfl; have : markM.length = 8 := rfl; omega) (by decide))
        have HI7 := hide ((unhide HI6).trans hI7)
        have HO7 := hide hI7.own
        clear hI7 A4 q1 q2
        go_wp2_with fail
        refine (unhide A5).mono ?_
        rintro e w8 ⟨v8, rfl, hB8, b8, o8⟩
        have hI8 := (unhide HI7).trans ((BI.start (unhide HO7)).step hB8 b8 o8)
        have e8 : l ++ markO ++ closeS (cutL O o0 o1).flatten ++ markM ++ closeS (cutL T t0 t1).flatten ++ markT = l ++ (markO ++ closeS (cutL O o0 o1).flatten ++ markM ++ closeS (cutL T t0 t1).flatten ++ markT) := by simp only [List.append_assoc]
        rw [e8] at hI8
        have HI8 := hide hI8
        clear hI8 hB8 b8 o8 A5 e8
        go_wp2_with fail
        go_ret2
        rw [(unhide EE).1, (unhide EE).2]
        exact ⟨_, rfl, unhide HI8⟩
end
end Go.Proofs.Qxb6500416a
