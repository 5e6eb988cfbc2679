/-
  OWN WORK. THE GRAPH's MODEL: api over the branches (written by tools/gen_hapi2.py).
-/
import Derived.Test.Qxb6500417aGreatHApi1
namespace Go.Proofs.Qxb6500417aGreat
open Go.RowKit Go.PlainAid
set_option linter.unusedSimpArgs false
set_option linter.unusedVariables false

theorem ltS_asy {a b : ByteArray} (h : ltS a b = true) : ltS b a = false := by
  cases e : ltS b a with
  | false => rfl
  | true => have := ltS_trans h e; rw [ltS_irr] at this; cases this
set_option maxRecDepth 100000 in
set_option maxHeartbeats 2000000 in
theorem acopyRefs_any {w : World} {v : Value} {l : List Rf} (h : RefsIn w v l) (hlen : l.length ≤ 1000) :
    Calls Tryz.prog 68 #[v] w fun e w' => ∃ v', e = .returned v' ∧ RM w v' l w' := by
  obtain ⟨i0, hi0, hz0, hz1, hz2⟩ := info_parts Tryz.infoRef
  have H0 := hide h
  obtain ⟨a, cap, rfl⟩ := h.shape
  clear h
  go_enter Tryz.func68, Tryz.ntmps68
  go_wp2_with fail
  go_loopw [3, 4] (fun ov iv wr => ∃ i : Nat, i ≤ l.length ∧ iv = .int .i64 i ∧ RM w ov (l.take i) wr) (fun _ iv _ => l.length - (intOf iv).toNat)
  case atStart => exact ⟨0, by omega, rfl, RM.nil w⟩
  case round =>
    obtain ⟨i, hi, rfl, hM⟩ := hrel
    by_cases hil : i < l.length
    · obtain ⟨g, _, he, hgl, c0, c1⟩ := ((unhide H0).keep hM.ho (fun _ _ h => h)).cellAt hil
      obtain ⟨rfl, rfl⟩ := slice_eq he
      have a1 : decide ((i : Int) < (l.length : Int)) = true := decide_eq_true (by omega)
      have a1n : decide (i < l.length) = true := decide_eq_true hil
      have a2 : (i : Int) < (l.length : Int) := by omega
      have hll : (l.take i).length ≤ 1000 := by rw [List.length_take]; omega
      have HM := hide hM
      have own2 : wr.ownsRow 0 158 2 _ _ _ := hM.own
      obtain ⟨oa, oc, rfl⟩ := ownsRow_shape hM.own
      have Hsn := hide (take_snoc hil)
      clear hM he
      generalize l[i] = q0 at *
      obtain ⟨nm, sq⟩ := q0
      simp only at c0 c1
      generalize l.take i = pre at *
      go_wp2_with (at_builtin; refine wpList_append2 _ rfl _ _ 56 rfl 158 i0 _ 2 24 Tryz.underlying56 hi0 hz0 hz1 hz2 rfl (by decide) _ _ _ rfl (own2.alloc _) ⟨wr.heap.size, 0, none⟩ 1 1 [.string nm, .int .i64 (sq : Int)] rfl rfl ?d1 ?d2 ?d3 ?d4 ?_)
      try (case d1 => exact news_ok _ _ _ _ rfl)
      case d2 => first | (intro u hu; simp at hu; rcases hu with rfl | rfl <;> rfl) | exact ⟨rfl, rfl⟩ | rfl
      case d3 => unfold maxLen; omega
      case d4 => omega
      intro v7 w7 hown hgrow hwhere
      have h7 := (unhide HM).push2 (f := ⟨nm, sq⟩) hown rfl hgrow hwhere
      have H7 := hide h7
      clear hown hgrow hwhere own2 h7 HM
      go_wp2_with fail
      go_roundw
      case rel => exact ⟨i + 1, by omega, by go_num, by rw [← unhide Hsn]; exact unhide H7⟩
      case measure => simp [intOf]; omega
    · have e1 : i = l.length := by omega
      subst e1
      have a1 : decide ((l.length : Int) < (l.length : Int)) = false := by simp
      rw [List.take_length] at hM
      have HM := hide hM
      clear hM
      go_wp2_with fail
      go_ret
      exact ⟨_, rfl, unhide HM⟩
/-- What FindRef answers. -/
def FrP (l : List Rf) (nm : ByteArray) (r : Int) : Prop := (r = -1 ∧ ∀ b ∈ l, b.name ≠ nm) ∨ (∃ j : Nat, r = j ∧ ∃ b ∈ l, b.name = nm)
set_option maxRecDepth 100000 in
set_option maxHeartbeats 2000000 in
theorem afindR_any {w : World} {v : Value} {l : List Rf} (h : RefsIn w v l) (hlen : l.length ≤ 1000) (nm : ByteArray) :
    Calls Tryz.prog 148 #[v, .string nm] w fun e w' => ∃ r : Int, e = .returned (.int .i64 r) ∧ FrP l nm r ∧ w = w' := by
  have H0 := hide h
  obtain ⟨a, cap, rfl⟩ := h.shape
  clear h
  go_enter Tryz.func148, Tryz.ntmps148
  go_wp2_with fail
  go_loopw [5] (fun iv wr => ∃ i : Nat, iv = .int .i64 i ∧ i ≤ l.length ∧ (∀ j (hj : j < l.length), j < i → l[j].name ≠ nm) ∧ w = wr) (fun iv _ => l.length - (intOf iv).toNat)
  case atStart => exact ⟨0, rfl, by omega, fun j _ hj => by omega, rfl⟩
  case round =>
    obtain ⟨i, rfl, hi, hno, rfl⟩ := hrel
    by_cases hil : i < l.length
    · obtain ⟨g, _, he, hgl, c0, _⟩ := (unhide H0).cellAt hil
      obtain ⟨rfl, rfl⟩ := slice_eq he
      have b1 : decide ((i : Int) < (l.length : Int)) = true := decide_eq_true (by omega)
      have b1n : decide (i < l.length) = true := decide_eq_true hil
      have b2 : (i : Int) < (l.length : Int) := by omega
      by_cases heq : l[i].name = nm
      · have hR : FrP l nm (i : Int) := .inr ⟨i, rfl, l[i], List.getElem_mem hil, heq⟩
        have HR := hide hR
        have b3 : (l[i].name.toList == nm.toList) = true := by rw [heq]; exact str_eq nm
        clear hR hno heq he
        generalize l[i].name = bn at *
        go_wp2_with fail
        go_ret
        exact ⟨(i : Int), rfl, unhide HR, rfl⟩
      · have b3 := str_ne heq
        have hno' : ∀ j (hj : j < l.length), j < i + 1 → l[j].name ≠ nm := fun j hj hji => by
          by_cases e : j = i
          · subst e; exact heq
          · exact hno j hj (by omega)
        have Hno := hide hno'
        clear hno hno' heq he
        generalize l[i].name = bn at *
        go_wp2_with fail
        go_roundw
        case rel => exact ⟨i + 1, by go_num, by omega, unhide Hno, by first | trivial | rfl⟩
        case measure => simp [intOf]; omega
    · have b1 : decide ((i : Int) < (l.length : Int)) = false := decide_eq_false (by omega)
      have b1n : decide (i < l.length) = false := decide_eq_false hil
      have hR : FrP l nm (-1) := .inl ⟨rfl, fun b hb => by
        obtain ⟨j, hj, rfl⟩ := List.getElem_of_mem hb
        exact hno j hj (by omega)⟩
      have HR := hide hR
      clear hR hno
      go_wp2_with fail
      go_ret
      exact ⟨-1, rfl, unhide HR, rfl⟩
set_option maxRecDepth 100000 in
set_option maxHeartbeats 2000000 in
theorem awithout_any {w : World} {v : Value} {l : List Rf} (h : RefsIn w v l) (hlen : l.length ≤ 1000) (nm : ByteArray) :
    Calls Tryz.prog 150 #[v, .string nm] w fun e w' => ∃ v', e = .returned v' ∧ RM w v' (withoutR l nm) w' := by
  obtain ⟨i0, hi0, hz0, hz1, hz2⟩ := info_parts Tryz.infoRef
  have H0 := hide h
  obtain ⟨a, cap, rfl⟩ := h.shape
  clear h
  go_enter Tryz.func150, Tryz.ntmps150
  go_wp2_with fail
  go_loopw [5, 6] (fun ov iv wr => ∃ i : Nat, i ≤ l.length ∧ iv = .int .i64 i ∧ RM w ov (withoutR (l.take i) nm) wr) (fun _ iv _ => l.length - (intOf iv).toNat)
  case atStart => exact ⟨0, by omega, rfl, by simpa [withoutR] using RM.nil w⟩
  case round =>
    obtain ⟨i, hi, rfl, hM⟩ := hrel
    by_cases hil : i < l.length
    · obtain ⟨g, _, he, hgl, c0, c1⟩ := ((unhide H0).keep hM.ho (fun _ _ h => h)).cellAt hil
      obtain ⟨rfl, rfl⟩ := slice_eq he
      have a1 : decide ((i : Int) < (l.length : Int)) = true := decide_eq_true (by omega)
      have a1n : decide (i < l.length) = true := decide_eq_true hil
      have a2 : (i : Int) < (l.length : Int) := by omega
      have hll : (withoutR (l.take i) nm).length ≤ 1000 := by
        have h2 : (withoutR (l.take i) nm).length ≤ (l.take i).length := List.length_filter_le _ _
        rw [List.length_take] at h2; omega
      have hst : withoutR (l.take (i + 1)) nm = withoutR (l.take i) nm ++ (if l[i].name ≠ nm then [l[i]] else []) := by
        rw [← take_snoc hil]
        unfold withoutR
        rw [List.filter_append]
        by_cases e : l[i].name ≠ nm <;> simp [e]
      have HM := hide hM
      have own2 : wr.ownsRow 0 158 2 _ _ _ := hM.own
      obtain ⟨oa, oc, rfl⟩ := ownsRow_shape hM.own
      by_cases heq : l[i].name = nm
      · have b3 : (l[i].name.toList == nm.toList) = true := by rw [heq]; exact str_eq nm
        rw [if_neg (by simp [heq]), List.append_nil] at hst
        have Hst := hide hst
        clear hM he heq hst own2
        generalize l[i].name = bn at *
        go_wp2_with fail
        go_roundw
        case rel => exact ⟨i + 1, by omega, by go_num, by rw [unhide Hst]; exact unhide HM⟩
        case measure => simp [intOf]; omega
      · have b3 := str_ne heq
        rw [if_pos heq] at hst
        have Hst := hide hst
        clear hM he heq hst
        generalize l[i] = q0 at *
        obtain ⟨bn, sq⟩ := q0
        simp only at c0 c1 b3
        generalize withoutR (l.take i) nm = pre at *
        go_wp2_with (at_builtin; refine wpList_append2 _ rfl _ _ 56 rfl 158 i0 _ 2 24 Tryz.underlying56 hi0 hz0 hz1 hz2 rfl (by decide) _ _ _ rfl (own2.alloc _) ⟨wr.heap.size, 0, none⟩ 1 1 [.string bn, .int .i64 (sq : Int)] rfl rfl ?d1 ?d2 ?d3 ?d4 ?_)
        try (case d1 => exact news_ok _ _ _ _ rfl)
        case d2 => first | (intro u hu; simp at hu; rcases hu with rfl | rfl <;> rfl) | exact ⟨rfl, rfl⟩ | rfl
        case d3 => unfold maxLen; omega
        case d4 => omega
        intro v7 w7 hown hgrow hwhere
        have h7 := (unhide HM).push2 (f := ⟨bn, sq⟩) hown rfl hgrow hwhere
        have H7 := hide h7
        clear hown hgrow hwhere own2 h7 HM
        go_wp2_with fail
        go_roundw
        case rel => exact ⟨i + 1, by omega, by go_num, by rw [unhide Hst]; exact unhide H7⟩
        case measure => simp [intOf]; omega
    · have e1 : i = l.length := by omega
      subst e1
      have a1 : decide ((l.length : Int) < (l.length : Int)) = false := by simp
      rw [List.take_length] at hM
      have HM := hide hM
      clear hM
      go_wp2_with fail
      go_ret
      exact ⟨_, rfl, unhide HM⟩
theorem withR_step {l : List Rf} {nm : ByteArray} {sq i : Nat} (hi : i < l.length) : withR (l.drop i) nm sq = if ltS l[i].name nm = true then l[i] :: withR (l.drop (i + 1)) nm sq else if l[i].name = nm then ⟨nm, sq⟩ :: l.drop (i + 1) else ⟨nm, sq⟩ :: l[i] :: l.drop (i + 1) := by
  rw [List.drop_eq_getElem_cons hi]; rfl
/-- What is still to come. -/
def wRest (l : List Rf) (nm : ByteArray) (sq i : Nat) (d : Bool) : List Rf := if d = true then l.drop i else withR (l.drop i) nm sq
set_option maxRecDepth 100000 in
set_option maxHeartbeats 4000000 in
theorem awith_any {w : World} {v : Value} {l : List Rf} (h : RefsIn w v l) (hlen : l.length ≤ 1000) (nm : ByteArray) (sq : Nat) :
    Calls Tryz.prog 149 #[v, .string nm, .int .i64 (sq : Int)] w fun e w' => ∃ v', e = .returned v' ∧ RM w v' (withR l nm sq) w' := by
  obtain ⟨i0, hi0, hz0, hz1, hz2⟩ := info_parts Tryz.infoRef
  have H0 := hide h
  obtain ⟨a, cap, rfl⟩ := h.shape
  obtain ⟨R, hR⟩ : ∃ R, withR l nm sq = R := ⟨_, rfl⟩
  rw [hR]
  have HR : Hid (([] : List Rf) ++ wRest l nm sq 0 false = R) := hide (by rw [← hR]; rfl)
  clear h hR
  go_enter Tryz.func149, Tryz.ntmps149
  go_wp2_with fail
  go_loopw [7, 8, 9] (fun ov dv iv wr => ∃ (i : Nat) (d : Bool) (pre : List Rf), i ≤ l.length ∧ iv = .int .i64 i ∧ dv = .bool d ∧ pre.length ≤ i + d.toNat ∧ pre ++ wRest l nm sq i d = R ∧ RM w ov pre wr) (fun _ _ iv _ => l.length - (intOf iv).toNat)
  case atStart => exact ⟨0, false, [], by omega, rfl, rfl, by simp, unhide HR, RM.nil w⟩
  case round =>
    clear HR
    obtain ⟨i, d, pre, hi, rfl, rfl, hpl, hr, hM⟩ := hrel
    by_cases hil : i < l.length
    · obtain ⟨g, _, he, hgl, c0, c1⟩ := ((unhide H0).keep hM.ho (fun _ _ h => h)).cellAt hil
      obtain ⟨rfl, rfl⟩ := slice_eq he
      have a1 : decide ((i : Int) < (l.length : Int)) = true := decide_eq_true (by omega)
      have a1n : decide (i < l.length) = true := decide_eq_true hil
      have a2 : (i : Int) < (l.length : Int) := by omega
      have HM := hide hM
      have own2 : wr.ownsRow 0 158 2 _ _ _ := hM.own
      obtain ⟨oa, oc, rfl⟩ := ownsRow_shape hM.own
      have hdr : l.drop i = l[i] :: l.drop (i + 1) := List.drop_eq_getElem_cons hil
      have hws := withR_step (nm := nm) (sq := sq) hil
      unfold wRest at hr
      cases d with
      | true =>
        have hpl' : pre.length ≤ i + 1 := hpl
        clear hpl
        have hr' : (pre ++ [l[i]]) ++ wRest l nm sq (i + 1) true = R := by
          rw [if_pos rfl, hdr] at hr
          rw [← hr]; simp [wRest]
        have Hr := hide hr'
        clear hM he hr hr' hdr hws
        generalize l[i] = q0 at *
        obtain ⟨bn, bs⟩ := q0
        simp only at c0 c1
        go_upto_region 10 with fail
        go_wp2_with (at_builtin; refine wpList_append2 _ rfl _ _ 56 rfl 158 i0 _ 2 24 Tryz.underlying56 hi0 hz0 hz1 hz2 rfl (by decide) _ _ _ rfl (own2.alloc _) ⟨wr.heap.size, 0, none⟩ 1 1 [.string bn, .int .i64 (bs : Int)] rfl rfl ?d1 ?d2 ?d3 ?d4 ?_)
        try (case d1 => exact news_ok _ _ _ _ rfl)
        case d2 => first | (intro u hu; simp at hu; rcases hu with rfl | rfl <;> rfl) | exact ⟨rfl, rfl⟩ | rfl
        case d3 => unfold maxLen; omega
        case d4 => omega
        intro v7 w7 hown hgrow hwhere
        have h7 := (unhide HM).push2 (f := ⟨bn, bs⟩) hown rfl hgrow hwhere
        have H7 := hide h7
        clear hown hgrow hwhere own2 h7 HM
        go_wp2_with fail
        go_roundw
        case rel => exact ⟨i + 1, true, _, by omega, by go_num, rfl, by simp; omega, unhide Hr, unhide H7⟩
        case measure => simp [intOf]; omega
      | false =>
        have hpl' : pre.length ≤ i := hpl
        clear hpl
        rw [if_neg (by simp), hws] at hr
        cases hlt : ltS l[i].name nm with
        | true =>
          have hr' : (pre ++ [l[i]]) ++ wRest l nm sq (i + 1) false = R := by
            rw [if_pos hlt] at hr
            rw [← hr]; simp [wRest]
          have Hr := hide hr'
          have f1 := ltS_asy hlt
          have f2 : (nm.toList == l[i].name.toList) = false := str_ne (fun e => by rw [e, ltS_irr] at hlt; cases hlt)
          unfold ltS at f1
          clear hM he hr hr' hdr hws hlt
          generalize l[i] = q0 at *
          obtain ⟨bn, bs⟩ := q0
          simp only at f1 f2 c0 c1
          go_upto_region 10 with fail
          go_wp2_with (at_builtin; refine wpList_append2 _ rfl _ _ 56 rfl 158 i0 _ 2 24 Tryz.underlying56 hi0 hz0 hz1 hz2 rfl (by decide) _ _ _ rfl (own2.alloc _) ⟨wr.heap.size, 0, none⟩ 1 1 [.string bn, .int .i64 (bs : Int)] rfl rfl ?d1 ?d2 ?d3 ?d4 ?_)
          try (case d1 => exact news_ok _ _ _ _ rfl)
          case d2 => first | (intro u hu; simp at hu; rcases hu with rfl | rfl <;> rfl) | exact ⟨rfl, rfl⟩ | rfl
          case d3 => unfold maxLen; omega
          case d4 => omega
          intro v7 w7 hown hgrow hwhere
          have h7 := (unhide HM).push2 (f := ⟨bn, bs⟩) hown rfl hgrow hwhere
          have H7 := hide h7
          clear hown hgrow hwhere own2 h7 HM
          go_wp2_with fail
          go_roundw
          case rel => exact ⟨i + 1, false, _, by omega, by go_num, rfl, by simp; omega, unhide Hr, unhide H7⟩
          case measure => simp [intOf]; omega
        | false =>
          rw [if_neg (by rw [hlt]; simp)] at hr
          by_cases heq : l[i].name = nm
          · have hr' : (pre ++ [⟨nm, sq⟩]) ++ wRest l nm sq (i + 1) true = R := by
              rw [if_pos heq] at hr
              rw [← hr]; simp [wRest]
            have Hr := hide hr'
            have f1 := ltS_irr nm
            have f2 := str_eq nm
            unfold ltS at f1
            rw [heq] at c0
            clear hM he hr hr' hdr hws hlt
            have Heq := hide heq
            clear heq c1
            go_upto_region 7 with fail
            go_wp2_with (at_builtin; refine wpList_append2 _ rfl _ _ 56 rfl 158 i0 _ 2 24 Tryz.underlying56 hi0 hz0 hz1 hz2 rfl (by decide) _ _ _ rfl (own2.alloc _) ⟨wr.heap.size, 0, none⟩ 1 1 [.string nm, .int .i64 (sq : Int)] rfl rfl ?d1 ?d2 ?d3 ?d4 ?_)
            try (case d1 => exact news_ok _ _ _ _ rfl)
            case d2 => first | (intro u hu; simp at hu; rcases hu with rfl | rfl <;> rfl) | exact ⟨rfl, rfl⟩ | rfl
            case d3 => unfold maxLen; omega
            case d4 => omega
            intro v7 w7 hown hgrow hwhere
            have h7 := (unhide HM).push2 (f := ⟨nm, sq⟩) hown rfl hgrow hwhere
            have H7 := hide h7
            clear hown hgrow hwhere own2 h7 HM
            have c0x : w7.cell? ⟨g, i * 2, none⟩ = some (.string nm) := by
              obtain ⟨gx, _, hex, hglx, c0x, _⟩ := ((unhide H0).keep (unhide H7).ho (fun _ _ h => h)).cellAt hil
              obtain ⟨e9, _⟩ := slice_eq hex
              obtain rfl : g = gx := by simpa using e9
              rw [unhide Heq] at c0x
              exact c0x
            go_wp2_with fail
            go_roundw
            case rel => exact ⟨i + 1, true, _, by omega, by go_num, rfl, by simp; omega, unhide Hr, unhide H7⟩
            case measure => simp [intOf]; omega
          · have hr' : ((pre ++ [⟨nm, sq⟩]) ++ [l[i]]) ++ wRest l nm sq (i + 1) true = R := by
              rw [if_neg heq] at hr
              rw [← hr]; simp [wRest]
            have Hr := hide hr'
            have f1 := ltS_tri hlt heq
            have f2 : (nm.toList == l[i].name.toList) = false := str_ne (fun e => heq e.symm)
            unfold ltS at f1
            clear hM he hr hr' hdr hws hlt heq
            have Hc := hide (fun (w9 : World) (ho : Only (fun _ => False) w w9) => (show w9.cell? ⟨g, i * 2, none⟩ = some (.string l[i].name) ∧ w9.cell? ⟨g, i * 2 + 1, none⟩ = some (.int .i64 (l[i].seq : Int)) from by
              obtain ⟨gx, _, hex, hglx, c0x, c1x⟩ := ((unhide H0).keep ho (fun _ _ h => h)).cellAt hil
              obtain ⟨e9, _⟩ := slice_eq hex
              obtain rfl : g = gx := by simpa using e9
              exact ⟨c0x, c1x⟩))
            generalize l[i] = q0 at *
            obtain ⟨bn, bs⟩ := q0
            simp only at f1 f2 c0 c1
            go_upto_region 7 with fail
            go_wp2_with (at_builtin; refine wpList_append2 _ rfl _ _ 56 rfl 158 i0 _ 2 24 Tryz.underlying56 hi0 hz0 hz1 hz2 rfl (by decide) _ _ _ rfl (own2.alloc _) ⟨wr.heap.size, 0, none⟩ 1 1 [.string nm, .int .i64 (sq : Int)] rfl rfl ?d1 ?d2 ?d3 ?d4 ?_)
            try (case d1 => exact news_ok _ _ _ _ rfl)
            case d2 => first | (intro u hu; simp at hu; rcases hu with rfl | rfl <;> rfl) | exact ⟨rfl, rfl⟩ | rfl
            case d3 => unfold maxLen; omega
            case d4 => omega
            intro v7 w7 hown hgrow hwhere
            have h7 := (unhide HM).push2 (f := ⟨nm, sq⟩) hown rfl hgrow hwhere
            have H7 := hide h7
            clear hown hgrow hwhere own2 h7 HM
            obtain ⟨d0, d1⟩ := unhide Hc w7 (unhide H7).ho
            try simp only at d0 d1
            have HM := H7
            have own2 : w7.ownsRow 0 158 2 _ _ _ := (unhide H7).own
            obtain ⟨oa2, oc2, rfl⟩ := ownsRow_shape (unhide H7).own
            have hpl2 : (pre ++ [(⟨nm, sq⟩ : Rf)]).length ≤ i + 1 := by simp; omega
            have hgl7 : g < w7.heap.size := World.block_lt_of_cell? w7 _ d0
            clear H7 c0 c1
            generalize pre ++ [(⟨nm, sq⟩ : Rf)] = pre2 at *
            go_upto_region 10 with fail
            go_wp2_with (at_builtin; refine wpList_append2 _ rfl _ _ 56 rfl 158 i0 _ 2 24 Tryz.underlying56 hi0 hz0 hz1 hz2 rfl (by decide) _ _ _ rfl (own2.alloc _) ⟨w7.heap.size, 0, none⟩ 1 1 [.string bn, .int .i64 (bs : Int)] rfl rfl ?q1 ?q2 ?q3 ?q4 ?_)
            try (case q1 => exact news_ok _ _ _ _ rfl)
            case q2 => first | (intro u hu; simp at hu; rcases hu with rfl | rfl <;> rfl) | exact ⟨rfl, rfl⟩ | rfl
            case q3 => unfold maxLen; omega
            case q4 => omega
            intro v8 w8 hown hgrow hwhere
            have h7 := (unhide HM).push2 (f := ⟨bn, bs⟩) hown rfl hgrow hwhere
            have H8 := hide h7
            clear hown hgrow hwhere own2 h7 HM
            go_wp2_with fail
            go_roundw
            case rel => exact ⟨i + 1, true, _, by omega, by go_num, rfl, by simp; omega, unhide Hr, unhide H8⟩
            case measure => simp [intOf]; omega
    · have e1 : i = l.length := by omega
      subst e1
      have a1 : decide ((l.length : Int) < (l.length : Int)) = false := by simp
      have HM := hide hM
      have own2 : wr.ownsRow 0 158 2 _ _ _ := hM.own
      obtain ⟨oa, oc, rfl⟩ := ownsRow_shape hM.own
      unfold wRest at hr
      rw [List.drop_length] at hr
      cases d with
      | true =>
        clear hpl
        have hr' : pre = R := by rw [if_pos rfl, List.append_nil] at hr; exact hr
        subst hr'
        clear hM hr own2
        go_wp2_with fail
        go_ret
        exact ⟨_, rfl, unhide HM⟩
      | false =>
        have hpl' : pre.length ≤ l.length := hpl
        clear hpl
        have hr' : pre ++ [⟨nm, sq⟩] = R := by rw [if_neg (by simp)] at hr; exact hr
        subst hr'
        clear hM hr
        go_wp2_with (at_builtin; refine wpList_append2 _ rfl _ _ 56 rfl 158 i0 _ 2 24 Tryz.underlying56 hi0 hz0 hz1 hz2 rfl (by decide) _ _ _ rfl (own2.alloc _) ⟨wr.heap.size, 0, none⟩ 1 1 [.string nm, .int .i64 (sq : Int)] rfl rfl ?d1 ?d2 ?d3 ?d4 ?_)
        try (case d1 => exact news_ok _ _ _ _ rfl)
        case d2 => first | (intro u hu; simp at hu; rcases hu with rfl | rfl <;> rfl) | exact ⟨rfl, rfl⟩ | rfl
        case d3 => unfold maxLen; omega
        case d4 => omega
        intro v7 w7 hown hgrow hwhere
        have h7 := (unhide HM).push2 (f := ⟨nm, sq⟩) hown rfl hgrow hwhere
        have H7 := hide h7
        clear hown hgrow hwhere own2 h7 HM
        go_wp2_with fail
        go_ret
        exact ⟨_, rfl, unhide H7⟩
end Go.Proofs.Qxb6500417aGreat
