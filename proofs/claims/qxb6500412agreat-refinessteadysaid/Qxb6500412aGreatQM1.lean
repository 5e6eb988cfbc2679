/-
  OWN WORK. QUERY's MODEL: tokens (written by tools/gen_qm1.py).
-/
import Derived.Test.Qxb6500412aGreatQM0
namespace Go.Proofs.Qxb6500412aGreat
open Go.RowKit Go.PlainAid
set_option linter.unusedSimpArgs false
set_option linter.unusedVariables false

theorem Tryz.infoSMTok : (Tryz.prog.info? 329).map (fun i => (i.zero, i.size, i.bytes)) = some (some (.agg #[.int .i64 0, .string ⟨#[]⟩, .int .i64 0]), 3, 32) := by kernel_rfl
/-- The text could be cut. -/
def cutB (t : ByteArray) : Bool := decide (t.size ≤ 256) && (toks t 0).2
/-- What tokens answers. -/
def TksP (ty : TypeId) (t : ByteArray) (w : World) (e : Ending) (w' : World) : Prop := ∃ v, e = .returned (.tuple #[v, .bool (cutB t)]) ∧ (cutB t = true → OwnT ty w' v (toks t 0).1 ∧ Newer w v) ∧ Only (fun _ => False) w w'
/-- So far. -/
def TksI (ty : TypeId) (t : ByteArray) (w : World) (lv : Value) (i : Nat) (wr : World) : Prop := ∃ l : List Tk, GR ty 3 w lv l.length (tkcs l) wr ∧ toks t 0 = (l ++ (toks t i).1, (toks t i).2) ∧ l.length ≤ i
theorem wrapNeg (V : Nat) (h : V ≤ 9223372036854775808) : wrap64 (-(wrap64 (V : Int))) = -(V : Int) := by
  unfold wrap64
  omega
theorem wrapTop : wrap64 (-(wrap64 9223372036854775808)) = -9223372036854775808 := by
  unfold wrap64
  omega
section
variable {t : ByteArray} {w wr : World} {ty : TypeId} {lv : Value} {i : Nat}
theorem TksI.blank (h : TksI ty t w lv i wr) (hi : i < t.size) (hb : blkC (byteAt t i) = true) : TksI ty t w lv (i + 1) wr := by
  obtain ⟨l, h1, h2, h3⟩ := h
  exact ⟨l, h1, by rw [← toks_blank hi hb]; exact h2, by omega⟩
theorem TksI.fail (h : TksI ty t w lv i wr) (ht : t.size ≤ 256) (hi : i < t.size) (hb : blkC (byteAt t i) = false) (hx : tokA t i = none) : TksP ty t w (.returned (.tuple #[.slice none 0 0, .bool false])) wr := by
  obtain ⟨l, h1, h2, h3⟩ := h
  have hc : cutB t = false := by unfold cutB; rw [h2, toks_no hi hb hx]; simp
  exact ⟨_, by rw [hc], (fun c => by rw [hc] at c; cases c), h1.ho⟩
theorem TksI.done (h : TksI ty t w lv i wr) (ht : t.size ≤ 256) (hi : i = t.size) : TksP ty t w (.returned (.tuple #[lv, .bool true])) wr := by
  obtain ⟨l, h1, h2, h3⟩ := h
  rw [toks_over hi, List.append_nil] at h2
  have hc : cutB t = true := by unfold cutB; rw [h2, decide_eq_true ht]; rfl
  exact ⟨lv, by rw [hc], fun _ => ⟨by rw [h2]; exact h1.own, h1.hb⟩, h1.ho⟩
theorem TksI.push {v' : Value} {w' : World} {o : Obj} {x : Tk} {j n : Nat} {l : List Tk} (hG : GR ty 3 w lv l.length (tkcs l) wr) (h2 : toks t 0 = (l ++ (toks t i).1, (toks t i).2)) (h3 : l.length ≤ i) (hi : i < t.size) (hb : blkC (byteAt t i) = false) (hx : tokA t i = some (x, j)) (hn : n = l.length + 1) (hown : w'.ownsRow 0 ty 3 v' n (tkcs l ++ tkc x)) (hgrow : (wr.alloc o).grownBy w' lv.ownBlock) (hwhere : ∀ k, v'.ownBlock = some k → lv.ownBlock = some k ∨ k = wr.heap.size + 1) : TksI ty t w v' j w' := by
  have hj := (tokA_end hi hx).1
  simp only at hj
  refine ⟨l ++ [x], ?_, ?_, ?_⟩
  · have := GR.push (es := tkc x) (n := n) hG hown hgrow hwhere
    rw [List.length_append, tkcs_app, show tkcs [x] = tkc x by simp [tkcs]]
    rw [hn] at this
    exact this
  · rw [h2, toks_at hi hb hx]
    simp
  · rw [List.length_append]
    simp
    omega
end
set_option maxRecDepth 100000 in
theorem smtokens_long (t : ByteArray) (ht : ¬ t.size ≤ 256) (w : World) : Calls Tryz.prog 263 #[.string t] w (TksP 329 t w) := by
  have b1 : ((t.size : Int) > 256) := by omega
  have HE := hide (show TksP 329 t w (.returned (.tuple #[.slice none 0 0, .bool false])) w from by
    have hc : cutB t = false := by unfold cutB; rw [decide_eq_false ht]; rfl
    exact ⟨_, by rw [hc], (fun c => by rw [hc] at c; cases c), Only.refl _ _⟩)
  clear ht
  go_enter Tryz.func263, Tryz.ntmps263
  go_wp2_with fail
  go_ret2
  exact unhide HE
set_option maxRecDepth 100000 in
set_option maxHeartbeats 32000000 in
theorem smtokens_short (t : ByteArray) (ht : t.size ≤ 256) (w : World) : Calls Tryz.prog 263 #[.string t] w (TksP 329 t w) := by
  obtain ⟨i0, hi0, hz0, hz1, hz2⟩ := info_parts Tryz.infoSMTok
  have b1 : ¬ ((t.size : Int) > 256) := by omega
  have hsI : (t.size : Int) ≤ 256 := by omega
  go_enter Tryz.func263, Tryz.ntmps263
  go_upto_region 5 with fail
  go_loopw [4, 5, 6, 7, 8, 9, 10, 11, 12, 13] (fun lv iv _ _ _ _ _ _ _ _ wr => ∃ i : Nat, iv = .int .i64 (i : Int) ∧ i ≤ t.size ∧ TksI 329 t w lv i wr) (fun _ iv _ _ _ _ _ _ _ _ _ => t.size + 1 - (intOf iv).toNat)
  case atStart => exact ⟨0, rfl, Nat.zero_le _, [], GR.nil _ _ _, by simp, Nat.le_refl _⟩
  case round =>
    obtain ⟨i, rfl, his, hI⟩ := hrel
    have HI := hide hI
    by_cases hil : i < t.size
    case neg =>
      have a1 : decide ((i : Int) < (t.size : Int)) = false := decide_eq_false (by omega)
      have a1p : ¬ (i : Int) < (t.size : Int) := by omega
      have HE := hide (hI.done ht (by omega))
      obtain ⟨l, hG, _⟩ := hI
      obtain ⟨oa, oc, rfl⟩ := ownsRow_shape hG.own
      clear hG hil
      go_wp2_with fail
      go_ret2
      exact unhide HE
    have a1 : decide ((i : Int) < (t.size : Int)) = true := decide_eq_true (by omega)
    have a1p : (i : Int) < (t.size : Int) := by omega
    have hb : (t[i].toNat : Int) = ((byteAt t i : Nat) : Int) := byteAt_idx t i hil
    have c256 := byteAt_lt t i
    obtain ⟨c, hc⟩ : ∃ c, byteAt t i = c := ⟨_, rfl⟩
    rw [hc] at hb c256
    have Hc := hide hc
    obtain ⟨l, hG, hT, hL⟩ := hI
    obtain ⟨oa, oc, rfl⟩ := ownsRow_shape hG.own
    have own1 := hG.own
    obtain ⟨ln, hln⟩ : ∃ n, l.length = n := ⟨_, rfl⟩
    have HG := hide (And.intro (show GR 329 3 w (.slice oa ln oc) l.length (tkcs l) wr by rw [← hln]; exact hG) (And.intro hT hL))
    rw [hln] at own1 HI ⊢
    have hl256 : ln ≤ 256 := by omega
    have Hln := hide hln
    clear hG hT hL hc hln
    obtain ⟨bb, hbb⟩ : ∃ b, blkC c = b := ⟨_, rfl⟩
    have Hbb := hide (show blkC (byteAt t i) = bb by rw [unhide Hc]; exact hbb)
    go_upto_region 7 with fail
    go_cut [37] from 24 to 36 (fun bv wx => bv = .bool bb ∧ wr = wx)
    case first =>
      obtain ⟨d0, hd0⟩ : ∃ b, decide (c = 32) = b := ⟨_, rfl⟩
      obtain ⟨d1, hd1⟩ : ∃ b, decide (c = 9) = b := ⟨_, rfl⟩
      obtain ⟨d2, hd2⟩ : ∃ b, decide (c = 10) = b := ⟨_, rfl⟩
      obtain ⟨d3, hd3⟩ : ∃ b, decide (c = 13) = b := ⟨_, rfl⟩
      have ee0 : ((c : Int) == 32) = d0 := by rw [← hd0, Bool.eq_iff_iff]; simp; omega
      have ee1 : ((c : Int) == 9) = d1 := by rw [← hd1, Bool.eq_iff_iff]; simp; omega
      have ee2 : ((c : Int) == 10) = d2 := by rw [← hd2, Bool.eq_iff_iff]; simp; omega
      have ee3 : ((c : Int) == 13) = d3 := by rw [← hd3, Bool.eq_iff_iff]; simp; omega
      have hp : (d0 || d1 || d2 || d3) = bb := by rw [← hbb]; unfold blkC; rw [hd0, hd1, hd2, hd3]
      have HP := hide hp
      clear hp hbb hd0 hd1 hd2 hd3
      cases d0 <;> cases d1 <;> cases d2 <;> cases d3
      all_goals
        go_wp2_with fail
        go_meet
        exact ⟨by rw [← unhide HP]; rfl, rfl⟩
    case rest =>
    obtain ⟨rfl, rfl⟩ := hcut
    clear hbb
    cases bb with
    | true =>
      have HN := hide ((unhide HI).blank hil (unhide Hbb))
      clear own1
      go_wp2_with fail
      go_roundw
      case rel => exact ⟨i + 1, by go_num, by omega, unhide HN⟩
      case measure => simp [intOf]; omega
    | false =>
    have CL := smletter_any c wr
    obtain ⟨bl, hbl⟩ : ∃ b, letC c = b := ⟨_, rfl⟩
    rw [hbl] at CL
    have CL := hide CL
    have Hbl := hide (show letC (byteAt t i) = bl by rw [unhide Hc]; exact hbl)
    clear hbl
    go_wp2_with fail
    refine (unhide CL).mono ?_
    rintro e w2 ⟨rfl, rfl⟩
    clear CL
    cases bl with
    | true =>
      as_aux_lemma =>
        go_upto_region 11 with fail
        go_loopw [7] (fun ev wq => ∃ z : Nat, ev = .int .i64 (z : Int) ∧ i ≤ z ∧ z ≤ t.size ∧ (∀ k, i + 1 ≤ k → k < z → wrdC (byteAt t k) = true) ∧ wr = wq) (fun ev _ => t.size + 1 - (intOf ev).toNat)
        case atStart => exact ⟨i, rfl, Nat.le_refl _, his, fun k h1 h2 => by omega, rfl⟩
        case round =>
          obtain ⟨z, rfl, hiz, hzs, hall, hwr⟩ := hrel
          subst hwr
          have HA2 := hide hall
          clear hall
          have iz : (i : Int) ≤ (z : Int) := by omega
          have zs : (z : Int) ≤ (t.size : Int) := by omega
          have hwi : wrdC (byteAt t i) = true := by unfold wrdC; rw [unhide Hbl]; rfl
          have HD := hide (fun (h0 : i < z) (h : t.size ≤ z ∨ wrdC (byteAt t z) = false) => show tokA t i = some (.word (t.extract i z), z) from by
            unfold tokA
            rw [if_pos (unhide Hbl), run_stop h0 hzs (unhide HA2) h])
          by_cases hzl : z < t.size
          · have b1 : decide ((z : Int) < (t.size : Int)) = true := decide_eq_true (by omega)
            have b1p : (z : Int) < (t.size : Int) := by omega
            have hb2 : (t[z].toNat : Int) = ((byteAt t z : Nat) : Int) := byteAt_idx t z hzl
            obtain ⟨d, hd⟩ : ∃ c, byteAt t z = c := ⟨_, rfl⟩
            rw [hd] at hb2
            have CW := smwordy_any d wr
            obtain ⟨b3, hb3⟩ : ∃ b, wrdC d = b := ⟨_, rfl⟩
            rw [hb3] at CW
            have CW := hide CW
            have Hw := hide (show wrdC (byteAt t z) = b3 by rw [hd]; exact hb3)
            have Hwi := hide hwi
            clear hd hb3 hwi
            go_wp2_with fail
            refine (unhide CW).mono ?_
            rintro e w2 ⟨rfl, rfl⟩
            clear CW
            cases b3 with
            | true =>
              have HR := hide (show ∀ k, i + 1 ≤ k → k < z + 1 → wrdC (byteAt t k) = true from fun k h1 h2 => by
                by_cases e : k = z
                · rw [e]; exact unhide Hw
                · exact unhide HA2 k h1 (by omega))
              go_wp2_with fail
              exact ⟨⟨z + 1, by go_num, by omega, by omega, unhide HR, trivial⟩, by simp [intOf]; omega⟩
            | false =>
              have hiz2 : i < z := by
                rcases Nat.lt_or_ge i z with h | h
                · exact h
                · exfalso
                  have e : z = i := by omega
                  have h1 := unhide Hw
                  rw [e, unhide Hwi] at h1
                  cases h1
              have HX := hide (show tokA t i = some (.word (t.extract i z), z) from unhide HD hiz2 (.inr (unhide Hw)))
              go_wp2_with (at_builtin; refine wpList_append2 _ rfl _ _ 320 rfl 329 i0 _ 3 32 Tryz.underlying320 hi0 hz0 hz1 hz2 rfl (by decide) _ _ _ rfl (own1.alloc _) ⟨wr.heap.size, 0, none⟩ 1 1 [.int .i64 1, .string (t.extract i z), .int .i64 0] rfl rfl ?ap11 ?ap12 ?ap13 ?ap14 ?_)
              (try case ap11 => exact news_ok _ [.int .i64 1, .string (t.extract i z), .int .i64 0] 329 _ rfl)
              (try case ap12 => first | rfl | exact ⟨rfl, rfl, rfl⟩ | (intro u hu; simp at hu; rcases hu with rfl | rfl | rfl <;> rfl))
              (try case ap13 => unfold maxLen; omega)
              (try case ap14 => omega)
              intro v' w9 hown hgrow hwhere
              have HN := hide (TksI.push (x := .word (t.extract i z)) (j := z) (unhide HG).1 (unhide HG).2.1 (unhide HG).2.2 hil (unhide Hbb) (unhide HX) (by rw [unhide Hln]) hown hgrow hwhere)
              have hje := tokA_end hil (unhide HX)
              simp only at hje
              obtain ⟨va, vc, hv'⟩ := ownsRow_shape hown
              rw [hv'] at HN ⊢
              clear hown hgrow hwhere own1 hv'
              go_wp2_with fail
              go_roundw
              case rel => exact ⟨z, rfl, by omega, unhide HN⟩
              case measure => simp [intOf]; omega
          · have b1 : decide ((z : Int) < (t.size : Int)) = false := decide_eq_false (by omega)
            have b1p : ¬ (z : Int) < (t.size : Int) := by omega
            have HX := hide (show tokA t i = some (.word (t.extract i z), z) from unhide HD (by omega) (.inl (by omega)))
            go_wp2_with (at_builtin; refine wpList_append2 _ rfl _ _ 320 rfl 329 i0 _ 3 32 Tryz.underlying320 hi0 hz0 hz1 hz2 rfl (by decide) _ _ _ rfl (own1.alloc _) ⟨wr.heap.size, 0, none⟩ 1 1 [.int .i64 1, .string (t.extract i z), .int .i64 0] rfl rfl ?ap21 ?ap22 ?ap23 ?ap24 ?_)
            (try case ap21 => exact news_ok _ [.int .i64 1, .string (t.extract i z), .int .i64 0] 329 _ rfl)
            (try case ap22 => first | rfl | exact ⟨rfl, rfl, rfl⟩ | (intro u hu; simp at hu; rcases hu with rfl | rfl | rfl <;> rfl))
            (try case ap23 => unfold maxLen; omega)
            (try case ap24 => omega)
            intro v' w9 hown hgrow hwhere
            have HN := hide (TksI.push (x := .word (t.extract i z)) (j := z) (unhide HG).1 (unhide HG).2.1 (unhide HG).2.2 hil (unhide Hbb) (unhide HX) (by rw [unhide Hln]) hown hgrow hwhere)
            have hje := tokA_end hil (unhide HX)
            simp only at hje
            obtain ⟨va, vc, hv'⟩ := ownsRow_shape hown
            rw [hv'] at HN ⊢
            clear hown hgrow hwhere own1 hv'
            go_wp2_with fail
            go_roundw
            case rel => exact ⟨z, rfl, by omega, unhide HN⟩
            case measure => simp [intOf]; omega
    | false =>
    have CN := smnumber_any t i hil ht wr
    obtain ⟨bn, hbn⟩ : ∃ b, numb t i = b := ⟨_, rfl⟩
    rw [hbn] at CN
    have CN := hide CN
    have Hbn := hide hbn
    clear hbn
    go_wp2_with fail
    refine (unhide CN).mono ?_
    rintro e w2 ⟨rfl, rfl⟩
    clear CN
    cases bn with
    | true =>
      have hnA : tokA t i = numA t i := by unfold tokA; rw [if_neg (by rw [unhide Hbl]; decide), if_pos (unhide Hbn)]
      have HNA := hide hnA
      clear hnA
      by_cases h45 : c = 45
      · have e45 : ((c : Int) == 45) = true := by simp; omega
        as_aux_lemma =>
          have iw : IntKind.i64.wrap ((i : Int) + 1) = ((i + 1 : Nat) : Int) := by rw [IntWalk.i64_in] <;> omega
          obtain ⟨d, hd⟩ : ∃ d, d = (i + 1) := ⟨_, rfl⟩
          have HK := hide (show ∀ j : Nat, run digC t d = j → tokA t i = (if numD t d j ≤ 9223372036854775808 then some (.num (-(numD t d j : Int)), j) else none) from by
            intro j hj
            rw [hd] at hj ⊢
            rw [unhide HNA]
            unfold numA
            rw [if_pos (show byteAt t i = 45 by rw [unhide Hc]; exact h45), hj])
          clear h45
          have hds : d ≤ t.size := by omega
          have Hd := hide hd
          have hdi : i ≤ d := by omega
          go_upto_region 23 with fail
          go_loopw [5, 10, 11] (fun av cv _ wq => ∃ j : Nat, av = .int .i64 (j : Int) ∧ d ≤ j ∧ j ≤ t.size ∧ (∀ k, d ≤ k → k < j → digC (byteAt t k) = true) ∧ numD t d j ≤ 9223372036854775808 ∧ cv = .int .u64 (numD t d j : Int) ∧ wr = wq) (fun av _ _ _ => t.size + 1 - (intOf av).toNat)
          case atStart => exact ⟨d, by rw [unhide Hd]; go_num, Nat.le_refl _, hds, fun k h1 h2 => by omega, by rw [numD_nil]; omega, by rw [numD_nil]; rfl, rfl⟩
          case round =>
            obtain ⟨j, rfl, hdj, hjs, hall, hle, rfl, hwr⟩ := hrel
            subst hwr
            have HA := hide hall
            obtain ⟨V, hV⟩ : ∃ V, numD t d j = V := ⟨_, rfl⟩
            rw [hV] at hle ⊢
            have HV := hide hV
            clear hall hV
            have vI : (V : Int) ≤ 9223372036854775808 := by omega
            by_cases hjl : j < t.size
            · have b1 : decide ((j : Int) < (t.size : Int)) = true := decide_eq_true (by omega)
              have b1p : (j : Int) < (t.size : Int) := by omega
              have hb2 : (t[j].toNat : Int) = ((byteAt t j : Nat) : Int) := byteAt_idx t j hjl
              obtain ⟨x, hx⟩ : ∃ c, byteAt t j = c := ⟨_, rfl⟩
              rw [hx] at hb2
              have CD := smdigit_any x wr
              obtain ⟨bd, hbd⟩ : ∃ b, digC x = b := ⟨_, rfl⟩
              rw [hbd] at CD
              have CD := hide CD
              have Hbd := hide (show digC (byteAt t j) = bd by rw [hx]; exact hbd)
              have Hx := hide (And.intro hx hbd)
              clear hx hbd
              go_wp2_with fail
              refine (unhide CD).mono ?_
              rintro e w2 ⟨rfl, rfl⟩
              clear CD
              cases bd with
              | true =>
                have rg := dig_rng (unhide Hx).2
                have hnx : numD t d (j + 1) = V * 10 + (x - 48) := by rw [numD_step hdj, unhide HV, (unhide Hx).1]
                obtain ⟨m, hm⟩ : ∃ m, x - 48 = m := ⟨_, rfl⟩
                rw [hm] at hnx
                have m9 : m ≤ 9 := by omega
                have cw : IntKind.u8.wrap ((x : Int) - 48) = (m : Int) := by rw [IntKind.wrap_u8]; omega
                have mw : IntKind.u64.wrap (m : Int) = (m : Int) := by rw [IntWalk.u64_in] <;> omega
                have sw : IntKind.u64.wrap (9223372036854775808 - (m : Int)) = 9223372036854775808 - (m : Int) := by rw [IntWalk.u64_in] <;> omega
                obtain ⟨Q, hQ⟩ : ∃ Q, (9223372036854775808 - m) / 10 = Q := ⟨_, rfl⟩
                have hq : (9223372036854775808 - (m : Int)).tdiv 10 = (Q : Int) := by
                  rw [Int.tdiv_eq_ediv_of_nonneg (by omega)]
                  omega
                have hq2 : (9223372036854775808 - (m : Int)) / 10 = (Q : Int) := by omega
                have Q9 : (Q : Int) ≤ 922337203685477580 := by omega
                have mI : (m : Int) ≤ 9 := by omega
                have qw : IntKind.u64.wrap (Q : Int) = (Q : Int) := by rw [IntWalk.u64_in] <;> omega
                by_cases hov : V * 10 + m ≤ 9223372036854775808
                · have a2 : decide ((V : Int) > (Q : Int)) = false := decide_eq_false (by omega)
                  have a3 : decide ((Q : Int) < (V : Int)) = false := decide_eq_false (by omega)
                  have a3n : decide (Q < V) = false := decide_eq_false (by omega)
                  have a4 : ¬ Q < V := by omega
                  have mu : IntKind.u64.wrap ((V : Int) * 10) = (V : Int) * 10 := by rw [IntWalk.u64_in] <;> omega
                  have su : IntKind.u64.wrap ((V : Int) * 10 + (m : Int)) = ((V * 10 + m : Nat) : Int) := by rw [IntWalk.u64_in] <;> omega
                  have HR := hide (show d ≤ j + 1 ∧ j + 1 ≤ t.size ∧ (∀ k, d ≤ k → k < j + 1 → digC (byteAt t k) = true) ∧ numD t d (j + 1) ≤ 9223372036854775808 ∧ (V : Int) * 10 + (m : Int) = (numD t d (j + 1) : Int) from ⟨by omega, by omega, (fun k h1 h2 => by
                    by_cases e : k = j
                    · rw [e]; exact unhide Hbd
                    · exact unhide HA k h1 (by omega)), by rw [hnx]; exact hov, by rw [hnx]; omega⟩)
                  clear hnx hQ hov rg hm hle
                  go_wp2_with fail
                  exact ⟨⟨j + 1, by go_num, (unhide HR).1, (unhide HR).2.1, (unhide HR).2.2.1, (unhide HR).2.2.2.1, by rw [(unhide HR).2.2.2.2], trivial⟩, by simp [intOf]; omega⟩
                · have a2 : decide ((V : Int) > (Q : Int)) = true := decide_eq_true (by omega)
                  have a3 : decide ((Q : Int) < (V : Int)) = true := decide_eq_true (by omega)
                  have a3n : decide (Q < V) = true := decide_eq_true (by omega)
                  have a4 : Q < V := by omega
                  have hfin : tokA t i = none := by
                    have h1 := run_over (t := t) (d := d) (j := j + 1) (by omega) (by omega) (fun k h1 h2 => by
                      by_cases e : k = j
                      · rw [e]; exact unhide Hbd
                      · exact unhide HA k h1 (by omega))
                    have h2 := numD_mono (t := t) (i := d) h1
                    rw [unhide HK _ rfl, if_neg (by omega)]
                  have HE := hide ((unhide HI).fail ht hil (unhide Hbb) hfin)
                  clear hnx hQ hov rg hm hle hfin own1
                  go_wp2_with fail
                  go_ret2
                  exact unhide HE
              | false =>
                have hrj := run_here hdj hjs (unhide HA) (.inr (unhide Hbd))
                have hk := unhide HK j hrj
                rw [unhide HV, if_pos hle] at hk
                clear hrj
                by_cases hV2 : V = 9223372036854775808
                · have hk : tokA t i = some (.num (-9223372036854775808), j) := by rw [hk, hV2]; rfl
                  subst hV2
                  have vl := wrapTop
                  have HX := hide (show tokA t i = some (.num (-9223372036854775808), j) from hk)
                  go_wp2_with (at_builtin; refine wpList_append2 _ rfl _ _ 320 rfl 329 i0 _ 3 32 Tryz.underlying320 hi0 hz0 hz1 hz2 rfl (by decide) _ _ _ rfl (own1.alloc _) ⟨wr.heap.size, 0, none⟩ 1 1 [.int .i64 2, .string ⟨#[]⟩, .int .i64 (-9223372036854775808)] rfl rfl ?ap31 ?ap32 ?ap33 ?ap34 ?_)
                  (try case ap31 => exact news_ok _ [.int .i64 2, .string ⟨#[]⟩, .int .i64 (-9223372036854775808)] 329 _ rfl)
                  (try case ap32 => first | rfl | exact ⟨rfl, rfl, rfl⟩ | (intro u hu; simp at hu; rcases hu with rfl | rfl | rfl <;> rfl))
                  (try case ap33 => unfold maxLen; omega)
                  (try case ap34 => omega)
                  intro v' w9 hown hgrow hwhere
                  have HN := hide (TksI.push (x := .num (-9223372036854775808)) (j := j) (unhide HG).1 (unhide HG).2.1 (unhide HG).2.2 hil (unhide Hbb) (unhide HX) (by rw [unhide Hln]) hown hgrow hwhere)
                  have hje := tokA_end hil (unhide HX)
                  simp only at hje
                  obtain ⟨va, vc, hv'⟩ := ownsRow_shape hown
                  rw [hv'] at HN ⊢
                  clear hown hgrow hwhere own1 hv'
                  go_wp2_with fail
                  go_roundw
                  case rel => exact ⟨j, rfl, by omega, unhide HN⟩
                  case measure => simp [intOf]; omega
                · have vI2 : (V : Int) ≤ 9223372036854775807 := by omega
                  clear vI hle hV2
                  have HX := hide (show tokA t i = some (.num (-(V : Int)), j) from hk)
                  go_wp2_with (at_builtin; refine wpList_append2 _ rfl _ _ 320 rfl 329 i0 _ 3 32 Tryz.underlying320 hi0 hz0 hz1 hz2 rfl (by decide) _ _ _ rfl (own1.alloc _) ⟨wr.heap.size, 0, none⟩ 1 1 [.int .i64 2, .string ⟨#[]⟩, .int .i64 (-(V : Int))] rfl rfl ?ap41 ?ap42 ?ap43 ?ap44 ?_)
                  (try case ap41 => exact news_ok _ [.int .i64 2, .string ⟨#[]⟩, .int .i64 (-(V : Int))] 329 _ rfl)
                  (try case ap42 => first | rfl | exact ⟨rfl, rfl, rfl⟩ | (intro u hu; simp at hu; rcases hu with rfl | rfl | rfl <;> rfl))
                  (try case ap43 => unfold maxLen; omega)
                  (try case ap44 => omega)
                  intro v' w9 hown hgrow hwhere
                  have HN := hide (TksI.push (x := .num (-(V : Int))) (j := j) (unhide HG).1 (unhide HG).2.1 (unhide HG).2.2 hil (unhide Hbb) (unhide HX) (by rw [unhide Hln]) hown hgrow hwhere)
                  have hje := tokA_end hil (unhide HX)
                  simp only at hje
                  obtain ⟨va, vc, hv'⟩ := ownsRow_shape hown
                  rw [hv'] at HN ⊢
                  clear hown hgrow hwhere own1 hv'
                  go_wp2_with fail
                  go_roundw
                  case rel => exact ⟨j, rfl, by omega, unhide HN⟩
                  case measure => simp [intOf]; omega
            · have b1 : decide ((j : Int) < (t.size : Int)) = false := decide_eq_false (by omega)
              have b1p : ¬ (j : Int) < (t.size : Int) := by omega
              have hrj := run_here hdj hjs (unhide HA) (.inl (by omega))
              have hk := unhide HK j hrj
              rw [unhide HV, if_pos hle] at hk
              clear hrj
              by_cases hV2 : V = 9223372036854775808
              · have hk : tokA t i = some (.num (-9223372036854775808), j) := by rw [hk, hV2]; rfl
                subst hV2
                have vl := wrapTop
                have HX := hide (show tokA t i = some (.num (-9223372036854775808), j) from hk)
                go_wp2_with (at_builtin; refine wpList_append2 _ rfl _ _ 320 rfl 329 i0 _ 3 32 Tryz.underlying320 hi0 hz0 hz1 hz2 rfl (by decide) _ _ _ rfl (own1.alloc _) ⟨wr.heap.size, 0, none⟩ 1 1 [.int .i64 2, .string ⟨#[]⟩, .int .i64 (-9223372036854775808)] rfl rfl ?ap51 ?ap52 ?ap53 ?ap54 ?_)
                (try case ap51 => exact news_ok _ [.int .i64 2, .string ⟨#[]⟩, .int .i64 (-9223372036854775808)] 329 _ rfl)
                (try case ap52 => first | rfl | exact ⟨rfl, rfl, rfl⟩ | (intro u hu; simp at hu; rcases hu with rfl | rfl | rfl <;> rfl))
                (try case ap53 => unfold maxLen; omega)
                (try case ap54 => omega)
                intro v' w9 hown hgrow hwhere
                have HN := hide (TksI.push (x := .num (-9223372036854775808)) (j := j) (unhide HG).1 (unhide HG).2.1 (unhide HG).2.2 hil (unhide Hbb) (unhide HX) (by rw [unhide Hln]) hown hgrow hwhere)
                have hje := tokA_end hil (unhide HX)
                simp only at hje
                obtain ⟨va, vc, hv'⟩ := ownsRow_shape hown
                rw [hv'] at HN ⊢
                clear hown hgrow hwhere own1 hv'
                go_wp2_with fail
                go_roundw
                case rel => exact ⟨j, rfl, by omega, unhide HN⟩
                case measure => simp [intOf]; omega
              · have vI2 : (V : Int) ≤ 9223372036854775807 := by omega
                clear vI hle hV2
                have HX := hide (show tokA t i = some (.num (-(V : Int)), j) from hk)
                go_wp2_with (at_builtin; refine wpList_append2 _ rfl _ _ 320 rfl 329 i0 _ 3 32 Tryz.underlying320 hi0 hz0 hz1 hz2 rfl (by decide) _ _ _ rfl (own1.alloc _) ⟨wr.heap.size, 0, none⟩ 1 1 [.int .i64 2, .string ⟨#[]⟩, .int .i64 (-(V : Int))] rfl rfl ?ap61 ?ap62 ?ap63 ?ap64 ?_)
                (try case ap61 => exact news_ok _ [.int .i64 2, .string ⟨#[]⟩, .int .i64 (-(V : Int))] 329 _ rfl)
                (try case ap62 => first | rfl | exact ⟨rfl, rfl, rfl⟩ | (intro u hu; simp at hu; rcases hu with rfl | rfl | rfl <;> rfl))
                (try case ap63 => unfold maxLen; omega)
                (try case ap64 => omega)
                intro v' w9 hown hgrow hwhere
                have HN := hide (TksI.push (x := .num (-(V : Int))) (j := j) (unhide HG).1 (unhide HG).2.1 (unhide HG).2.2 hil (unhide Hbb) (unhide HX) (by rw [unhide Hln]) hown hgrow hwhere)
                have hje := tokA_end hil (unhide HX)
                simp only at hje
                obtain ⟨va, vc, hv'⟩ := ownsRow_shape hown
                rw [hv'] at HN ⊢
                clear hown hgrow hwhere own1 hv'
                go_wp2_with fail
                go_roundw
                case rel => exact ⟨j, rfl, by omega, unhide HN⟩
                case measure => simp [intOf]; omega
      · have e45 : ((c : Int) == 45) = false := by simp; omega
        as_aux_lemma =>
          obtain ⟨d, hd⟩ : ∃ d, d = i := ⟨_, rfl⟩
          have HK := hide (show ∀ j : Nat, run digC t d = j → tokA t i = (if numD t d j ≤ 9223372036854775807 then some (.num ((numD t d j : Int)), j) else none) from by
            intro j hj
            rw [hd] at hj ⊢
            rw [unhide HNA]
            unfold numA
            rw [if_neg (show ¬ byteAt t i = 45 by rw [unhide Hc]; exact h45), hj])
          clear h45
          have hds : d ≤ t.size := by omega
          have Hd := hide hd
          have hdi : i ≤ d := by omega
          go_upto_region 23 with fail
          go_loopw [5, 10, 11] (fun av cv _ wq => ∃ j : Nat, av = .int .i64 (j : Int) ∧ d ≤ j ∧ j ≤ t.size ∧ (∀ k, d ≤ k → k < j → digC (byteAt t k) = true) ∧ numD t d j ≤ 9223372036854775807 ∧ cv = .int .u64 (numD t d j : Int) ∧ wr = wq) (fun av _ _ _ => t.size + 1 - (intOf av).toNat)
          case atStart => exact ⟨d, by rw [unhide Hd], Nat.le_refl _, hds, fun k h1 h2 => by omega, by rw [numD_nil]; omega, by rw [numD_nil]; rfl, rfl⟩
          case round =>
            obtain ⟨j, rfl, hdj, hjs, hall, hle, rfl, hwr⟩ := hrel
            subst hwr
            have HA := hide hall
            obtain ⟨V, hV⟩ : ∃ V, numD t d j = V := ⟨_, rfl⟩
            rw [hV] at hle ⊢
            have HV := hide hV
            clear hall hV
            have vI : (V : Int) ≤ 9223372036854775807 := by omega
            have vc : IntKind.i64.wrap (V : Int) = (V : Int) := by rw [IntWalk.i64_in] <;> omega
            by_cases hjl : j < t.size
            · have b1 : decide ((j : Int) < (t.size : Int)) = true := decide_eq_true (by omega)
              have b1p : (j : Int) < (t.size : Int) := by omega
              have hb2 : (t[j].toNat : Int) = ((byteAt t j : Nat) : Int) := byteAt_idx t j hjl
              obtain ⟨x, hx⟩ : ∃ c, byteAt t j = c := ⟨_, rfl⟩
              rw [hx] at hb2
              have CD := smdigit_any x wr
              obtain ⟨bd, hbd⟩ : ∃ b, digC x = b := ⟨_, rfl⟩
              rw [hbd] at CD
              have CD := hide CD
              have Hbd := hide (show digC (byteAt t j) = bd by rw [hx]; exact hbd)
              have Hx := hide (And.intro hx hbd)
              clear hx hbd
              go_wp2_with fail
              refine (unhide CD).mono ?_
              rintro e w2 ⟨rfl, rfl⟩
              clear CD
              cases bd with
              | true =>
                have rg := dig_rng (unhide Hx).2
                have hnx : numD t d (j + 1) = V * 10 + (x - 48) := by rw [numD_step hdj, unhide HV, (unhide Hx).1]
                obtain ⟨m, hm⟩ : ∃ m, x - 48 = m := ⟨_, rfl⟩
                rw [hm] at hnx
                have m9 : m ≤ 9 := by omega
                have cw : IntKind.u8.wrap ((x : Int) - 48) = (m : Int) := by rw [IntKind.wrap_u8]; omega
                have mw : IntKind.u64.wrap (m : Int) = (m : Int) := by rw [IntWalk.u64_in] <;> omega
                have sw : IntKind.u64.wrap (9223372036854775807 - (m : Int)) = 9223372036854775807 - (m : Int) := by rw [IntWalk.u64_in] <;> omega
                obtain ⟨Q, hQ⟩ : ∃ Q, (9223372036854775807 - m) / 10 = Q := ⟨_, rfl⟩
                have hq : (9223372036854775807 - (m : Int)).tdiv 10 = (Q : Int) := by
                  rw [Int.tdiv_eq_ediv_of_nonneg (by omega)]
                  omega
                have hq2 : (9223372036854775807 - (m : Int)) / 10 = (Q : Int) := by omega
                have Q9 : (Q : Int) ≤ 922337203685477580 := by omega
                have mI : (m : Int) ≤ 9 := by omega
                have qw : IntKind.u64.wrap (Q : Int) = (Q : Int) := by rw [IntWalk.u64_in] <;> omega
                by_cases hov : V * 10 + m ≤ 9223372036854775807
                · have a2 : decide ((V : Int) > (Q : Int)) = false := decide_eq_false (by omega)
                  have a3 : decide ((Q : Int) < (V : Int)) = false := decide_eq_false (by omega)
                  have a3n : decide (Q < V) = false := decide_eq_false (by omega)
                  have a4 : ¬ Q < V := by omega
                  have mu : IntKind.u64.wrap ((V : Int) * 10) = (V : Int) * 10 := by rw [IntWalk.u64_in] <;> omega
                  have su : IntKind.u64.wrap ((V : Int) * 10 + (m : Int)) = ((V * 10 + m : Nat) : Int) := by rw [IntWalk.u64_in] <;> omega
                  have HR := hide (show d ≤ j + 1 ∧ j + 1 ≤ t.size ∧ (∀ k, d ≤ k → k < j + 1 → digC (byteAt t k) = true) ∧ numD t d (j + 1) ≤ 9223372036854775807 ∧ (V : Int) * 10 + (m : Int) = (numD t d (j + 1) : Int) from ⟨by omega, by omega, (fun k h1 h2 => by
                    by_cases e : k = j
                    · rw [e]; exact unhide Hbd
                    · exact unhide HA k h1 (by omega)), by rw [hnx]; exact hov, by rw [hnx]; omega⟩)
                  clear hnx hQ hov rg hm hle
                  go_wp2_with fail
                  exact ⟨⟨j + 1, by go_num, (unhide HR).1, (unhide HR).2.1, (unhide HR).2.2.1, (unhide HR).2.2.2.1, by rw [(unhide HR).2.2.2.2], trivial⟩, by simp [intOf]; omega⟩
                · have a2 : decide ((V : Int) > (Q : Int)) = true := decide_eq_true (by omega)
                  have a3 : decide ((Q : Int) < (V : Int)) = true := decide_eq_true (by omega)
                  have a3n : decide (Q < V) = true := decide_eq_true (by omega)
                  have a4 : Q < V := by omega
                  have hfin : tokA t i = none := by
                    have h1 := run_over (t := t) (d := d) (j := j + 1) (by omega) (by omega) (fun k h1 h2 => by
                      by_cases e : k = j
                      · rw [e]; exact unhide Hbd
                      · exact unhide HA k h1 (by omega))
                    have h2 := numD_mono (t := t) (i := d) h1
                    rw [unhide HK _ rfl, if_neg (by omega)]
                  have HE := hide ((unhide HI).fail ht hil (unhide Hbb) hfin)
                  clear hnx hQ hov rg hm hle hfin own1
                  go_wp2_with fail
                  go_ret2
                  exact unhide HE
              | false =>
                have hrj := run_here hdj hjs (unhide HA) (.inr (unhide Hbd))
                have hk := unhide HK j hrj
                rw [unhide HV, if_pos hle] at hk
                clear hrj
                have HX := hide (show tokA t i = some (.num ((V : Int)), j) from hk)
                go_wp2_with (at_builtin; refine wpList_append2 _ rfl _ _ 320 rfl 329 i0 _ 3 32 Tryz.underlying320 hi0 hz0 hz1 hz2 rfl (by decide) _ _ _ rfl (own1.alloc _) ⟨wr.heap.size, 0, none⟩ 1 1 [.int .i64 2, .string ⟨#[]⟩, .int .i64 ((V : Int))] rfl rfl ?ap71 ?ap72 ?ap73 ?ap74 ?_)
                (try case ap71 => exact news_ok _ [.int .i64 2, .string ⟨#[]⟩, .int .i64 ((V : Int))] 329 _ rfl)
                (try case ap72 => first | rfl | exact ⟨rfl, rfl, rfl⟩ | (intro u hu; simp at hu; rcases hu with rfl | rfl | rfl <;> rfl))
                (try case ap73 => unfold maxLen; omega)
                (try case ap74 => omega)
                intro v' w9 hown hgrow hwhere
                have HN := hide (TksI.push (x := .num ((V : Int))) (j := j) (unhide HG).1 (unhide HG).2.1 (unhide HG).2.2 hil (unhide Hbb) (unhide HX) (by rw [unhide Hln]) hown hgrow hwhere)
                have hje := tokA_end hil (unhide HX)
                simp only at hje
                obtain ⟨va, vc, hv'⟩ := ownsRow_shape hown
                rw [hv'] at HN ⊢
                clear hown hgrow hwhere own1 hv'
                go_wp2_with fail
                go_roundw
                case rel => exact ⟨j, rfl, by omega, unhide HN⟩
                case measure => simp [intOf]; omega
            · have b1 : decide ((j : Int) < (t.size : Int)) = false := decide_eq_false (by omega)
              have b1p : ¬ (j : Int) < (t.size : Int) := by omega
              have hrj := run_here hdj hjs (unhide HA) (.inl (by omega))
              have hk := unhide HK j hrj
              rw [unhide HV, if_pos hle] at hk
              clear hrj
              have HX := hide (show tokA t i = some (.num ((V : Int)), j) from hk)
              go_wp2_with (at_builtin; refine wpList_append2 _ rfl _ _ 320 rfl 329 i0 _ 3 32 Tryz.underlying320 hi0 hz0 hz1 hz2 rfl (by decide) _ _ _ rfl (own1.alloc _) ⟨wr.heap.size, 0, none⟩ 1 1 [.int .i64 2, .string ⟨#[]⟩, .int .i64 ((V : Int))] rfl rfl ?ap81 ?ap82 ?ap83 ?ap84 ?_)
              (try case ap81 => exact news_ok _ [.int .i64 2, .string ⟨#[]⟩, .int .i64 ((V : Int))] 329 _ rfl)
              (try case ap82 => first | rfl | exact ⟨rfl, rfl, rfl⟩ | (intro u hu; simp at hu; rcases hu with rfl | rfl | rfl <;> rfl))
              (try case ap83 => unfold maxLen; omega)
              (try case ap84 => omega)
              intro v' w9 hown hgrow hwhere
              have HN := hide (TksI.push (x := .num ((V : Int))) (j := j) (unhide HG).1 (unhide HG).2.1 (unhide HG).2.2 hil (unhide Hbb) (unhide HX) (by rw [unhide Hln]) hown hgrow hwhere)
              have hje := tokA_end hil (unhide HX)
              simp only at hje
              obtain ⟨va, vc, hv'⟩ := ownsRow_shape hown
              rw [hv'] at HN ⊢
              clear hown hgrow hwhere own1 hv'
              go_wp2_with fail
              go_roundw
              case rel => exact ⟨j, rfl, by omega, unhide HN⟩
              case measure => simp [intOf]; omega
    | false =>
    have hnA : tokA t i = (if byteAt t i = 39 then (if run nquC t (i + 1) < t.size then some (.str (t.extract (i + 1) (run nquC t (i + 1))), run nquC t (i + 1) + 1) else none) else if two t i = true then some (.sign (t.extract i (i + 2)), i + 2) else if oneC (byteAt t i) = true then some (.sign (t.extract i (i + 1)), i + 1) else none) := by unfold tokA; rw [if_neg (by rw [unhide Hbl]; decide), if_neg (by rw [unhide Hbn]; decide)]
    have HNA := hide hnA
    clear hnA
    by_cases h39 : c = 39
    case pos =>
      as_aux_lemma =>
        have e39 : ((c : Int) == 39) = true := by simp; omega
        have iw : IntKind.i64.wrap ((i : Int) + 1) = ((i + 1 : Nat) : Int) := by rw [IntWalk.i64_in] <;> omega
        have h39b : byteAt t i = 39 := by rw [unhide Hc]; exact h39
        have H39 := hide h39b
        clear h39 h39b
        go_upto_region 35 with fail
        go_loopw [13] (fun ev wq => ∃ z : Nat, ev = .int .i64 (z : Int) ∧ i + 1 ≤ z ∧ z ≤ t.size ∧ (∀ k, i + 1 ≤ k → k < z → nquC (byteAt t k) = true) ∧ wr = wq) (fun ev _ => t.size + 1 - (intOf ev).toNat)
        case atStart => exact ⟨i + 1, by go_num, Nat.le_refl _, by omega, fun k h1 h2 => by omega, rfl⟩
        case round =>
          obtain ⟨z, rfl, hiz, hzs, hall, hwr⟩ := hrel
          subst hwr
          have HA2 := hide hall
          clear hall
          have iz : (i : Int) + 1 ≤ (z : Int) := by omega
          have zs : (z : Int) ≤ (t.size : Int) := by omega
          by_cases hzl : z < t.size
          · have b1 : decide ((z : Int) < (t.size : Int)) = true := decide_eq_true (by omega)
            have b1p : (z : Int) < (t.size : Int) := by omega
            have b1n : decide ((z : Int) ≥ (t.size : Int)) = false := decide_eq_false (by omega)
            have b1m : decide ((t.size : Int) ≤ (z : Int)) = false := decide_eq_false (by omega)
            have hb2 : (t[z].toNat : Int) = ((byteAt t z : Nat) : Int) := byteAt_idx t z hzl
            obtain ⟨d, hd⟩ : ∃ c, byteAt t z = c := ⟨_, rfl⟩
            rw [hd] at hb2
            by_cases hq : d = 39
            · have e2 : ((d : Int) != 39) = false := by simp; omega
              have hst := run_stop hiz hzs (unhide HA2) (.inr (show nquC (byteAt t z) = false by unfold nquC; rw [hd]; exact decide_eq_false (fun c => c hq)))
              have hk : tokA t i = some (.str (t.extract (i + 1) z), z + 1) := by rw [unhide HNA, if_pos (unhide H39), hst, if_pos hzl]
              clear hst hd hq
              have HX := hide (show tokA t i = some (.str (t.extract (i + 1) z), z + 1) from hk)
              go_wp2_with (at_builtin; refine wpList_append2 _ rfl _ _ 320 rfl 329 i0 _ 3 32 Tryz.underlying320 hi0 hz0 hz1 hz2 rfl (by decide) _ _ _ rfl (own1.alloc _) ⟨wr.heap.size, 0, none⟩ 1 1 [.int .i64 3, .string (t.extract (i + 1) z), .int .i64 0] rfl rfl ?ap91 ?ap92 ?ap93 ?ap94 ?_)
              (try case ap91 => exact news_ok _ [.int .i64 3, .string (t.extract (i + 1) z), .int .i64 0] 329 _ rfl)
              (try case ap92 => first | rfl | exact ⟨rfl, rfl, rfl⟩ | (intro u hu; simp at hu; rcases hu with rfl | rfl | rfl <;> rfl))
              (try case ap93 => unfold maxLen; omega)
              (try case ap94 => omega)
              intro v' w9 hown hgrow hwhere
              have HN := hide (TksI.push (x := .str (t.extract (i + 1) z)) (j := z + 1) (unhide HG).1 (unhide HG).2.1 (unhide HG).2.2 hil (unhide Hbb) (unhide HX) (by rw [unhide Hln]) hown hgrow hwhere)
              have hje := tokA_end hil (unhide HX)
              simp only at hje
              obtain ⟨va, vc, hv'⟩ := ownsRow_shape hown
              rw [hv'] at HN ⊢
              clear hown hgrow hwhere own1 hv'
              go_wp2_with fail
              go_roundw
              case rel => exact ⟨z + 1, by go_num, by omega, unhide HN⟩
              case measure => simp [intOf]; omega
            · have e2 : ((d : Int) != 39) = true := by simp; omega
              have HR := hide (show ∀ k, i + 1 ≤ k → k < z + 1 → nquC (byteAt t k) = true from fun k h1 h2 => by
                by_cases e : k = z
                · rw [e]; unfold nquC; rw [hd]; exact decide_eq_true hq
                · exact unhide HA2 k h1 (by omega))
              clear hd hq
              go_wp2_with fail
              exact ⟨⟨z + 1, by go_num, by omega, by omega, unhide HR, trivial⟩, by simp [intOf]; omega⟩
          · have b1 : decide ((z : Int) < (t.size : Int)) = false := decide_eq_false (by omega)
            have b1p : ¬ (z : Int) < (t.size : Int) := by omega
            have b1n : decide ((z : Int) ≥ (t.size : Int)) = true := decide_eq_true (by omega)
            have b1m : decide ((t.size : Int) ≤ (z : Int)) = true := decide_eq_true (by omega)
            have hst := run_stop hiz hzs (unhide HA2) (.inl (by omega))
            have hk : tokA t i = none := by rw [unhide HNA, if_pos (unhide H39), hst, if_neg hzl]
            have HE := hide ((unhide HI).fail ht hil (unhide Hbb) hk)
            clear hst hk own1
            go_wp2_with fail
            go_ret2
            exact unhide HE
    have e39 : ((c : Int) == 39) = false := by simp; omega
    have hnA : tokA t i = (if two t i = true then some (.sign (t.extract i (i + 2)), i + 2) else if oneC (byteAt t i) = true then some (.sign (t.extract i (i + 1)), i + 1) else none) := by rw [unhide HNA, if_neg (by rw [unhide Hc]; exact h39)]
    have HN2 := hide hnA
    clear hnA HNA h39
    obtain ⟨bt, hbt⟩ : ∃ b, two t i = b := ⟨_, rfl⟩
    have Hbt := hide hbt
    go_upto_region 41 with fail
    go_cut [164] from 141 to 163 (fun bv wx => bv = .bool bt ∧ wr = wx)
    case first =>
      obtain ⟨d0, hd0⟩ : ∃ b, decide (c = 60) = b := ⟨_, rfl⟩
      obtain ⟨d1, hd1⟩ : ∃ b, decide (c = 62) = b := ⟨_, rfl⟩
      obtain ⟨d2, hd2⟩ : ∃ b, decide (c = 33) = b := ⟨_, rfl⟩
      have ee0 : ((c : Int) == 60) = d0 := by rw [← hd0, Bool.eq_iff_iff]; simp; omega
      have ee1 : ((c : Int) == 62) = d1 := by rw [← hd1, Bool.eq_iff_iff]; simp; omega
      have ee2 : ((c : Int) == 33) = d2 := by rw [← hd2, Bool.eq_iff_iff]; simp; omega
      have htw : twoC (byteAt t i) = (d0 || d1 || d2) := by rw [unhide Hc]; unfold twoC; rw [hd0, hd1, hd2]
      have iw : IntKind.i64.wrap ((i : Int) + 1) = ((i + 1 : Nat) : Int) := by rw [IntWalk.i64_in] <;> omega
      by_cases hn : i + 1 < t.size
      · have f1 : decide (((i : Int) + 1) < (t.size : Int)) = true := decide_eq_true (by omega)
        have f1p : (i : Int) + 1 < (t.size : Int) := by omega
        have hb2 : (t[i + 1].toNat : Int) = ((byteAt t (i + 1) : Nat) : Int) := byteAt_idx t (i + 1) hn
        obtain ⟨d, hd⟩ : ∃ c, byteAt t (i + 1) = c := ⟨_, rfl⟩
        rw [hd] at hb2
        obtain ⟨b61, h61⟩ : ∃ b, decide (d = 61) = b := ⟨_, rfl⟩
        have e61 : ((d : Int) == 61) = b61 := by rw [← h61, Bool.eq_iff_iff]; simp; omega
        have HP := hide (show ((d0 || d1 || d2) && b61) = bt by rw [← hbt]; unfold two; rw [htw, decide_eq_true hn, hd, h61]; rfl)
        clear htw hbt hd0 hd1 hd2 hd h61
        cases d0 <;> cases d1 <;> cases d2 <;> cases b61
        all_goals
          go_wp2_with fail
          go_meet
          exact ⟨by rw [← unhide HP]; rfl, rfl⟩
      · have f1 : decide (((i : Int) + 1) < (t.size : Int)) = false := decide_eq_false (by omega)
        have f1p : ¬ (i : Int) + 1 < (t.size : Int) := by omega
        have HP := hide (show false = bt by rw [← hbt]; unfold two; rw [decide_eq_false hn]; simp)
        clear htw hbt hd0 hd1 hd2
        cases d0 <;> cases d1 <;> cases d2
        all_goals
          go_wp2_with fail
          go_meet
          exact ⟨by rw [← unhide HP], rfl⟩
    case rest =>
    obtain ⟨rfl, rfl⟩ := hcut
    clear hbt
    cases bt with
    | true =>
      as_aux_lemma =>
        have hn : i + 1 < t.size := by have h := unhide Hbt; unfold two at h; simp only [Bool.and_eq_true, decide_eq_true_eq] at h; exact h.2.1
        have iw2 : IntKind.i64.wrap ((i : Int) + 2) = ((i + 2 : Nat) : Int) := by rw [IntWalk.i64_in] <;> omega
        have is2 : (i : Int) + 2 ≤ (t.size : Int) := by omega
        have HX := hide (show tokA t i = some (.sign (t.extract i (i + 2)), i + 2) from by rw [unhide HN2, if_pos (unhide Hbt)])
        go_wp2_with (at_builtin; refine wpList_append2 _ rfl _ _ 320 rfl 329 i0 _ 3 32 Tryz.underlying320 hi0 hz0 hz1 hz2 rfl (by decide) _ _ _ rfl (own1.alloc _) ⟨wr.heap.size, 0, none⟩ 1 1 [.int .i64 4, .string (t.extract i (i + 2)), .int .i64 0] rfl rfl ?ap101 ?ap102 ?ap103 ?ap104 ?_)
        (try case ap101 => exact news_ok _ [.int .i64 4, .string (t.extract i (i + 2)), .int .i64 0] 329 _ rfl)
        (try case ap102 => first | rfl | exact ⟨rfl, rfl, rfl⟩ | (intro u hu; simp at hu; rcases hu with rfl | rfl | rfl <;> rfl))
        (try case ap103 => unfold maxLen; omega)
        (try case ap104 => omega)
        intro v' w9 hown hgrow hwhere
        have HN := hide (TksI.push (x := .sign (t.extract i (i + 2))) (j := i + 2) (unhide HG).1 (unhide HG).2.1 (unhide HG).2.2 hil (unhide Hbb) (unhide HX) (by rw [unhide Hln]) hown hgrow hwhere)
        have hje := tokA_end hil (unhide HX)
        simp only at hje
        obtain ⟨va, vc, hv'⟩ := ownsRow_shape hown
        rw [hv'] at HN ⊢
        clear hown hgrow hwhere own1 hv'
        go_wp2_with fail
        go_roundw
        case rel => exact ⟨i + 2, by go_num, by omega, unhide HN⟩
        case measure => simp [intOf]; omega
    | false =>
    obtain ⟨bo, hbo⟩ : ∃ b, oneC c = b := ⟨_, rfl⟩
    have Hbo := hide (show oneC (byteAt t i) = bo by rw [unhide Hc]; exact hbo)
    go_upto_region 44 with fail
    go_cut [201] from 176 to 200 (fun bv wx => bv = .bool bo ∧ wr = wx)
    case first =>
      obtain ⟨d0, hd0⟩ : ∃ b, decide (c = 40) = b := ⟨_, rfl⟩
      obtain ⟨d1, hd1⟩ : ∃ b, decide (c = 41) = b := ⟨_, rfl⟩
      obtain ⟨d2, hd2⟩ : ∃ b, decide (c = 44) = b := ⟨_, rfl⟩
      obtain ⟨d3, hd3⟩ : ∃ b, decide (c = 42) = b := ⟨_, rfl⟩
      obtain ⟨d4, hd4⟩ : ∃ b, decide (c = 61) = b := ⟨_, rfl⟩
      obtain ⟨d5, hd5⟩ : ∃ b, decide (c = 60) = b := ⟨_, rfl⟩
      obtain ⟨d6, hd6⟩ : ∃ b, decide (c = 62) = b := ⟨_, rfl⟩
      have ee0 : ((c : Int) == 40) = d0 := by rw [← hd0, Bool.eq_iff_iff]; simp; omega
      have ee1 : ((c : Int) == 41) = d1 := by rw [← hd1, Bool.eq_iff_iff]; simp; omega
      have ee2 : ((c : Int) == 44) = d2 := by rw [← hd2, Bool.eq_iff_iff]; simp; omega
      have ee3 : ((c : Int) == 42) = d3 := by rw [← hd3, Bool.eq_iff_iff]; simp; omega
      have ee4 : ((c : Int) == 61) = d4 := by rw [← hd4, Bool.eq_iff_iff]; simp; omega
      have ee5 : ((c : Int) == 60) = d5 := by rw [← hd5, Bool.eq_iff_iff]; simp; omega
      have ee6 : ((c : Int) == 62) = d6 := by rw [← hd6, Bool.eq_iff_iff]; simp; omega
      have HP := hide (show (d0 || d1 || d2 || d3 || d4 || d5 || d6) = bo by rw [← hbo]; unfold oneC; rw [hd0, hd1, hd2, hd3, hd4, hd5, hd6])
      clear hbo hd0 hd1 hd2 hd3 hd4 hd5 hd6
      cases d0 with
      | true =>
        go_wp2_with fail
        go_meet
        exact ⟨by rw [← unhide HP]; simp, rfl⟩
      | false =>
      cases d1 with
      | true =>
        go_wp2_with fail
        go_meet
        exact ⟨by rw [← unhide HP]; simp, rfl⟩
      | false =>
      cases d2 with
      | true =>
        go_wp2_with fail
        go_meet
        exact ⟨by rw [← unhide HP]; simp, rfl⟩
      | false =>
      cases d3 with
      | true =>
        go_wp2_with fail
        go_meet
        exact ⟨by rw [← unhide HP]; simp, rfl⟩
      | false =>
      cases d4 with
      | true =>
        go_wp2_with fail
        go_meet
        exact ⟨by rw [← unhide HP]; simp, rfl⟩
      | false =>
      cases d5 with
      | true =>
        go_wp2_with fail
        go_meet
        exact ⟨by rw [← unhide HP]; simp, rfl⟩
      | false =>
      cases d6 with
      | true =>
        go_wp2_with fail
        go_meet
        exact ⟨by rw [← unhide HP]; simp, rfl⟩
      | false =>
      go_wp2_with fail
      go_meet
      exact ⟨by rw [← unhide HP]; rfl, rfl⟩
    case rest =>
    obtain ⟨rfl, rfl⟩ := hcut
    clear hbo
    cases bo with
    | true =>
      as_aux_lemma =>
        have iw2 : IntKind.i64.wrap ((i : Int) + 1) = ((i + 1 : Nat) : Int) := by rw [IntWalk.i64_in] <;> omega
        have is2 : (i : Int) + 1 ≤ (t.size : Int) := by omega
        have HX := hide (show tokA t i = some (.sign (t.extract i (i + 1)), i + 1) from by rw [unhide HN2, if_neg (by rw [unhide Hbt]; decide), if_pos (unhide Hbo)])
        go_wp2_with (at_builtin; refine wpList_append2 _ rfl _ _ 320 rfl 329 i0 _ 3 32 Tryz.underlying320 hi0 hz0 hz1 hz2 rfl (by decide) _ _ _ rfl (own1.alloc _) ⟨wr.heap.size, 0, none⟩ 1 1 [.int .i64 4, .string (t.extract i (i + 1)), .int .i64 0] rfl rfl ?ap111 ?ap112 ?ap113 ?ap114 ?_)
        (try case ap111 => exact news_ok _ [.int .i64 4, .string (t.extract i (i + 1)), .int .i64 0] 329 _ rfl)
        (try case ap112 => first | rfl | exact ⟨rfl, rfl, rfl⟩ | (intro u hu; simp at hu; rcases hu with rfl | rfl | rfl <;> rfl))
        (try case ap113 => unfold maxLen; omega)
        (try case ap114 => omega)
        intro v' w9 hown hgrow hwhere
        have HN := hide (TksI.push (x := .sign (t.extract i (i + 1))) (j := i + 1) (unhide HG).1 (unhide HG).2.1 (unhide HG).2.2 hil (unhide Hbb) (unhide HX) (by rw [unhide Hln]) hown hgrow hwhere)
        have hje := tokA_end hil (unhide HX)
        simp only at hje
        obtain ⟨va, vc, hv'⟩ := ownsRow_shape hown
        rw [hv'] at HN ⊢
        clear hown hgrow hwhere own1 hv'
        go_wp2_with fail
        go_roundw
        case rel => exact ⟨i + 1, by go_num, by omega, unhide HN⟩
        case measure => simp [intOf]; omega
    | false =>
      have hk : tokA t i = none := by rw [unhide HN2, if_neg (by rw [unhide Hbt]; decide), if_neg (by rw [unhide Hbo]; decide)]
      have HE := hide ((unhide HI).fail ht hil (unhide Hbb) hk)
      clear hk own1
      go_wp2_with fail
      go_ret2
      exact unhide HE
/-- tokens. -/
theorem smtokens_any (t : ByteArray) (w : World) : Calls Tryz.prog 263 #[.string t] w (TksP 329 t w) := by
  by_cases h : t.size ≤ 256
  · exact smtokens_short t h w
  · exact smtokens_long t h w
end Go.Proofs.Qxb6500412aGreat
