/-
  OWN WORK. THE GRAPH's MODEL: api: Roots, CopyNode (written by tools/gen_hapi3.py).
-/
import Derived.Test.Qxb6500417aGreatHApi2
namespace Go.Proofs.Qxb6500417aGreat
open Go.RowKit Go.PlainAid
set_option linter.unusedSimpArgs false
set_option linter.unusedVariables false

def rsI (l : List Rf) : List Int := l.map (fun r => (r.seq : Int))
/-- What Roots answers. -/
def rootsI (l : List Rf) (hn : ByteArray) (hs hm : Nat) : List Int := rsI l ++ ((if hn.size = 0 then [(hs : Int)] else []) ++ (if hm ≠ 0 then [(hm : Int)] else []))
theorem rootsI_A (A : GA) : rootsI A.refs A.hn A.hs A.hm = (rootsA A).map Int.ofNat := by
  unfold rootsI rootsA rsI
  rw [List.map_append, List.map_append, List.map_map]
  congr 1
  congr 1
  · by_cases h : A.hn.size = 0
    · rw [if_pos h, if_pos h]; rfl
    · rw [if_neg h, if_neg h]; rfl
  · by_cases h : A.hm ≠ 0
    · rw [if_pos h, if_pos h]; rfl
    · rw [if_neg h, if_neg h]; rfl
theorem rootI_S (nodes : List Nd) (rs : List Nat) : rootI nodes (rs.map Int.ofNat) = rootS nodes rs := by
  funext j
  unfold rootI rootS
  cases nodes[j]? with
  | none => rfl
  | some b =>
    rw [Bool.eq_iff_iff]
    simp only [List.any_eq_true, List.mem_map, decide_eq_true_eq, List.contains_iff_mem]
    constructor
    · rintro ⟨q, ⟨n, hn, rfl⟩, e⟩
      have : b.seq = n := by have e' : (b.seq : Int) = (n : Int) := e; omega
      rw [this]; exact hn
    · intro h
      exact ⟨_, ⟨_, h, rfl⟩, rfl⟩
theorem empty_size {s : ByteArray} (h : s.size = 0) : s.toList.isEmpty = true := by
  rw [ls_toList, List.isEmpty_iff]; exact List.length_eq_zero_iff.1 (by rw [← h]; simp [ls])
theorem nonempty_size {s : ByteArray} (h : s.size ≠ 0) : s.toList.isEmpty = false := by
  rw [ls_toList]
  cases e : (ls s).isEmpty with
  | false => rfl
  | true => rw [List.isEmpty_iff] at e; exact absurd (by have := congrArg List.length e; simpa [ls] using this) h
set_option maxRecDepth 100000 in
set_option maxHeartbeats 4000000 in
theorem aroots_any {w : World} {v : Value} {l : List Rf} (h : RefsIn w v l) (hlen : l.length ≤ 1000) (hn : ByteArray) (hs hm : Nat) :
    Calls Tryz.prog 182 #[v, .agg #[.string hn, .int .i64 (hs : Int), .int .i64 (hm : Int)]] w fun e w' => ∃ v', e = .returned v' ∧ II w v' (rootsI l hn hs hm) w' := by
  obtain ⟨i0, hi0, hz0, hz1, hz2⟩ := info_parts Tryz.infoIntU
  have H0 := hide h
  obtain ⟨a, cap, rfl⟩ := h.shape
  clear h
  have o1 := (Only.refl (fun _ => False) w).alloc (.cells #[.string hn, .int .i64 (hs : Int), .int .i64 (hm : Int)] 58)
  have hA := Has.new w #[.string hn, .int .i64 (hs : Int), .int .i64 (hm : Int)] 58
  have O1 := hide o1
  have HA := hide hA
  clear o1 hA
  go_enter Tryz.func182, Tryz.ntmps182
  go_wp2_with fail
  generalize w.alloc (.cells #[.string hn, .int .i64 (hs : Int), .int .i64 (hm : Int)] 58) = w1 at *
  generalize hbb : w.heap.size = b at *
  have Hbb := hide hbb
  clear hbb
  go_loopw [5, 6] (fun ov iv wr => ∃ i : Nat, i ≤ l.length ∧ iv = .int .i64 i ∧ II w1 ov (rsI (l.take i)) wr) (fun _ iv _ => l.length - (intOf iv).toNat)
  case atStart => exact ⟨0, by omega, rfl, II.nil w1⟩
  case round =>
    obtain ⟨i, hi, rfl, hM⟩ := hrel
    have hOw := (unhide O1).trans hM.ho (fun _ _ h => h)
    by_cases hil : i < l.length
    · obtain ⟨g, _, he, hgl, c0, c1⟩ := ((unhide H0).keep hOw (fun _ _ h => h)).cellAt hil
      obtain ⟨rfl, rfl⟩ := slice_eq he
      have a1 : decide ((i : Int) < (l.length : Int)) = true := decide_eq_true (by omega)
      have a1n : decide (i < l.length) = true := decide_eq_true hil
      have a2 : (i : Int) < (l.length : Int) := by omega
      have hll : (rsI (l.take i)).length ≤ 1000 := by unfold rsI; rw [List.length_map, List.length_take]; omega
      have HM := hide hM
      have own2 : wr.ownsRow 0 3 1 _ _ _ := hM.own
      obtain ⟨oa, oc, rfl⟩ := ownsRow_shape hM.own
      have hsn : rsI (l.take (i + 1)) = rsI (l.take i) ++ [((l[i]).seq : Int)] := by rw [← take_snoc hil]; unfold rsI; rw [List.map_append]; rfl
      have Hsn := hide hsn
      clear hM he hsn c0 hOw
      generalize (l[i]).seq = q0 at *
      generalize rsI (l.take i) = pre at *
      go_wp2_with (at_builtin; refine wpList_append2 _ rfl _ _ 91 rfl 3 i0 _ 1 8 Tryz.underlying91 hi0 hz0 hz1 hz2 rfl (by decide) _ _ _ rfl (own2.alloc _) ⟨wr.heap.size, 0, none⟩ 1 1 [.int .i64 (q0 : Int)] rfl rfl ?d1 ?d2 ?d3 ?d4 ?_)
      try (case d1 => exact news_ok _ _ _ _ rfl)
      case d2 => first | (intro u hu; simp at hu; subst hu; rfl) | exact ⟨rfl, rfl⟩ | rfl
      case d3 => unfold maxLen; omega
      case d4 => omega
      intro v7 w7 hown hgrow hwhere
      have h7 := (unhide HM).push2  hown rfl hgrow hwhere
      have H7 := hide h7
      clear hown hgrow hwhere own2 h7 HM
      go_wp2_with fail
      go_roundw
      case rel => exact ⟨i + 1, by omega, by go_num, by rw [unhide Hsn]; exact unhide H7⟩
      case measure => simp [intOf]; omega
    · have e1 : i = l.length := by omega
      subst e1
      have a1 : decide ((l.length : Int) < (l.length : Int)) = false := by simp
      rw [List.take_length] at hM
      have hll : (rsI l).length ≤ 1000 := by unfold rsI; rw [List.length_map]; omega
      have hAr := (unhide HA).keep hM.ho (fun h => h)
      have k0 := hAr.cell 0
      have k1 := hAr.cell 1
      simp only [List.getElem?_toArray, List.getElem?_cons_zero, List.getElem?_cons_succ] at k0 k1
      have HM := hide hM
      have hR1 : ∀ (_ : hn.size = 0), rsI l ++ (if hn.size = 0 then [(hs : Int)] else []) = rsI l ++ [(hs : Int)] := fun e => by rw [if_pos e]
      have hR2 : ∀ (_ : hn.size ≠ 0), rsI l ++ (if hn.size = 0 then [(hs : Int)] else []) = rsI l := fun e => by rw [if_neg e, List.append_nil]
      obtain ⟨P2, hP2⟩ : ∃ P2, rsI l ++ (if hn.size = 0 then [(hs : Int)] else []) = P2 := ⟨_, rfl⟩
      have hPR : rootsI l hn hs hm = P2 ++ (if hm ≠ 0 then [(hm : Int)] else []) := by unfold rootsI; rw [← hP2, List.append_assoc]
      have hPl : P2.length ≤ 1001 := by
        rw [← hP2, List.length_append]
        split <;> simp <;> omega
      rw [hP2] at hR1 hR2
      have HR1 := hide hR1
      have HR2 := hide hR2
      have HPR := hide hPR
      clear hM hAr hR1 hR2 hPR hOw hP2
      have own2 : wr.ownsRow 0 3 1 _ _ _ := (unhide HM).own
      obtain ⟨oa, oc, rfl⟩ := ownsRow_shape (unhide HM).own
      generalize rsI l = pre at *
      go_upto_if 23 with fail
      go_cut [5] (fun v wx => II w1 v P2 wx)
      case first =>
        by_cases hz : hn.size = 0
        · have z1 := empty_size hz
          have Hz := hide (unhide HR1 hz)
          clear HR1 HR2 hz
          simp only [z1]
          go_wp2_with (at_builtin; refine wpList_append2 _ rfl _ _ 91 rfl 3 i0 _ 1 8 Tryz.underlying91 hi0 hz0 hz1 hz2 rfl (by decide) _ _ _ rfl (own2.alloc _) ⟨wr.heap.size, 0, none⟩ 1 1 [.int .i64 (hs : Int)] rfl rfl ?d1 ?d2 ?d3 ?d4 ?_)
          try (case d1 => exact news_ok _ _ _ _ rfl)
          case d2 => first | (intro u hu; simp at hu; subst hu; rfl) | exact ⟨rfl, rfl⟩ | rfl
          case d3 => unfold maxLen; omega
          case d4 => omega
          intro v7 w7 hown hgrow hwhere
          have h7 := (unhide HM).push2  hown rfl hgrow hwhere
          have H7 := hide h7
          clear hown hgrow hwhere own2 h7 HM
          go_upto_region 8 with fail
          go_meet
          case rel => rw [unhide Hz]; exact unhide H7
        · have z1 := nonempty_size hz
          have Hz := hide (unhide HR2 hz)
          clear HR1 HR2 hz own2
          simp only [z1]
          go_upto_region 8 with fail
          go_meet
          case rel => rw [unhide Hz]; exact unhide HM
      case rest =>
      clear own2 HM HR1 HR2 k0 k1
      rename World => W0
      have hAr := (unhide HA).keep hcut.ho (fun h => h)
      have k2 := hAr.cell 2
      simp only [List.getElem?_toArray, List.getElem?_cons_zero, List.getElem?_cons_succ] at k2
      have HM := hide hcut
      have own2 : W0.ownsRow 0 3 1 _ _ _ := hcut.own
      obtain ⟨oa2, oc2, rfl⟩ := ownsRow_shape hcut.own
      clear hcut hAr
      have Hfin := hide (fun (vv : Value) (ww : World) (P3 : List Int) (hh : II w1 vv P3 ww) => (show II w vv P3 ww from ⟨hh.own, fun y hy => by have := hh.hb y hy; have := (unhide O1).size; omega, (unhide O1).trans hh.ho (fun _ _ h => h)⟩))
      by_cases hz : hm = 0
      · rw [hz] at k2
        have hpr := unhide HPR
        rw [if_neg (by simp [hz]), List.append_nil] at hpr
        have Hpr := hide hpr
        clear own2 HPR hpr hz
        go_wp2_with fail
        go_ret
        exact ⟨_, rfl, by rw [unhide Hpr]; exact unhide Hfin _ _ _ (unhide HM)⟩
      · have z1 : ((hm : Int) == 0) = false := ne_intO (by omega)
        have hpr := unhide HPR
        rw [if_pos hz] at hpr
        have Hpr := hide hpr
        clear HPR hpr hz
        go_wp2_with (at_builtin; refine wpList_append2 _ rfl _ _ 91 rfl 3 i0 _ 1 8 Tryz.underlying91 hi0 hz0 hz1 hz2 rfl (by decide) _ _ _ rfl (own2.alloc _) ⟨W0.heap.size, 0, none⟩ 1 1 [.int .i64 (hm : Int)] rfl rfl ?q1 ?q2 ?q3 ?q4 ?_)
        try (case q1 => exact news_ok _ _ _ _ rfl)
        case q2 => first | (intro u hu; simp at hu; subst hu; rfl) | exact ⟨rfl, rfl⟩ | rfl
        case q3 => unfold maxLen; omega
        case q4 => omega
        intro v8 w8 hown hgrow hwhere
        have h7 := (unhide HM).push2  hown rfl hgrow hwhere
        have H8 := hide h7
        clear hown hgrow hwhere own2 h7 HM
        go_wp2_with fail
        go_ret
        exact ⟨_, rfl, by rw [unhide Hpr]; exact unhide Hfin _ _ _ (unhide H8)⟩
end Go.Proofs.Qxb6500417aGreat
