/-
  OWN WORK. THE GRAPH's MODEL: api's CopyInts, LogOf, BaseOf, Roots (written by tools/gen_hapi1.py).
-/
import Derived.Test.Qxb6500417aGreatHRch
namespace Go.Proofs.Qxb6500417aGreat
open Go.RowKit Go.PlainAid
set_option linter.unusedSimpArgs false
set_option linter.unusedVariables false

theorem IntsIn.cellAt {w : World} {v : Value} {l : List Int} (h : IntsIn w v l) {i : Nat} (hi : i < l.length) : ∃ g cap, v = .slice (some ⟨g, 0, none⟩) l.length cap ∧ g < w.heap.size ∧ w.cell? ⟨g, i, none⟩ = some (.int .i64 l[i]) := by
  obtain ⟨a, cap, rfl, h2⟩ := h
  obtain ⟨g, rfl, hc⟩ := h2 (by omega)
  exact ⟨g, cap, rfl, World.block_lt_of_cell? w _ (hc i hi), hc i hi⟩
theorem RefsIn.cellAt {w : World} {v : Value} {l : List Rf} (h : RefsIn w v l) {i : Nat} (hi : i < l.length) : ∃ g cap, v = .slice (some ⟨g, 0, none⟩) l.length cap ∧ g < w.heap.size ∧ w.cell? ⟨g, i * 2, none⟩ = some (.string l[i].name) ∧ w.cell? ⟨g, i * 2 + 1, none⟩ = some (.int .i64 (l[i].seq : Int)) := by
  obtain ⟨a, cap, rfl, h2⟩ := h
  obtain ⟨g, rfl, hc⟩ := h2 (by omega)
  exact ⟨g, cap, rfl, World.block_lt_of_cell? w _ (hc i hi).1, hc i hi⟩
theorem NodesIn.cellAt {H : Nat → Prop} {w : World} {v : Value} {l : List Nd} (h : NodesIn H w v l) {i : Nat} (hi : i < l.length) : ∃ g cap, v = .slice (some ⟨g, 0, none⟩) l.length cap ∧ g < w.heap.size ∧ NdAt H w g (i * 4) l[i] := by
  obtain ⟨a, cap, rfl, h2⟩ := h
  obtain ⟨g, rfl, _, hc⟩ := h2 (by omega)
  exact ⟨g, cap, rfl, World.block_lt_of_cell? w _ (hc i hi).sq, hc i hi⟩
theorem IntsIn.shape {w : World} {v : Value} {l : List Int} (h : IntsIn w v l) : ∃ a cap, v = .slice a l.length cap := by
  obtain ⟨a, cap, rfl, _⟩ := h; exact ⟨a, cap, rfl⟩
theorem RefsIn.shape {w : World} {v : Value} {l : List Rf} (h : RefsIn w v l) : ∃ a cap, v = .slice a l.length cap := by
  obtain ⟨a, cap, rfl, _⟩ := h; exact ⟨a, cap, rfl⟩
theorem NodesIn.shape {H : Nat → Prop} {w : World} {v : Value} {l : List Nd} (h : NodesIn H w v l) : ∃ a cap, v = .slice a l.length cap := by
  obtain ⟨a, cap, rfl, _⟩ := h; exact ⟨a, cap, rfl⟩
theorem take_snoc {α : Type} {l : List α} {i : Nat} (h : i < l.length) : l.take i ++ [l[i]] = l.take (i + 1) := (List.take_succ_eq_append_getElem h).symm
theorem slice_eq {a a' : Option Addr} {n cap cap' : Nat} (h : Value.slice a n cap = .slice a' n cap') : a = a' ∧ cap = cap' := by simpa using h
/-- One number in an array of its own. -/
theorem one_in (w : World) (q : Int) : IntsIn (w.alloc (.cells #[.int .i64 q] 3)) (.slice (some ⟨w.heap.size, 0, none⟩) 1 1) [q] := by
  refine ⟨_, _, rfl, fun _ => ⟨_, rfl, fun i hi => ?_⟩⟩
  have h0 : i = 0 := by simp at hi; exact hi
  subst h0
  exact (Has.new w #[.int .i64 q] 3).cell 0
theorem root1_I (nodes : List Nd) (q : Int) : rootI nodes [q] = root1 nodes q := by
  funext j
  unfold rootI root1
  cases nodes[j]? <;> simp

set_option maxRecDepth 100000 in
set_option maxHeartbeats 2000000 in
theorem acopyInts_any {w : World} {v : Value} {l : List Int} (h : IntsIn w v l) (hlen : l.length ≤ 1000) :
    Calls Tryz.prog 145 #[v] w fun e w' => ∃ v', e = .returned v' ∧ II w v' l w' := by
  obtain ⟨i0, hi0, hz0, hz1, hz2⟩ := info_parts Tryz.infoIntU
  have H0 := hide h
  obtain ⟨a, cap, rfl⟩ := h.shape
  clear h
  go_enter Tryz.func145, Tryz.ntmps145
  go_wp2_with fail
  go_loopw [3, 4] (fun ov iv wr => ∃ i : Nat, i ≤ l.length ∧ iv = .int .i64 i ∧ II w ov (l.take i) wr) (fun _ iv _ => l.length - (intOf iv).toNat)
  case atStart => exact ⟨0, by omega, rfl, II.nil w⟩
  case round =>
    obtain ⟨i, hi, rfl, hM⟩ := hrel
    by_cases hil : i < l.length
    · obtain ⟨g, _, he, hgl, c0⟩ := ((unhide H0).keep hM.ho (fun _ _ h => h)).cellAt hil
      obtain ⟨rfl, rfl⟩ := slice_eq he
      have a1 : decide ((i : Int) < (l.length : Int)) = true := decide_eq_true (by omega)
      have a1n : decide (i < l.length) = true := decide_eq_true hil
      have a2 : (i : Int) < (l.length : Int) := by omega
      have hll : (l.take i).length ≤ 1000 := by rw [List.length_take]; omega
      have HM := hide hM
      have own2 : wr.ownsRow 0 3 1 _ _ _ := hM.own
      obtain ⟨oa, oc, rfl⟩ := ownsRow_shape hM.own
      have Hsn := hide (take_snoc hil)
      clear hM he
      generalize l[i] = q0 at *
      generalize l.take i = pre at *
      go_wp2_with (at_builtin; refine wpList_append2 _ rfl _ _ 91 rfl 3 i0 _ 1 8 Tryz.underlying91 hi0 hz0 hz1 hz2 rfl (by decide) _ _ _ rfl (own2.alloc _) ⟨wr.heap.size, 0, none⟩ 1 1 [.int .i64 q0] rfl rfl ?d1 ?d2 ?d3 ?d4 ?_)
      try (case d1 => exact news_ok _ _ _ _ rfl)
      case d2 => intro u hu; simp at hu; subst hu; rfl
      case d3 => unfold maxLen; omega
      case d4 => omega
      intro v7 w7 hown hgrow hwhere
      have h7 := (unhide HM).push2  hown rfl hgrow hwhere
      have H7 := hide h7
      clear hown hgrow hwhere own2 HM h7
      go_wp2_with fail
      go_roundw
      case rel => exact ⟨i + 1, by omega, by go_num, by rw [← unhide Hsn]; exact unhide H7⟩
      case measure => simp [intOf]; omega
    · have e1 : i = l.length := by omega
      subst e1
      have a1 : decide ((l.length : Int) < (l.length : Int)) = false := by simp
      rw [List.take_length] at hM
      have HM := hide hM
      clear hM
      go_wp2_with fail
      go_ret
      exact ⟨_, rfl, unhide HM⟩
set_option maxRecDepth 100000 in
set_option maxHeartbeats 4000000 in
theorem alogOf_any {H : Nat → Prop} {w : World} {v : Value} {l : List Nd} (h : NodesIn H w v l) (hl : l.length ≤ 1000) (hS : NdS l) (hp2 : ∀ x ∈ l, x.par.length ≤ 1000) (q : Int) :
    Calls Tryz.prog 156 #[v, .int .i64 q] w fun e w' => ∃ v', e = .returned v' ∧ II w v' (logD l (reachN l l.length (root1 l q)) l.length) w' := by
  obtain ⟨i0, hi0, hz0, hz1, hz2⟩ := info_parts Tryz.infoIntU
  have o1 := (Only.refl (fun _ => False) w).alloc (.cells #[.int .i64 q] 3)
  have C1 := areach_any (h.quiet o1) hl hS (one_in w q) (by simp) hp2
  rw [root1_I] at C1
  have C1 := hide C1
  have O1 := hide o1
  have H0 := hide h
  obtain ⟨a, cap, rfl⟩ := h.shape
  obtain ⟨sn, hsn⟩ : ∃ sn, reachN l l.length (root1 l q) = sn := ⟨_, rfl⟩
  rw [hsn] at C1 ⊢
  obtain ⟨R, hR⟩ : ∃ R, logD l sn l.length = R := ⟨_, rfl⟩
  rw [hR]
  have HR := hide hR
  clear h hS hp2 o1 hR hsn
  go_enter Tryz.func156, Tryz.ntmps156
  go_wp2_with fail
  refine (unhide C1).mono ?_
  rintro e w2 ⟨b, rfl, hP⟩
  have HP := hide hP
  have O2 := hide ((unhide O1).trans hP.ho (fun _ _ h => h))
  clear C1 hP O1
  go_wp2_with fail
  go_loopw [6, 7] (fun ov iv wr => ∃ (i : Nat) (pre : List Int), iv = .int .i64 ((i : Int) - 1) ∧ i ≤ l.length ∧ pre.length + i ≤ l.length ∧ pre ++ logD l sn i = R ∧ II w2 ov pre wr) (fun _ iv _ => (intOf iv + 1).toNat)
  case atStart => exact ⟨l.length, [], by first | rfl | go_num, Nat.le_refl _, by simp, by simpa using unhide HR, II.nil w2⟩
  case round =>
    clear HR
    obtain ⟨k, pre, rfl, hk, hpl, hr, hM⟩ := hrel
    by_cases h0 : k = 0
    · subst h0
      have a1 : decide ((0 : Int) ≤ ((0 : Nat) : Int) - 1) = false := by simp
      have hr' : pre = R := by
        have e : logD l sn 0 = [] := rfl
        rw [e, List.append_nil] at hr; exact hr
      subst hr'
      have HM := hide hM
      obtain ⟨oa, oc, rfl⟩ := ownsRow_shape hM.own
      clear hr hM
      go_wp2_with fail
      go_ret
      have q1 := unhide HM
      exact ⟨_, rfl, q1.own, fun y hy => by have := q1.hb y hy; have := (unhide O2).size; omega, (unhide O2).trans q1.ho (fun _ _ h => h)⟩
    · obtain ⟨i, rfl⟩ : ∃ i, k = i + 1 := ⟨k - 1, by omega⟩
      have e1 : (((i + 1 : Nat) : Int) - 1) = (i : Int) := by omega
      rw [e1]
      have a1 : decide ((0 : Int) ≤ (i : Int)) = true := by simp
      have hil : i < l.length := by omega
      have a2 : (i : Int) < (l.length : Int) := by omega
      have hO := (unhide O2).trans hM.ho (fun _ _ h => h)
      obtain ⟨g, _, he, hgl, hN⟩ := ((unhide H0).quiet hO).cellAt hil
      obtain ⟨rfl, rfl⟩ := slice_eq he
      have c0 := hN.sq
      have cs := (((unhide HP).quiet hM.ho).sn.cell i hil).1
      have hbl := ((unhide HP).quiet hM.ho).lt
      have hlo : logD l sn (i + 1) = (if sn i = true then [((l[i]).seq : Int)] else []) ++ logD l sn i := by
        show (if sn i = true then [(Go.Proofs.Qxb6500417aGreat.seqAt l i : Int)] else []) ++ logD l sn i = _
        unfold Go.Proofs.Qxb6500417aGreat.seqAt
        rw [List.getElem?_eq_getElem hil]
      rw [hlo] at hr
      have HM := hide hM
      have own2 : wr.ownsRow 0 3 1 _ _ _ := hM.own
      obtain ⟨oa, oc, rfl⟩ := ownsRow_shape hM.own
      clear hM he hN hO hlo e1
      cases hsi : sn i with
      | true =>
        rw [hsi] at cs
        rw [hsi, if_pos rfl, ← List.append_assoc] at hr
        have Hr := hide hr
        clear hr hsi
        generalize (l[i]).seq = sq at *
        go_wp2_with (at_builtin; refine wpList_append2 _ rfl _ _ 91 rfl 3 i0 _ 1 8 Tryz.underlying91 hi0 hz0 hz1 hz2 rfl (by decide) _ _ _ rfl (own2.alloc _) ⟨wr.heap.size, 0, none⟩ 1 1 [.int .i64 (sq : Int)] rfl rfl ?d1 ?d2 ?d3 ?d4 ?_)
        try (case d1 => exact news_ok _ _ _ _ rfl)
        case d2 => intro u hu; simp at hu; subst hu; rfl
        case d3 => unfold maxLen; omega
        case d4 => omega
        intro v7 w7 hown hgrow hwhere
        have h7 := (unhide HM).push2  hown rfl hgrow hwhere
        have H7 := hide h7
        clear hown hgrow hwhere own2 HM h7
        go_wp2_with fail
        go_roundw
        case rel => exact ⟨i, pre ++ [(sq : Int)], by go_num, by omega, by simp; omega, unhide Hr, unhide H7⟩
        case measure => simp [intOf]
      | false =>
        rw [hsi] at cs
        rw [hsi, if_neg (by simp), List.nil_append] at hr
        have Hr := hide hr
        clear hr hsi own2 c0
        go_wp2_with fail
        go_roundw
        case rel => exact ⟨i, pre, by go_num, by omega, by omega, unhide Hr, unhide HM⟩
        case measure => simp [intOf]
set_option maxRecDepth 100000 in
set_option maxHeartbeats 4000000 in
theorem abaseOf_any {H : Nat → Prop} {w : World} {v : Value} {l : List Nd} (h : NodesIn H w v l) (hl : l.length ≤ 1000) (hS : NdS l) (hp2 : ∀ x ∈ l, x.par.length ≤ 1000) (p q : Int) :
    Calls Tryz.prog 155 #[v, .int .i64 p, .int .i64 q] w fun e w' => e = .returned (.int .i64 (baseD l (fun j => reachN l l.length (root1 l p) j && reachN l l.length (root1 l q) j) l.length : Nat)) ∧ Only (fun _ => False) w w' := by
  have o1 := (Only.refl (fun _ => False) w).alloc (.cells #[.int .i64 p] 3)
  have C1 := areach_any (h.quiet o1) hl hS (one_in w p) (by simp) hp2
  rw [root1_I] at C1
  have C1 := hide C1
  have O1 := hide o1
  have H0 := hide h
  have HS := hide hS
  have Hp2 := hide hp2
  obtain ⟨a, cap, rfl⟩ := h.shape
  obtain ⟨sp, hsp⟩ : ∃ sn, reachN l l.length (root1 l p) = sn := ⟨_, rfl⟩
  rw [hsp] at C1 ⊢
  obtain ⟨sq, hsq⟩ : ∃ sn, reachN l l.length (root1 l q) = sn := ⟨_, rfl⟩
  rw [hsq]
  have Hsq := hide hsq
  obtain ⟨R, hR⟩ : ∃ R, baseD l (fun j => sp j && sq j) l.length = R := ⟨_, rfl⟩
  rw [hR]
  have HR := hide hR
  clear h hS hp2 o1 hR hsp hsq
  go_enter Tryz.func155, Tryz.ntmps155
  go_wp2_with fail
  refine (unhide C1).mono ?_
  rintro e w2 ⟨b, rfl, hP⟩
  have hO2 := (unhide O1).trans hP.ho (fun _ _ h => h)
  have o3 := (Only.refl (fun _ => False) w2).alloc (.cells #[.int .i64 q] 3)
  have C2 := areach_any (((unhide H0).quiet hO2).quiet o3) hl (unhide HS) (one_in w2 q) (by simp) (unhide Hp2)
  rw [root1_I, unhide Hsq] at C2
  have C2 := hide C2
  have O3 := hide (hO2.trans o3 (fun _ _ h => h))
  have HP := hide (hP.quiet o3)
  clear C1 hP O1 hO2 o3
  go_wp2_with fail
  refine (unhide C2).mono ?_
  rintro e w4 ⟨b2, rfl, hP2⟩
  have hO4 := (unhide O3).trans hP2.ho (fun _ _ h => h)
  have HN4 := hide ((unhide H0).quiet hO4)
  have HP4 := hide ((unhide HP).quiet hP2.ho)
  have HQ4 := hide hP2
  have O4 := hide hO4
  clear C2 hP2 hO4 O3 HP
  go_wp2_with fail
  go_loopw [9] (fun iv wr => ∃ (i : Nat), iv = .int .i64 ((i : Int) - 1) ∧ i ≤ l.length ∧ baseD l (fun j => sp j && sq j) i = R ∧ w4 = wr) (fun iv _ => (intOf iv + 1).toNat)
  case atStart => exact ⟨l.length, by first | rfl | go_num, Nat.le_refl _, unhide HR, rfl⟩
  case round =>
    clear HR
    obtain ⟨k, rfl, hk, hr, rfl⟩ := hrel
    by_cases h0 : k = 0
    · subst h0
      have a1 : decide ((0 : Int) ≤ ((0 : Nat) : Int) - 1) = false := by simp
      have hr' : 0 = R := hr
      subst hr'
      clear hr
      go_wp2_with fail
      go_ret
      exact ⟨rfl, unhide O4⟩
    · obtain ⟨i, rfl⟩ : ∃ i, k = i + 1 := ⟨k - 1, by omega⟩
      have e1 : (((i + 1 : Nat) : Int) - 1) = (i : Int) := by omega
      rw [e1]
      have a1 : decide ((0 : Int) ≤ (i : Int)) = true := by simp
      have hil : i < l.length := by omega
      have a2 : (i : Int) < (l.length : Int) := by omega
      obtain ⟨g, _, he, hgl, hN⟩ := (unhide HN4).cellAt hil
      obtain ⟨rfl, rfl⟩ := slice_eq he
      have c0 := hN.sq
      have cs := ((unhide HP4).sn.cell i hil).1
      have cq := ((unhide HQ4).sn.cell i hil).1
      have hlo : baseD l (fun j => sp j && sq j) (i + 1) = (if (sp i && sq i) = true then (l[i]).seq else baseD l (fun j => sp j && sq j) i) := by
        show (if (sp i && sq i) = true then Go.Proofs.Qxb6500417aGreat.seqAt l i else _) = _
        unfold Go.Proofs.Qxb6500417aGreat.seqAt
        rw [List.getElem?_eq_getElem hil]
      rw [hlo] at hr
      clear he hN hlo e1
      cases hsi : sp i with
      | true =>
        rw [hsi] at cs
        cases hqi : sq i with
        | true =>
          rw [hqi] at cq
          rw [hsi, hqi, if_pos (show (true && true) = true from rfl)] at hr
          subst hr
          clear hsi hqi
          go_wp2_with fail
          go_ret
          exact ⟨rfl, unhide O4⟩
        | false =>
          rw [hqi] at cq
          rw [hsi, hqi, if_neg (by simp)] at hr
          have Hr := hide hr
          clear hr hsi hqi c0
          go_wp2_with fail
          go_roundw
          case rel => exact ⟨i, by go_num, by omega, unhide Hr, by first | trivial | rfl⟩
          case measure => simp [intOf]
      | false =>
        rw [hsi] at cs
        rw [hsi, if_neg (by simp)] at hr
        have Hr := hide hr
        clear hr hsi c0 cq
        go_wp2_with fail
        go_roundw
        case rel => exact ⟨i, by go_num, by omega, unhide Hr, by first | trivial | rfl⟩
        case measure => simp [intOf]
end Go.Proofs.Qxb6500417aGreat
