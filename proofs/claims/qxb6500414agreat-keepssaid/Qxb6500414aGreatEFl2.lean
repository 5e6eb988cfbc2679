/-
  OWN WORK. TABLE: rows, columns and keys out of a raw string.
-/
import Derived.Test.Qxb6500414aGreatEFld
import Derived.Test.Qxb6500414aGreatBPut
namespace Go.Proofs.Qxb6500414aGreat
open Go.RowKit Go.PlainAid
set_option linter.unusedSimpArgs false
set_option linter.unusedVariables false

def rowP (t : ByteArray) : List Vl := fieldsP t 4 0
def fstP (t : ByteArray) : Vl := ((fieldsP t 1 0)[0]?).getD (vI 0)
def sndP (t : ByteArray) : Vl := ((fieldsP t 2 0)[1]?).getD (vI 0)
theorem vI0_wf : (vI 0).wf := .inl ⟨rfl, rfl, by unfold In64; decide⟩
theorem rowP_wf (t : ByteArray) : ∀ v ∈ rowP t, v.wf := fieldsP_wf t 4 0
theorem fstP_wf (t : ByteArray) : (fstP t).wf := by
  unfold fstP
  cases h : (fieldsP t 1 0)[0]? with
  | none => exact vI0_wf
  | some v => exact fieldsP_wf t 1 0 v (List.mem_of_getElem? h)
theorem sndP_wf (t : ByteArray) : (sndP t).wf := by
  unfold sndP
  cases h : (fieldsP t 2 0)[1]? with
  | none => exact vI0_wf
  | some v => exact fieldsP_wf t 2 0 v (List.mem_of_getElem? h)
theorem eRowOf_any (t : ByteArray) (ht : t.size ≤ maxLen) (w : World) : Calls Tryz.prog 49 #[.string t] w fun e w' => ∃ v, e = .returned v ∧ GV w v (rowP t) w' := by
  have C1 := hide (efields_any t ht 4 (by omega) w)
  go_enter Tryz.func49, Tryz.ntmps49
  go_wp2_with fail
  refine (unhide C1).mono ?_
  rintro e w1 ⟨v, rfl, hv⟩
  go_wp2_with fail
  go_ret
  exact ⟨_, rfl, hv⟩
theorem getv_at {w : World} {v : Value} {l : List Vl} (h : OwnV w v l) {i : Nat} {x : Vl} (hx : l[i]? = some x) : ∃ g cap, v = .slice (some ⟨g, 0, none⟩) l.length cap ∧ w.cell? ⟨g, i * 3, none⟩ = some (.bool x.str) ∧ w.cell? ⟨g, i * 3 + 1, none⟩ = some (.int .i64 x.i) ∧ w.cell? ⟨g, i * 3 + 2, none⟩ = some (.string x.s) := by
  obtain ⟨a, cap, rfl⟩ := h.shape
  obtain ⟨g, rfl, h1, h2, h3⟩ := h.at_ hx
  exact ⟨g, cap, rfl, h1, h2, h3⟩
set_option maxRecDepth 100000 in
theorem eFirst_any (t : ByteArray) (ht : t.size ≤ maxLen) (w : World) : Calls Tryz.prog 53 #[.string t] w fun e w' => e = .returned (vlA (fstP t)) ∧ Only (fun _ => False) w w' := by
  have o0 : Only (fun _ => False) w (w.alloc (.cells #[.bool false, .int .i64 0, .string ⟨#[]⟩] 106)) := (Only.refl _ w).alloc _
  have N0 := Has.new w #[.bool false, .int .i64 0, .string ⟨#[]⟩] 106
  have C1 := hide (efields_any t ht 1 (by omega) (w.alloc (.cells #[.bool false, .int .i64 0, .string ⟨#[]⟩] 106)))
  have hlen := fieldsP_len t 1 0
  go_enter Tryz.func53, Tryz.ntmps53
  go_wp2_with fail
  refine (unhide C1).mono ?_
  rintro e w1 ⟨v, rfl, hv⟩
  have o1 := hv.ho
  have N1 := N0.keep o1 (fun h => h)
  by_cases hl : (fieldsP t 1 0).length < 1
  · have he : fieldsP t 1 0 = [] := List.eq_nil_of_length_eq_zero (by omega)
    obtain ⟨a, cap, rfl⟩ := ownsRow_shape hv.own
    have HE := hide (show (fieldsP t 1 0)[0]? = none from by rw [he]; rfl)
    rw [he] at hv ⊢
    have C2 := hide (eInt_any 0 w1)
    go_wp2_with fail
    refine (unhide C2).mono ?_
    rintro e w2 ⟨rfl, o2⟩
    unfold vlA
    have N2 := N1.keep o2 (fun h => h)
    have c0 := N2.cell 0
    have c1 := N2.cell 1
    have c2 := N2.cell 2
    have f0 := N2.free 0
    have f1 := N2.free 1
    have f2 := N2.free 2
    simp at c0 c1 c2
    have N3 := ((N2.setCell 0 (.bool false)).setCell 1 (.int .i64 0)).setCell 2 (.string ⟨#[]⟩)
    have o3 : Only (fun x => x = w.heap.size) w2 (((w2.setCell ⟨w.heap.size, 0, none⟩ (.bool false)).setCell ⟨w.heap.size, 1, none⟩ (.int .i64 0)).setCell ⟨w.heap.size, 2, none⟩ (.string ⟨#[]⟩)) := ((only1 _ _).trans (only1 _ _) (fun _ _ h => h)).trans (only1 _ _) (fun _ _ h => h)
    have q0 := N3.cell 0
    have q1 := N3.cell 1
    have q2 := N3.cell 2
    simp at q0 q1 q2
    have HP := hide (((o0.trans o1 (fun _ _ h => h)).trans o2 (fun _ _ h => h)).fresh o3 (Nat.le_refl _))
    clear N0 N1 N2 N3 o0 o1 o2 o3 C1 C2 hv he hlen
    unfold vI
    go_wp2_with fail
    exact bodyPost_ret (v := .agg #[.bool false, .int .i64 0, .string ⟨#[]⟩]) (by simp [results, Tryz.results53, go_sem, q0, q1, q2]) rfl ⟨by first | (unfold fstP; rw [unhide HE]; rfl) | (unfold sndP; rw [unhide HE]; rfl), unhide HP⟩
  · obtain ⟨x, hx⟩ := getE (l := fieldsP t 1 0) (i := 0) (by omega)
    have h1 : (fieldsP t 1 0).length = 1 := by omega
    obtain ⟨g, cap, rfl, e0, e1, e2⟩ := getv_at hv.own hx
    have HE := hide hx
    rw [h1]
    have hb := hv.hb g rfl
    simp at hb
    have c0 := N1.cell 0
    have c1 := N1.cell 1
    have c2 := N1.cell 2
    have f0 := N1.free 0
    have f1 := N1.free 1
    have f2 := N1.free 2
    simp at c0 c1 c2 e0 e1 e2
    have N3 := ((N1.setCell 0 (.bool x.str)).setCell 1 (.int .i64 x.i)).setCell 2 (.string x.s)
    have o3 : Only (fun x => x = w.heap.size) w1 (((w1.setCell ⟨w.heap.size, 0, none⟩ (.bool x.str)).setCell ⟨w.heap.size, 1, none⟩ (.int .i64 x.i)).setCell ⟨w.heap.size, 2, none⟩ (.string x.s)) := ((only1 _ _).trans (only1 _ _) (fun _ _ h => h)).trans (only1 _ _) (fun _ _ h => h)
    have q0 := N3.cell 0
    have q1 := N3.cell 1
    have q2 := N3.cell 2
    simp at q0 q1 q2
    have HP := hide ((o0.trans o1 (fun _ _ h => h)).fresh o3 (Nat.le_refl _))
    clear N0 N1 N3 o0 o1 o3 C1 hv hx hlen h1
    go_wp2_with fail
    exact bodyPost_ret (v := .agg #[.bool x.str, .int .i64 x.i, .string x.s]) (by simp [results, Tryz.results53, go_sem, q0, q1, q2]) rfl ⟨by first | (unfold fstP; rw [unhide HE]; rfl) | (unfold sndP; rw [unhide HE]; rfl), unhide HP⟩
set_option maxRecDepth 100000 in
theorem eSecond_any (t : ByteArray) (ht : t.size ≤ maxLen) (w : World) : Calls Tryz.prog 138 #[.string t] w fun e w' => e = .returned (vlA (sndP t)) ∧ Only (fun _ => False) w w' := by
  have o0 : Only (fun _ => False) w (w.alloc (.cells #[.bool false, .int .i64 0, .string ⟨#[]⟩] 106)) := (Only.refl _ w).alloc _
  have N0 := Has.new w #[.bool false, .int .i64 0, .string ⟨#[]⟩] 106
  have C1 := hide (efields_any t ht 2 (by omega) (w.alloc (.cells #[.bool false, .int .i64 0, .string ⟨#[]⟩] 106)))
  have hlen := fieldsP_len t 2 0
  go_enter Tryz.func138, Tryz.ntmps138
  go_wp2_with fail
  refine (unhide C1).mono ?_
  rintro e w1 ⟨v, rfl, hv⟩
  have o1 := hv.ho
  have N1 := N0.keep o1 (fun h => h)
  by_cases hl : (fieldsP t 2 0).length < 2
  · have he : (fieldsP t 2 0)[1]? = none := List.getElem?_eq_none (by omega)
    obtain ⟨a, cap, rfl⟩ := ownsRow_shape hv.own
    have HE := hide he
    have b1 : decide (((fieldsP t 2 0).length : Int) < 2) = true := decide_eq_true (by omega)
    have C2 := hide (eInt_any 0 w1)
    generalize (fieldsP t 2 0).length = n at b1 ⊢
    go_wp2_with fail
    refine (unhide C2).mono ?_
    rintro e w2 ⟨rfl, o2⟩
    unfold vlA
    have N2 := N1.keep o2 (fun h => h)
    have c0 := N2.cell 0
    have c1 := N2.cell 1
    have c2 := N2.cell 2
    have f0 := N2.free 0
    have f1 := N2.free 1
    have f2 := N2.free 2
    simp at c0 c1 c2
    have N3 := ((N2.setCell 0 (.bool false)).setCell 1 (.int .i64 0)).setCell 2 (.string ⟨#[]⟩)
    have o3 : Only (fun x => x = w.heap.size) w2 (((w2.setCell ⟨w.heap.size, 0, none⟩ (.bool false)).setCell ⟨w.heap.size, 1, none⟩ (.int .i64 0)).setCell ⟨w.heap.size, 2, none⟩ (.string ⟨#[]⟩)) := ((only1 _ _).trans (only1 _ _) (fun _ _ h => h)).trans (only1 _ _) (fun _ _ h => h)
    have q0 := N3.cell 0
    have q1 := N3.cell 1
    have q2 := N3.cell 2
    simp at q0 q1 q2
    have HP := hide (((o0.trans o1 (fun _ _ h => h)).trans o2 (fun _ _ h => h)).fresh o3 (Nat.le_refl _))
    clear N0 N1 N2 N3 o0 o1 o2 o3 C1 C2 hv he hlen
    unfold vI
    go_wp2_with fail
    exact bodyPost_ret (v := .agg #[.bool false, .int .i64 0, .string ⟨#[]⟩]) (by simp [results, Tryz.results138, go_sem, q0, q1, q2]) rfl ⟨by first | (unfold fstP; rw [unhide HE]; rfl) | (unfold sndP; rw [unhide HE]; rfl), unhide HP⟩
  · obtain ⟨x, hx⟩ := getE (l := fieldsP t 2 0) (i := 1) (by omega)
    have h1 : (fieldsP t 2 0).length = 2 := by omega
    obtain ⟨g, cap, rfl, e0, e1, e2⟩ := getv_at hv.own hx
    have HE := hide hx
    rw [h1]
    have hb := hv.hb g rfl
    simp at hb
    have c0 := N1.cell 0
    have c1 := N1.cell 1
    have c2 := N1.cell 2
    have f0 := N1.free 0
    have f1 := N1.free 1
    have f2 := N1.free 2
    simp at c0 c1 c2 e0 e1 e2
    have N3 := ((N1.setCell 0 (.bool x.str)).setCell 1 (.int .i64 x.i)).setCell 2 (.string x.s)
    have o3 : Only (fun x => x = w.heap.size) w1 (((w1.setCell ⟨w.heap.size, 0, none⟩ (.bool x.str)).setCell ⟨w.heap.size, 1, none⟩ (.int .i64 x.i)).setCell ⟨w.heap.size, 2, none⟩ (.string x.s)) := ((only1 _ _).trans (only1 _ _) (fun _ _ h => h)).trans (only1 _ _) (fun _ _ h => h)
    have q0 := N3.cell 0
    have q1 := N3.cell 1
    have q2 := N3.cell 2
    simp at q0 q1 q2
    have HP := hide ((o0.trans o1 (fun _ _ h => h)).fresh o3 (Nat.le_refl _))
    clear N0 N1 N3 o0 o1 o3 C1 hv hx hlen h1
    go_wp2_with fail
    exact bodyPost_ret (v := .agg #[.bool x.str, .int .i64 x.i, .string x.s]) (by simp [results, Tryz.results138, go_sem, q0, q1, q2]) rfl ⟨by first | (unfold fstP; rw [unhide HE]; rfl) | (unfold sndP; rw [unhide HE]; rfl), unhide HP⟩
def oddB (i : Int) : Bool := bits .and .i64 i 1 == 1
def colsF : List Vl → Bool → Nat → List Cl
  | [], _, _ => []
  | _ :: _, _, 0 => []
  | v :: r, b, k + 1 => if v.str then (v.s, b) :: colsF r false k else colsF r (oddB v.i) (k + 1)
def colsP (t : ByteArray) : List Cl := colsF (fieldsP t 8 0) false 4
theorem colsF_len : ∀ (l : List Vl) (b : Bool) (k : Nat), (colsF l b k).length ≤ k
  | [], _, _ => by simp [colsF]
  | _ :: _, _, 0 => by simp [colsF]
  | v :: r, b, k + 1 => by
    unfold colsF
    split
    · simp; exact colsF_len r false k
    · exact colsF_len r _ (k + 1)
theorem Tryz.infoECol : (Tryz.prog.info? 169).map (fun i => (i.zero, i.size, i.bytes)) = some (some (.agg #[.string ⟨#[]⟩, .bool false]), 2, 24) := by kernel_rfl
/-- A row of columns that grows. -/
def GC (w : World) (ov : Value) (l : List Cl) (wr : World) : Prop := GR 169 2 w ov l.length (ccs l) wr
theorem GC.push {w : World} {ov v' : Value} {l : List Cl} {wr w' : World} {o : Obj} {n : Nat} (h : GC w ov l wr) (x : Cl) (hown : w'.ownsRow 0 169 2 v' n (ccs l ++ [.string x.1, .bool x.2])) (hn : n = l.length + 1)
    (hgrow : (wr.alloc o).grownBy w' ov.ownBlock) (hwhere : ∀ k, v'.ownBlock = some k → ov.ownBlock = some k ∨ k = wr.heap.size + 1) : GC w v' (l ++ [x]) w' := by
  subst hn
  have := GR.push h hown hgrow hwhere
  unfold GC
  rw [ccs_app, List.length_append]
  exact this
theorem GR.trans {ty ty2 : TypeId} {k k2 : Nat} {w w1 wr : World} {ov ov2 : Value} {n n2 : Nat} {cs cs2 : List Value} (h : GR ty k w ov n cs w1) (h2 : GR ty2 k2 w1 ov2 n2 cs2 wr) : GR ty2 k2 w ov2 n2 cs2 wr :=
  ⟨h2.own, fun y hy => Nat.le_trans h.ho.size (h2.hb y hy), h.ho.trans h2.ho (fun _ _ e => e)⟩
set_option maxRecDepth 100000 in
set_option maxHeartbeats 4000000 in
theorem eColsOf_any (t : ByteArray) (ht : t.size ≤ maxLen) (w : World) : Calls Tryz.prog 44 #[.string t] w fun e w' => ∃ v, e = .returned v ∧ GC w v (colsP t) w' := by
  obtain ⟨i0, hi0, hz0, hz1, hz2⟩ := info_parts Tryz.infoECol
  have C1 := hide (efields_any t ht 8 (by omega) w)
  have hlen := fieldsP_len t 8 0
  unfold colsP
  go_enter Tryz.func44, Tryz.ntmps44
  go_wp2_with fail
  refine (unhide C1).mono ?_
  rintro e w1 ⟨v, rfl, hv⟩
  generalize hr : fieldsP t 8 0 = r at *
  have HV := hide hv
  obtain ⟨a, cap, rfl⟩ := ownsRow_shape hv.own
  clear hv C1
  go_upto_region 5 with fail
  go_loopw [4, 5, 6] (fun cv bv jv wr => ∃ (i : Nat) (b : Bool) (c : List Cl), jv = .int .i64 i ∧ bv = .bool b ∧ i ≤ r.length ∧ c.length ≤ 4 ∧ GC w1 cv c wr ∧ colsF r false 4 = c ++ colsF (r.drop i) b (4 - c.length)) (fun _ _ jv _ => 9 - (intOf jv).toNat)
  case atStart => exact ⟨0, false, [], rfl, rfl, Nat.zero_le _, Nat.zero_le _, GR.nil _ _ _, rfl⟩
  case round =>
    obtain ⟨i, b, c, rfl, rfl, hi, hc, hG, hF⟩ := hrel
    obtain ⟨ca, cc, rfl⟩ := ownsRow_shape hG.own
    by_cases hi2 : i < r.length
    · have a1 : decide ((i : Int) < (r.length : Int)) = true := decide_eq_true (by omega)
      have a1p : (i : Int) < (r.length : Int) := by omega
      by_cases hc4 : c.length ≤ 3
      · have a2 : decide ((c.length : Int) ≤ 3) = true := decide_eq_true (by omega)
        obtain ⟨x, hx⟩ := getE hi2
        obtain ⟨g, ha, e0, e1, e2⟩ := OwnV.at_ (OwnV.keep (unhide HV).own hG.ho (fun _ _ e => e)) hx
        subst ha
        have hd : r.drop i = x :: r.drop (i + 1) := by
          obtain ⟨q, rfl⟩ := List.getElem?_eq_some_iff.mp hx
          exact List.drop_eq_getElem_cons q
        obtain ⟨k, hk⟩ : ∃ k, 4 - c.length = k + 1 := ⟨3 - c.length, by omega⟩
        rw [hd, hk, colsF] at hF
        cases hs : x.str with
        | true =>
          rw [hs] at hF e0
          simp only [if_true] at hF
          have own1 : wr.ownsRow 0 169 2 (.slice ca c.length cc) c.length (ccs c) := hG.own
          have HPush := hide (fun (v' : Value) (w' : World) o n hown hn hgrow hwh => GC.push (o := o) (n := n) (v' := v') (w' := w') hG (x.s, b) hown hn hgrow hwh)
          have HX := hide (show colsF r false 4 = (c ++ [(x.s, b)]) ++ colsF (r.drop (i + 1)) false (4 - (c ++ [(x.s, b)]).length) from by
            rw [hF]
            simp only [List.append_assoc, List.cons_append, List.nil_append, List.length_append, List.length_cons, List.length_nil]
            rw [show 4 - (c.length + (0 + 1)) = k by omega])
          clear hF hG hx hd
          go_wp2_with (at_builtin; refine wpList_append2 _ rfl _ _ 49 rfl 169 i0 _ 2 24 Tryz.underlying49 hi0 hz0 hz1 hz2 rfl (by decide) _ _ _ rfl (own1.alloc _) ⟨wr.heap.size, 0, none⟩ 1 1 [.string x.s, .bool b] rfl rfl ?c1 ?c2 ?c3 ?c4 ?_)
          case c2 => exact ⟨rfl, rfl⟩
          case c3 => unfold maxLen; omega
          case c4 => omega
          intro v' w' hown hgrow hwhere
          have HN := hide (unhide HPush v' w' _ _ hown rfl hgrow hwhere)
          clear hown hgrow hwhere HPush own1
          go_wp2_with fail
          go_roundw
          case rel => exact ⟨i + 1, false, c ++ [(x.s, b)], by go_num, rfl, by omega, by simp; omega, unhide HN, unhide HX⟩
          case measure => simp [intOf]; omega
        | false =>
          rw [hs] at hF e0
          simp only [Bool.false_eq_true, if_false] at hF
          rw [← hk] at hF
          have HH := hide (And.intro hG hF)
          have hodd : (bits .and .i64 x.i 1 == 1) = oddB x.i := rfl
          clear hF hG hx hd
          go_wp2_with fail
          go_roundw
          case rel => exact ⟨i + 1, oddB x.i, c, by go_num, rfl, by omega, by omega, (unhide HH).1, (unhide HH).2⟩
          case measure => simp [intOf]; omega
      · have a2 : decide ((c.length : Int) ≤ 3) = false := decide_eq_false (by omega)
        have hF2 : colsF r false 4 = c := by
          rw [hF, show 4 - c.length = 0 by omega]
          cases hd : r.drop i <;> simp [colsF]
        have HR := hide (hr ▸ hF2 : colsF (fieldsP t 8 0) false 4 = c)
        have HG := hide ((unhide HV).trans hG)
        clear hF hF2 hG
        go_wp2_with fail
        go_ret
        exact ⟨_, rfl, by rw [unhide HR]; exact unhide HG⟩
    · have a1 : decide ((i : Int) < (r.length : Int)) = false := decide_eq_false (by omega)
      have hF2 : colsF r false 4 = c := by
        rw [hF, List.drop_eq_nil_of_le (by omega)]
        simp [colsF]
      have HR := hide (hr ▸ hF2 : colsF (fieldsP t 8 0) false 4 = c)
      have HG := hide ((unhide HV).trans hG)
      clear hF hF2 hG
      go_wp2_with fail
      go_ret
      exact ⟨_, rfl, by rw [unhide HR]; exact unhide HG⟩
end Go.Proofs.Qxb6500414aGreat
