/-
  OWN WORK. TABLE: a column's text, and read back; no schema.
-/
import Derived.Test.Qxb6500412aGreatEHd
import Derived.Test.Qxb6500412aGreatELay
namespace Go.Proofs.Qxb6500412aGreat
open Go.RowKit Go.PlainAid
set_option linter.unusedSimpArgs false
set_option linter.unusedVariables false

def colA (c : Cl) : Value := .agg #[.string c.1, .bool c.2]
theorem colT_at {c : Cl} (hn : c.1.size ≤ 6) : byteAt (colT c) 0 = (if c.2 then 1 else 0) ∧ byteAt (colT c) 1 = c.1.size := by
  have h : ∀ (a b : ByteArray) (j : Nat), j < a.size → byteAt (a ++ b) j = byteAt a j := by
    intro a b j hj
    unfold byteAt
    rw [List.getD_eq_getElem?_getD, List.getD_eq_getElem?_getD]
    have : (a ++ b).data.toList = a.data.toList ++ b.data.toList := by simp
    rw [this, List.getElem?_append_left (by simpa using hj)]
  unfold colT
  rw [h _ _ 0 (by rw [mkB_size]; omega), h _ _ 1 (by rw [mkB_size]; omega), mkB_at (by omega) (by cases c.2 <;> simp), mkB_at (by omega) (by simp; omega)]
  exact ⟨rfl, rfl⟩
theorem colT_cut (c : Cl) : (colT c).extract 2 (2 + c.1.size) = c.1 := by
  unfold colT
  apply ls_inj
  rw [ls_cut, ls_append, List.drop_append_of_le_length (by rw [ls_len, mkB_size]; omega), List.drop_of_length_le (by rw [ls_len, mkB_size]; omega), List.nil_append, List.take_of_length_le (by rw [ls_len]; omega)]
set_option maxRecDepth 100000 in
theorem ecolText_any (c : Cl) (hn : c.1.size ≤ 6) (w : World) : Calls Tryz.prog 239 #[colA c] w fun e w' => e = .returned (.string (colT c)) ∧ Only (fun _ => False) w w' := by
  obtain ⟨nm, b⟩ := c
  simp only at hn
  have hmk : ∀ w, (Instr.makeSlice 282 (.int .i64 2) (.int .i64 2)).run Tryz.prog w = .ok (.slice (some ⟨w.heap.size, 0, none⟩) 2 2) (w.alloc (.cells (tabV 2 (u8f (fun _ => 0))) 5)) := fun w => by
    have := run_make_bytes w 2 (by omega)
    simpa using this
  have o0 : Only (fun _ => False) w ((w.alloc (.cells #[.string nm, .bool b] 149)).alloc (.cells (tabV 2 (u8f (fun _ => 0))) 5)) := ((Only.refl _ w).alloc _).alloc _
  have N0 := Has.new w #[.string nm, .bool b] 149
  have N1 := N0.keep ((Only.refl (fun _ => False) _).alloc (.cells (tabV 2 (u8f (fun _ => 0))) 5)) (fun e => e)
  have B0 := Has.new (w.alloc (.cells #[.string nm, .bool b] 149)) (tabV 2 (u8f (fun _ => 0))) 5
  simp only [World.size_alloc] at B0
  have w8 : IntKind.u8.wrap (nm.size : Int) = (nm.size : Int) := IntWalk.u8_in _ (by omega)
  have HT := hide (show colT (nm, b) = mkB 2 (fun j => if j = 0 then (if b then 1 else 0) else nm.size) ++ nm from rfl)
  have s2 : (mkB 2 (fun j => if j = 0 then (if b then 1 else 0) else nm.size)).size = 2 := mkB_size _ _
  go_enter Tryz.func239, Tryz.ntmps239
  unfold colA
  go_upto_region 2 with fail
  clear hmk N0
  generalize (w.alloc (.cells #[.string nm, .bool b] 149)).alloc (.cells (tabV 2 (u8f (fun _ => 0))) 5) = w1 at *
  have hne : w.heap.size + 1 ≠ w.heap.size := by omega
  have c0 := N1.cell 0
  have c1 := N1.cell 1
  simp at c0 c1
  have b0 := B0.cell 0
  rw [u8_get _ _ _ (by omega)] at b0
  have f0 := B0.free 0
  have b1 := B0.cell 1
  rw [u8_get _ _ _ (by omega)] at b1
  have f1 := B0.free 1
  have hw8 : ∀ (b : Bool) (j : Nat), (if j = 0 then (if b then 1 else 0) else nm.size) < 256 := fun b j => by cases b <;> (split <;> first | (simp; done) | omega)
  cases b with
  | true =>
    have B1 := B0.setU 0 1
    have N2 := N1.keep (only1 (p := w.heap.size + 1) 0 (.int .u8 ((1 : Nat) : Int))) (fun e => by simp at e)
    have p1 := o0.fresh (only1 (p := w.heap.size + 1) 0 (.int .u8 ((1 : Nat) : Int))) (by simp)
    have HQ := hide (And.intro B1 (And.intro N2 p1))
    clear B1 N2 p1 o0 N1 B0 b1 f1 c0
    go_upto_region 4 with fail
    obtain ⟨B1, N2, p1⟩ := unhide HQ
    clear HQ b0 f0 c1
    have hw1 : w1.setCell ⟨w.heap.size + 1, 0, none⟩ (.int .u8 1) = w1.setCell ⟨w.heap.size + 1, 0, none⟩ (.int .u8 ((1 : Nat) : Int)) := rfl
    rw [hw1]
    clear hw1
    generalize w1.setCell ⟨w.heap.size + 1, 0, none⟩ (.int .u8 ((1 : Nat) : Int)) = w2 at *
    have c0 := N2.cell 0
    simp at c0
    have b1 := B1.cell 1
    rw [u8_get _ _ _ (by omega)] at b1
    have f1 := B1.free 1
    have B2 := B1.setU 1 nm.size
    have N3 := N2.keep (only1 (p := w.heap.size + 1) 1 (.int .u8 ((nm.size : Nat) : Int))) (fun e => by simp at e)
    have p2 := p1.fresh (only1 (p := w.heap.size + 1) 1 (.int .u8 ((nm.size : Nat) : Int))) (by simp)
    have HQ := hide (And.intro B2 (And.intro N3 p2))
    clear B2 N3 p2 B1 N2 p1
    go_upto_region 5 with fail
    obtain ⟨B2, N3, p2⟩ := unhide HQ
    clear HQ b1 f1 c0
    generalize w2.setCell ⟨w.heap.size + 1, 1, none⟩ (.int .u8 (nm.size : Int)) = w3 at *
    have hcv := run_conv_mkB (cap := 2) (B2.congrU (E := fun j => if j = 0 then (if true then 1 else 0) else nm.size) (fun j hj => by
      rcases (show j = 0 ∨ j = 1 by omega) with rfl | rfl <;> simp)) (fun j hj => hw8 true j)
    have c0 := N3.cell 0
    simp at c0
    have HO := hide p2
    generalize hmm : mkB 2 (fun j => if j = 0 then (if true then 1 else 0) else nm.size) = MM at *
    have HM := hide hmm
    clear B2 N3 p2 hw8 hmm
    go_wp2_with fail
    go_ret
    exact ⟨by rw [unhide HT]; rfl, unhide HO⟩
  | false =>
    have b1' := b1
    have B2 := B0.setU 1 nm.size
    have N3 := N1.keep (only1 (p := w.heap.size + 1) 1 (.int .u8 ((nm.size : Nat) : Int))) (fun e => by simp at e)
    have p2 := o0.fresh (only1 (p := w.heap.size + 1) 1 (.int .u8 ((nm.size : Nat) : Int))) (by simp)
    have HQ := hide (And.intro B2 (And.intro N3 p2))
    clear B2 N3 p2 o0 N1 B0 b0 f0
    go_upto_region 5 with fail
    obtain ⟨B2, N3, p2⟩ := unhide HQ
    clear HQ b1 f1 c0 b1' c1
    generalize w1.setCell ⟨w.heap.size + 1, 1, none⟩ (.int .u8 (nm.size : Int)) = w3 at *
    have hcv := run_conv_mkB (cap := 2) (B2.congrU (E := fun j => if j = 0 then (if false then 1 else 0) else nm.size) (fun j hj => by
      rcases (show j = 0 ∨ j = 1 by omega) with rfl | rfl <;> simp)) (fun j hj => hw8 false j)
    have c0 := N3.cell 0
    simp at c0
    have HO := hide p2
    generalize hmm : mkB 2 (fun j => if j = 0 then (if false then 1 else 0) else nm.size) = MM at *
    have HM := hide hmm
    clear B2 N3 p2 hw8 hmm
    go_wp2_with fail
    go_ret
    exact ⟨by rw [unhide HT]; rfl, unhide HO⟩
set_option maxRecDepth 100000 in
theorem ecolOf_any (c : Cl) (hn : gdN c.1) (w : World) : Calls Tryz.prog 285 #[.string (colT c)] w fun e w' => e = .returned (.tuple #[colA c, .bool true]) ∧ Only (fun _ => False) w w' := by
  obtain ⟨h0, h1⟩ := colT_at hn.2
  have hsz : (colT c).size = 2 + c.1.size := by unfold colT; rw [ByteArray.size_append, mkB_size]
  have hcut := colT_cut c
  have CG := eGoodName_any c.1 (w.alloc (.cells #[.string ⟨#[]⟩, .bool false] 149))
  rw [decide_eq_true hn] at CG
  have CG := hide CG
  have hn1 := hn.1
  have hn2 := hn.2
  clear hn
  obtain ⟨nm, b⟩ := c
  simp only at *
  have o0 : Only (fun _ => False) w (w.alloc (.cells #[.string ⟨#[]⟩, .bool false] 149)) := (Only.refl _ w).alloc _
  have N0 := Has.new w #[.string ⟨#[]⟩, .bool false] 149
  generalize colT (nm, b) = t at *
  have i0 : 0 < t.size := by omega
  have i1 : 1 < t.size := by omega
  obtain ⟨z, hz⟩ : ∃ z : Nat, (if b then 1 else 0 : Nat) = z := ⟨_, rfl⟩
  have q0 : (t[0].toNat : Int) = (z : Int) := by rw [byteAt_idx t 0 i0, h0, hz]
  have q1 : (t[1].toNat : Int) = (nm.size : Int) := by rw [byteAt_idx t 1 i1, h1]
  have ts : (t.size : Int) = 2 + (nm.size : Int) := by omega
  have z1 : z ≤ 1 := by rw [← hz]; cases b <;> simp
  have v0 : decide ((z : Int) > 1) = false := decide_eq_false (by omega)
  have v0' : decide (1 < (z : Int)) = false := decide_eq_false (by omega)
  have v1 : ((z : Int) == 1) = b := by rw [← hz]; cases b <;> rfl
  have nI : (nm.size : Int) ≤ 6 := by omega
  have y1 : ((nm.size : Int) != 2 + (nm.size : Int) - 2) = false := by
    have : 2 + (nm.size : Int) - 2 = (nm.size : Int) := by omega
    rw [this]; simp
  have y2 : 2 + (nm.size : Int) - 2 = (nm.size : Int) := by omega
  have y3 : decide (2 + (nm.size : Int) < 2) = false := decide_eq_false (by omega)
  have cut2 : (2 : Int) ≤ (t.size : Int) := by omega
  have d0 := N0.cell 0
  have d1 := N0.cell 1
  have g0 := N0.free 0
  have g1 := N0.free 1
  simp at d0 d1
  clear h0 h1 hz
  go_enter Tryz.func285, Tryz.ntmps285
  go_wp2_with fail
  refine (unhide CG).mono ?_
  rintro e w1 ⟨rfl, rfl⟩
  go_wp2_with fail
  go_region
  all_goals
    have HK := (Has.new w #[.string nm, .bool b] 149).drew
    have HO : Only (fun _ => False) w (w.alloc (.cells #[.string nm, .bool b] 149)).drew := ((Only.refl _ w).alloc _).drew
    generalize (w.alloc (.cells #[.string nm, .bool b] 149)).drew = w2 at *
    have k0 := HK.cell 0
    have k1 := HK.cell 1
    simp at k0 k1
    have HO := hide HO
    go_wp2_with fail
    refine bodyPost_ret (v := .tuple #[colA (nm, b), .bool true]) (by simp [results, Tryz.results285, go_sem, k0, k1, colA]) rfl ⟨rfl, unhide HO⟩
theorem enoSchema_any (w : World) : Calls Tryz.prog 282 #[] w fun e w' => e = .returned (schA ⟨#[]⟩ (.slice none 0 0) 0 (-1)) ∧ Only (fun _ => False) w w' := by
  have k := Has.new w #[.string ⟨#[]⟩, .slice none 0 0, .int .i64 0, .int .i64 (-1)] 79
  have HO : Only (fun _ => False) w (w.alloc (.cells #[.string ⟨#[]⟩, .slice none 0 0, .int .i64 0, .int .i64 (-1)] 79)) := (Only.refl _ w).alloc _
  go_enter Tryz.func282, Tryz.ntmps282
  go_wp2_with fail
  generalize w.alloc (.cells #[.string ⟨#[]⟩, .slice none 0 0, .int .i64 0, .int .i64 (-1)] 79) = w2 at *
  have k0 := k.cell 0
  have k1 := k.cell 1
  have k2 := k.cell 2
  have k3 := k.cell 3
  simp at k0 k1 k2 k3
  refine bodyPost_ret (v := schA ⟨#[]⟩ (.slice none 0 0) 0 (-1)) (by simp [results, Tryz.results282, go_sem, k0, k1, k2, k3]) rfl ⟨rfl, HO⟩
end Go.Proofs.Qxb6500412aGreat
