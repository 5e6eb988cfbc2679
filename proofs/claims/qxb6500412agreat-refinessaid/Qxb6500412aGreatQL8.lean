/-
  OWN WORK. QUERY's LAW: answers within bounds; SameResult.
-/
import Derived.Test.Qxb6500412aGreatQL7
import Derived.Test.Qxb6500412aGreatQL3
namespace Go.Proofs.Qxb6500412aGreat
open Go.RowKit Go.PlainAid
set_option linter.unusedSimpArgs false
set_option linter.unusedVariables false

/-- An answer is within bounds. -/
structure RsB (R : Rs) : Prop where
  c : R.cols.length ≤ 1000
  r : R.rows.length ≤ 1000
  rr : ∀ y ∈ R.rows, y.length ≤ 1000
theorem RsB.bare {R : Rs} (h1 : R.cols = []) (h2 : R.rows = []) : RsB R := ⟨by rw [h1]; simp, by rw [h2]; simp, by rw [h2]; simp⟩
theorem RsB.err (e : Int) : RsB (Rs.err e) := RsB.bare rfl rfl
theorem RsB.cnt (e : Int) : RsB (Rs.cnt e) := RsB.bare rfl rfl
section
variable {M : Mu} {s : Int} {st : St} {t : ByteArray} {D : Db × Int}
theorem prjD_b {cols : List Cl} {hit : List (List Vl)} (hc : cols.length ≤ 3) (hl : st.list.length ≤ 200) (hh : hit.length ≤ 8) : RsB (prjD cols st hit) := by
  have h1 : (colsD cols st).length ≤ 203 := by
    unfold colsD
    split
    · rw [List.length_append, List.length_map]; omega
    · omega
  refine ⟨Nat.le_trans h1 (by omega), ?_, fun y hy => ?_⟩
  · show (((ordD cols st hit).take _).map _).length ≤ 1000
    rw [List.length_map]
    refine Nat.le_trans (List.length_take_le _ _) ?_
    unfold limN
    split
    · rename_i h; omega
    · omega
  · obtain ⟨z, _, rfl⟩ := List.mem_map.mp hy
    unfold prjR
    rw [List.length_map]
    omega
theorem hit8 (g : DGd D.1) (nm : ByteArray) (l : List Cm) : (hitD (tabE D.1 nm) l).length ≤ 8 := by
  unfold tabE
  cases hf : findD D.1 nm with
  | none => exact Nat.zero_le _
  | some u =>
    refine Nat.le_trans (List.length_filter_le _ _) ?_
    exact (g.tb u (findD_mem hf).1).len
theorem runQ_b (q : MuQ M) (hs : s.toNat < 4) (hl : st.list.length ≤ 200) : RsB (runQ M s st).2 := by
  unfold runQ
  split
  · split
    · exact RsB.err _
    · show RsB (if _ then _ else _)
      split
      · exact RsB.cnt _
      · exact RsB.err _
  · cases hf : findD M.com st.table with
    | none => exact RsB.err _
    | some u =>
      simp only
      split
      · exact RsB.err _
      · split
        · exact RsB.err _
        · split
          · exact prjD_b (q.g.tb u (findD_mem hf).1).n3 hl (hit8 (D := (M.see s.toNat, 0)) (q.gs _ hs) _ _)
          · split
            · exact RsB.cnt _
            · split
              · exact RsB.err _
              · exact RsB.cnt _
theorem schQ_b : RsB (schQ M s D).2 := RsB.bare schQ_l.1 schQ_l.2.1
theorem begin_q (q : MuQ M) (hs : s.toNat < 4) (ha : M.act s.toNat = false) : MuQ (M.begin s.toNat) := by
  refine ⟨q.g, q.gs, q.out, q.ex, fun o nm ho h => ?_, fun o ho h => ?_, q.rg, q.nms, q.tb⟩
  · have h : (if o = s.toNat then true else M.act o) = false := h
    by_cases e : o = s.toNat
    · rw [if_pos e] at h; cases h
    · rw [if_neg e] at h; exact q.idle o nm ho h
  · have h : (if o = s.toNat then true else M.act o) = false := h
    by_cases e : o = s.toNat
    · rw [if_pos e] at h; cases h
    · rw [if_neg e] at h; exact q.si o ho h
theorem exQ_b (q : MuQ M) : RsB (exQ M s t).2 := by
  unfold exQ
  split
  · exact RsB.err _
  · split
    · exact RsB.err _
    · split
      · exact RsB.err _
      · rename_i h1 h2 h3
        have hg : gdS s := Classical.byContradiction h2
        have hs : s.toNat < 4 := by have := hg.1; have := hg.2; omega
        have hb := parQ_b (t := t) (by omega)
        generalize (parQ t).2 = st at *
        unfold stQ
        split
        · split <;> exact RsB.err _
        · split
          · split <;> exact RsB.err _
          · split
            · split <;> exact RsB.err _
            · split
              · exact schQ_b
              · split
                · exact schQ_b
                · split
                  · exact schQ_b
                  · split
                    · exact runQ_b q hs hb.list
                    · rename_i ha
                      have hr := runQ_b (begin_q q hs (by simpa using ha)) hs hb.list
                      split <;> exact hr
end
section
variable {B C : Nat → Prop} {w : World} {na ra na2 ra2 : Option Addr} {nn nc rn rc nn2 nc2 rn2 rc2 : Nat} {R : Rs}
set_option maxRecDepth 100000 in
set_option maxHeartbeats 4000000 in
theorem slsameResult_eq (h1 : RsN B w (.slice na nn nc) (.slice ra rn rc) R) (h2 : RsN C w (.slice na2 nn2 nc2) (.slice ra2 rn2 rc2) R) (hb : RsB R) : Calls Tryz.prog 129 #[.agg #[.int .i64 R.e, .int .i64 R.n, .slice na nn nc, .slice ra rn rc], .agg #[.int .i64 R.e, .int .i64 R.n, .slice na2 nn2 nc2, .slice ra2 rn2 rc2]] w fun e w' => e = .returned (.bool true) ∧ Only (fun _ => False) w w' := by
  have o1 : Only (fun _ => False) w ((w.alloc (.cells #[.int .i64 R.e, .int .i64 R.n, .slice na nn nc, .slice ra rn rc] 52)).alloc (.cells #[.int .i64 R.e, .int .i64 R.n, .slice na2 nn2 nc2, .slice ra2 rn2 rc2] 52)) := ((Only.refl _ w).alloc _).alloc _
  have N1 : Has ((w.alloc (.cells #[.int .i64 R.e, .int .i64 R.n, .slice na nn nc, .slice ra rn rc] 52)).alloc (.cells #[.int .i64 R.e, .int .i64 R.n, .slice na2 nn2 nc2, .slice ra2 rn2 rc2] 52)) w.heap.size #[.int .i64 R.e, .int .i64 R.n, .slice na nn nc, .slice ra rn rc] 52 := (Has.new w _ _).keep ((Only.refl (fun _ => False) _).alloc _) (fun e => e)
  have N2 : Has ((w.alloc (.cells #[.int .i64 R.e, .int .i64 R.n, .slice na nn nc, .slice ra rn rc] 52)).alloc (.cells #[.int .i64 R.e, .int .i64 R.n, .slice na2 nn2 nc2, .slice ra2 rn2 rc2] 52)) (w.heap.size + 1) #[.int .i64 R.e, .int .i64 R.n, .slice na2 nn2 nc2, .slice ra2 rn2 rc2] 52 := Has.new' _ _ _ _ (by simp)
  have HR := hide (And.intro (h1.keep o1 (fun _ _ e => e)) (And.intro (h2.keep o1 (fun _ _ e => e)) o1))
  have HB := hide hb
  clear h1 h2 hb o1
  obtain ⟨re, hre⟩ : ∃ z, R.e = z := ⟨_, rfl⟩
  obtain ⟨rz, hrz⟩ : ∃ z, R.n = z := ⟨_, rfl⟩
  rw [hre, hrz] at N1 N2 HR ⊢
  clear hre hrz
  go_enter Tryz.func129, Tryz.ntmps129
  go_upto_region 1 with fail
  generalize (w.alloc (.cells #[.int .i64 re, .int .i64 rz, .slice na nn nc, .slice ra rn rc] 52)).alloc (.cells #[.int .i64 re, .int .i64 rz, .slice na2 nn2 nc2, .slice ra2 rn2 rc2] 52) = w1 at *
  have a0 : w1.cell? ⟨w.heap.size, 0, none⟩ = some (.int .i64 re) := N1.cell 0
  have a1 : w1.cell? ⟨w.heap.size, 1, none⟩ = some (.int .i64 rz) := N1.cell 1
  have a2 : w1.cell? ⟨w.heap.size, 2, none⟩ = some (.slice na nn nc) := N1.cell 2
  have a3 : w1.cell? ⟨w.heap.size, 3, none⟩ = some (.slice ra rn rc) := N1.cell 3
  have al := N1.lt
  have b0 : w1.cell? ⟨w.heap.size + 1, 0, none⟩ = some (.int .i64 re) := N2.cell 0
  have b1 : w1.cell? ⟨w.heap.size + 1, 1, none⟩ = some (.int .i64 rz) := N2.cell 1
  have b2 : w1.cell? ⟨w.heap.size + 1, 2, none⟩ = some (.slice na2 nn2 nc2) := N2.cell 2
  have b3 : w1.cell? ⟨w.heap.size + 1, 3, none⟩ = some (.slice ra2 rn2 rc2) := N2.cell 3
  have bl := N2.lt
  have CN := hide (sameNames_any (unhide HR).1.cn (unhide HR).2.1.cn (unhide HB).c true (decide_eq_true rfl))
  clear N1 N2
  generalize w.heap.size = G at *
  go_wp2_with fail
  refine (unhide CN).mono ?_
  rintro e w2 ⟨rfl, o2⟩
  have a3 : w2.cell? ⟨G, 3, none⟩ = some (.slice ra rn rc) := cell_keep a3 o2 (fun e => e)
  have b3 : w2.cell? ⟨G + 1, 3, none⟩ = some (.slice ra2 rn2 rc2) := cell_keep b3 o2 (fun e => e)
  have al : G < w2.heap.size := Nat.lt_of_lt_of_le al o2.size
  have bl : G + 1 < w2.heap.size := Nat.lt_of_lt_of_le bl o2.size
  have r1 := (unhide HR).1.keep o2 (fun _ _ e => e)
  have r2 := (unhide HR).2.1.keep o2 (fun _ _ e => e)
  obtain ⟨Y1, l1, m1, _, _⟩ := r1.rl
  obtain ⟨Y2, l2, m2, _, _⟩ := r2.rl
  have CR := hide (sameRows_any (A := R.rows) (B := R.rows) (by rw [← m1]; exact rd_of l1.own (fun z hz => (l1.row z hz).1)) (by rw [← m2]; exact rd_of l2.own (fun z hz => (l2.row z hz).1)) (unhide HB).r (unhide HB).rr true (decide_eq_true rfl))
  have HO := hide ((unhide HR).2.2.trans o2 (fun _ _ e => e))
  clear CN o2 r1 r2 l1 m1 l2 m2 a0 a1 a2 b0 b1 b2
  go_wp2_with fail
  refine (unhide CR).mono ?_
  rintro e w3 ⟨rfl, o3⟩
  have HO3 := hide ((unhide HO).trans o3 (fun _ _ e => e))
  clear CR o3 HO
  go_wp2_with fail
  go_ret
  exact ⟨rfl, unhide HO3⟩
end
end Go.Proofs.Qxb6500412aGreat
