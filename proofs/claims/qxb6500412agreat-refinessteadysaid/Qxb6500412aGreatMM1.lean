/-
  OWN WORK. THE TABLE LAW's MODEL: rows and schemas cloned.
-/
import Derived.Test.Qxb6500412aGreatMM0
import Derived.Test.Qxb6500412aGreatERr
namespace Go.Proofs.Qxb6500412aGreat
open Go.RowKit Go.PlainAid
set_option linter.unusedSimpArgs false
set_option linter.unusedVariables false

theorem run_copy_rowK {P : Program} (w : World) (dT sT ty elem : TypeId) (g n : Nat) (a : Addr) (sCap k : Nat) (cur : Array Value) (t : TypeId) (cs : List Value)
    (hu : P.underlying dT = some (.slice elem)) (hs : (P.info? elem).map (·.size) = some k)
    (hg : w.heap[g]? = some (.cells cur t (0, 0))) (hn : cs.length = n * k)
    (hsrc : ∀ j v, cs[j]? = some v → w.cell? (a.add j) = some v) (hfit : cs.length = cur.size) (h1 : ∀ v ∈ cs, v.oneCell' = true) :
    (Builtin.copy_ #[dT, sT] ty #[.slice (some ⟨g, 0, none⟩) n n, .slice (some a) n sCap]).run P w = .ok (goInt n) (w.setRow g cs.toArray) := by
  have hl := run_loadCells_list (P := P) w a cs hsrc
  have hst := run_storeCells_at P g 0 t cs 0 cur w hg (by omega) h1
  have e0 : (cur.toList.take 0 ++ cs ++ cur.toList.drop (0 + cs.length)).toArray = cs.toArray := by
    rw [List.drop_of_length_le (by simp; omega)]
    simp
  have hd : cur.toList.drop cs.length = [] := List.drop_of_length_le (by simp; omega)
  cases hq : P.info? elem with
  | none => simp [hq] at hs
  | some i =>
    have hi : i.size = k := by simpa [hq] using hs
    have hmin : Nat.min n n = n := Nat.min_self n
    rw [hn] at hl
    simp [Builtin.copy_, run_underlying hu, Builtin.lenOf, Builtin.firstCells, sizeOf, typeInfo, hq, hi, hmin, hl, hst, Nat.mul_comm, hd]
theorem run_copy_noneK {P : Program} (w : World) (dT sT ty elem : TypeId) (d a : Option Addr) (sCap dCap k : Nat) (hu : P.underlying dT = some (.slice elem)) (hs : (P.info? elem).map (·.size) = some k) :
    (Builtin.copy_ #[dT, sT] ty #[.slice d 0 dCap, .slice a 0 sCap]).run P w = .ok (goInt 0) w := by
  cases hq : P.info? elem with
  | none => simp [hq] at hs
  | some i =>
    have hl : ∀ (x : Addr), (loadCells x 0).run P w = .ok #[] w := fun x => by simpa using run_loadCells_list (P := P) w x [] (by simp)
    cases d <;> cases a <;> simp [Builtin.copy_, run_underlying hu, Builtin.lenOf, Builtin.firstCells, sizeOf, typeInfo, hq, storeCells, hl]
theorem ccs_one : ∀ (l : List Cl), ∀ v ∈ ccs l, v.oneCell' = true
  | [], v, hv => by simp [ccs] at hv
  | a :: r, v, hv => by
    simp only [ccs, List.cons_append, List.nil_append, List.mem_cons] at hv
    rcases hv with rfl | rfl | hv
    · rfl
    · rfl
    · exact ccs_one r v hv
/-- A row of any element copied into a fresh block. -/
theorem run_clone {w : World} {elem sl : TypeId} {k n : Nat} {v : Value} {cs : List Value} (hu : Tryz.prog.underlying sl = some (.slice elem)) (hs : (Tryz.prog.info? elem).map (·.size) = some k) (O : w.ownsRow 0 elem k v n cs) (h1 : ∀ x ∈ cs, x.oneCell' = true) {z : Nat} {cur : Array Value} (Z : Has w z cur elem) (hc : cur.size = n * k) :
    ∃ w4, (∀ ty, (Builtin.copy_ #[sl, sl] ty #[.slice (some ⟨z, 0, none⟩) n n, v]).run Tryz.prog w = .ok (goInt n) w4) ∧ Has w4 z cs.toArray elem ∧ Only (fun k => k = z) w w4 := by
  rcases O.2 with ⟨he, h0⟩ | ⟨ib, cap', cur', he, _⟩
  · subst h0
    have hn : cs = [] := List.eq_nil_of_length_eq_zero (by rw [O.1]; omega)
    rw [he]
    refine ⟨w, fun ty => run_copy_noneK w sl sl ty elem _ none 0 0 k hu hs, ?_, Only.refl _ _⟩
    have : cur = #[] := Array.eq_empty_of_size_eq_zero (by rw [hc]; omega)
    rw [this] at Z
    rw [hn]
    exact Z
  · have hc3 := World.ownsRow.cells O (g := ib) (by rw [he]; rfl)
    rw [he]
    exact ⟨_, fun ty => run_copy_rowK w sl sl ty elem z n ⟨ib, 0, none⟩ cap' k cur elem cs hu hs Z O.1 (fun j v hv => hc3 j v hv) (by rw [O.1, hc]) h1, setRow_heap w z cur _ _ _ Z, setRow_only⟩
theorem own_made {w : World} {elem : TypeId} {k n z : Nat} {cs : List Value} (Z : Has w z cs.toArray elem) (hl : cs.length = n * k) (hn : n ≤ 1000) : w.ownsRow 0 elem k (.slice (some ⟨z, 0, none⟩) n n) n cs :=
  ⟨hl, .inr ⟨z, n, _, rfl, Nat.zero_le _, Z, Nat.le_refl _, by unfold maxLen; omega, by simp [hl], by rw [List.toList_toArray, ← hl, List.take_length]⟩⟩


section
variable {w : World} {v : Value}
set_option maxRecDepth 100000 in
theorem mcloneRow_any {r : List Vl} (O : OwnV w v r) (hl : r.length ≤ 1000) : Calls Tryz.prog 260 #[v] w fun e w' => ∃ z, e = .returned (.slice (some ⟨z, 0, none⟩) r.length r.length) ∧ OwnV w' (.slice (some ⟨z, 0, none⟩) r.length r.length) r ∧ w.heap.size ≤ z ∧ Only (fun _ => False) w w' := by
  obtain ⟨i, hi, hzr, hs, hb⟩ := info_parts Tryz.infoEVal
  obtain ⟨cur0, hcs, hmk⟩ := run_make_vals w r.length hl
  have o1 : Only (fun _ => False) w (w.alloc (.cells cur0 152)) := (Only.refl _ w).alloc _
  obtain ⟨w4, cp, Z4, o4⟩ := run_clone Tryz.underlying95 (by rw [hi]; simp [hs]) (O.keep o1 (fun _ _ e => e)) (vcs_one r) (Has.new w cur0 152) hcs
  obtain ⟨a, cap, hv⟩ := O.shape
  have HP := hide (show OwnV w4 (.slice (some ⟨w.heap.size, 0, none⟩) r.length r.length) r ∧ Only (fun _ => False) w w4 from ⟨own_made Z4 (vcs_len r) hl, o1.fresh o4 (Nat.le_refl _)⟩)
  subst hv
  obtain ⟨n, hn⟩ : ∃ n, r.length = n := ⟨_, rfl⟩
  rw [hn] at hmk cp HP hl ⊢
  clear O o1 Z4 o4 hn hcs
  go_enter Tryz.func260, Tryz.ntmps260
  go_wp2_with fail
  go_ret
  exact ⟨_, rfl, (unhide HP).1, Nat.le_refl _, (unhide HP).2⟩
set_option maxRecDepth 100000 in
theorem mcloneSchema_any {c : List Cl} (O : OwnC w v c) (hl : c.length ≤ 1000) (nm : ByteArray) (pk ix : Int) : Calls Tryz.prog 262 #[schA nm v pk ix] w fun e w' => ∃ z, e = .returned (schA nm (.slice (some ⟨z, 0, none⟩) c.length c.length) pk ix) ∧ OwnC w' (.slice (some ⟨z, 0, none⟩) c.length c.length) c ∧ w.heap.size ≤ z ∧ Only (fun _ => False) w w' := by
  obtain ⟨i, hi, hzr, hs, hb⟩ := info_parts Tryz.infoECol
  obtain ⟨a, cap, hv⟩ := O.shape
  have o1 : Only (fun _ => False) w ((w.alloc (.cells #[.string nm, v, .int .i64 pk, .int .i64 ix] 79)).alloc (.cells scZ 79)) := ((Only.refl _ w).alloc _).alloc _
  have A1 : Has ((w.alloc (.cells #[.string nm, v, .int .i64 pk, .int .i64 ix] 79)).alloc (.cells scZ 79)) w.heap.size #[.string nm, v, .int .i64 pk, .int .i64 ix] 79 := (Has.new w _ _).alloc _
  have B1 : Has ((w.alloc (.cells #[.string nm, v, .int .i64 pk, .int .i64 ix] 79)).alloc (.cells scZ 79)) (w.heap.size + 1) scZ 79 := Has.new' _ _ _ _ (by simp)
  have HX := hide (And.intro o1 (And.intro A1 (And.intro B1 (O.keep o1 (fun _ _ e => e)))))
  subst hv
  obtain ⟨n, hn⟩ : ∃ n, c.length = n := ⟨_, rfl⟩
  rw [hn] at hl HX ⊢
  have HN := hide hn
  unfold schA
  unfold scZ at HX
  clear O hn o1 A1 B1
  go_enter Tryz.func262, Tryz.ntmps262
  go_upto_region 1 with fail
  generalize (w.alloc (.cells #[.string nm, .slice a n cap, .int .i64 pk, .int .i64 ix] 79)).alloc (.cells #[.string ⟨#[]⟩, .slice none 0 0, .int .i64 0, .int .i64 0] 79) = w1 at *
  have z1 := (unhide HX).1.size
  generalize hkb : w.heap.size = kb at *
  obtain ⟨cur0, hcs, hmk⟩ := run_make_cols w1 n hl
  have o2 : Only (fun _ => False) w1 (w1.alloc (.cells cur0 149)) := (Only.refl _ w1).alloc _
  have OW : w1.ownsRow 0 149 2 (.slice a n cap) n (ccs c) := by have := (unhide HX).2.2.2; unfold OwnC at this; rw [unhide HN] at this; exact this
  obtain ⟨w4, cp, Z4, o4⟩ := run_clone Tryz.underlying77 (by rw [hi]; simp [hs]) (ownsRow_keep OW o2 (fun _ _ e => e)) (ccs_one c) (Has.new w1 cur0 149) hcs
  have o14 : Only (fun _ => False) w1 w4 := o2.fresh o4 (Nat.le_refl _)
  have A2 := (unhide HX).2.1.keep o2 (fun e => e)
  have A4 := (unhide HX).2.1.keep o14 (fun e => e)
  have B4 := (unhide HX).2.2.1.keep o14 (fun e => e)
  have bl := B4.lt
  have a1 := (unhide HX).2.1.cell 1
  have b1 := A2.cell 1
  have d0 := A4.cell 0
  have d2 := A4.cell 2
  have d3 := A4.cell 3
  have e0 := B4.cell 0
  have e1 := B4.cell 1
  have e2 := B4.cell 2
  have e3 := B4.cell 3
  have f0 := B4.free 0
  have f1 := B4.free 1
  have f2 := B4.free 2
  have f3 := B4.free 3
  simp at a1 b1 d0 d2 d3 e0 e1 e2 e3
  have B1l := (unhide HX).2.2.1.lt
  have og : Only (fun k => k = kb + 1) w4 ((((w4.setCell ⟨kb + 1, 0, none⟩ (.string nm)).setCell ⟨kb + 1, 1, none⟩ (.slice (some ⟨w1.heap.size, 0, none⟩) n n)).setCell ⟨kb + 1, 2, none⟩ (.int .i64 pk)).setCell ⟨kb + 1, 3, none⟩ (.int .i64 ix)) := (((only1 (p := kb + 1) _ _).trans (only1 (p := kb + 1) _ _) (fun _ _ h => h)).trans (only1 (p := kb + 1) _ _) (fun _ _ h => h)).trans (only1 (p := kb + 1) _ _) (fun _ _ h => h)
  have HP := hide (show OwnC ((((w4.setCell ⟨kb + 1, 0, none⟩ (.string nm)).setCell ⟨kb + 1, 1, none⟩ (.slice (some ⟨w1.heap.size, 0, none⟩) n n)).setCell ⟨kb + 1, 2, none⟩ (.int .i64 pk)).setCell ⟨kb + 1, 3, none⟩ (.int .i64 ix)) (.slice (some ⟨w1.heap.size, 0, none⟩) n n) c ∧ w.heap.size ≤ w1.heap.size ∧ Only (fun _ => False) w ((((w4.setCell ⟨kb + 1, 0, none⟩ (.string nm)).setCell ⟨kb + 1, 1, none⟩ (.slice (some ⟨w1.heap.size, 0, none⟩) n n)).setCell ⟨kb + 1, 2, none⟩ (.int .i64 pk)).setCell ⟨kb + 1, 3, none⟩ (.int .i64 ix)) from
    ⟨by unfold OwnC; rw [unhide HN]; exact ownsRow_keep (own_made Z4 (by rw [ccs_len, unhide HN]) hl) og (fun k hk e => by simp [Value.ownBlock] at hk; omega), by omega, ((unhide HX).1.trans o14 (fun _ _ e => e)).fresh og (by omega)⟩)
  have Bf := (((B4.setCell 0 (.string nm)).setCell 1 (.slice (some ⟨w1.heap.size, 0, none⟩) n n)).setCell 2 (.int .i64 pk)).setCell 3 (.int .i64 ix)
  have q0 := Bf.cell 0
  have q1 := Bf.cell 1
  have q2 := Bf.cell 2
  have q3 := Bf.cell 3
  simp at q0 q1 q2 q3
  have HQ := hide (And.intro q0 (And.intro q1 (And.intro q2 q3)))
  clear OW o2 o4 o14 A2 A4 B4 og Z4 hcs Bf q0 q1 q2 q3
  go_wp2_with fail
  obtain ⟨q0, q1, q2, q3⟩ := unhide HQ
  refine bodyPost_ret (v := .agg #[.string nm, .slice (some ⟨w1.heap.size, 0, none⟩) n n, .int .i64 pk, .int .i64 ix]) (by simp [results, Tryz.results262, go_sem, q0, q1, q2, q3]) rfl ⟨w1.heap.size, rfl, unhide HP⟩
end
end Go.Proofs.Qxb6500412aGreat
