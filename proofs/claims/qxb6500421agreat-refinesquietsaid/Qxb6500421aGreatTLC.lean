/-
  OWN WORK. THE TREE LAW: CopyEntries.
-/
import Derived.Test.Qxb6500421aGreatUPln
import Derived.Laws.BitsAllLaws
import Derived.Laws.MakeOwn
namespace Go.Proofs.Qxb6500421aGreat
open Go.RowKit Go.PlainAid
set_option linter.unusedSimpArgs false
set_option linter.unusedVariables false


theorem run_copy_rowK {P : Program} (w : World) (dT sT ty elem : TypeId) (g n : Nat) (a : Addr) (sCap k : Nat) (cur : Array Value) (t : TypeId) (cs : List Value)
    (hu : P.underlying dT = some (.slice elem)) (hs : (P.info? elem).map (·.size) = some k)
    (hg : w.heap[g]? = some (.cells cur t (0, 0))) (hn : cs.length = n * k)
    (hsrc : ∀ j v, cs[j]? = some v → w.cell? (a.add j) = some v) (hfit : cs.length = cur.size) (h1 : ∀ v ∈ cs, v.oneCell' = true) :
    (Builtin.copy_ #[dT, sT] ty #[.slice (some ⟨g, 0, none⟩) n n, .slice (some a) n sCap]).run P w = .ok (goInt n) (w.setRow g cs.toArray) := by
  have hl := run_loadCells_list (P := P) w a cs hsrc
  have hst := run_storeCells_at P g 0 t cs 0 cur w hg (by omega) h1
  have e0 : (cur.toList.take 0 ++ cs ++ cur.toList.drop (0 + cs.length)).toArray = cs.toArray := by
    rw [List.drop_of_length_le (by simp; omega)]
    simp
  have hd : cur.toList.drop cs.length = [] := List.drop_of_length_le (by simp; omega)
  cases hq : P.info? elem with
  | none => simp [hq] at hs
  | some i =>
    have hi : i.size = k := by simpa [hq] using hs
    have hmin : Nat.min n n = n := Nat.min_self n
    rw [hn] at hl
    simp [Builtin.copy_, run_underlying hu, Builtin.lenOf, Builtin.firstCells, sizeOf, typeInfo, hq, hi, hmin, hl, hst, Nat.mul_comm, hd]
theorem run_copy_noneK {P : Program} (w : World) (dT sT ty elem : TypeId) (d a : Option Addr) (sCap dCap k : Nat) (hu : P.underlying dT = some (.slice elem)) (hs : (P.info? elem).map (·.size) = some k) :
    (Builtin.copy_ #[dT, sT] ty #[.slice d 0 dCap, .slice a 0 sCap]).run P w = .ok (goInt 0) w := by
  cases hq : P.info? elem with
  | none => simp [hq] at hs
  | some i =>
    have hl : ∀ (x : Addr), (loadCells x 0).run P w = .ok #[] w := fun x => by simpa using run_loadCells_list (P := P) w x [] (by simp)
    cases d <;> cases a <;> simp [Builtin.copy_, run_underlying hu, Builtin.lenOf, Builtin.firstCells, sizeOf, typeInfo, hq, storeCells, hl]
theorem enCells_one (l : List En) : ∀ v ∈ enCells l, v.oneCell' = true := by
  induction l with
  | nil => intro v hv; simp [enCells] at hv
  | cons e l ih =>
    intro v hv
    have : enCells (e :: l) = enV e ++ enCells l := rfl
    rw [this, List.mem_append] at hv
    rcases hv with hv | hv
    · simp [enV] at hv
      rcases hv with rfl | rfl | rfl <;> rfl
    · exact ih v hv
theorem enCells_src {w : World} {g : Nat} {l : List En} (hc : ∀ i (h : i < l.length), w.cell? ⟨g, i * 3, none⟩ = some (.string (sb l[i].path)) ∧ w.cell? ⟨g, i * 3 + 1, none⟩ = some (.int .i64 l[i].id) ∧ w.cell? ⟨g, i * 3 + 2, none⟩ = some (.int .i64 l[i].mode)) (j : Nat) (v : Value) (hv : (enCells l)[j]? = some v) : w.cell? ⟨g, j, none⟩ = some v := by
  have hj : j < (enCells l).length := by
    by_cases h : j < (enCells l).length
    · exact h
    · rw [List.getElem?_eq_none (by omega)] at hv; cases hv
  rw [enCells_len] at hj
  have hi : j / 3 < l.length := by omega
  obtain ⟨a0, a1, a2⟩ := enCells_at l (j / 3) hi
  obtain ⟨b0, b1, b2⟩ := hc (j / 3) hi
  have h3 : j % 3 = 0 ∨ j % 3 = 1 ∨ j % 3 = 2 := by omega
  rcases h3 with h3 | h3 | h3
  · have e : j = j / 3 * 3 := by omega
    rw [e] at hv ⊢
    rw [a0] at hv
    rw [b0]; exact hv
  · have e : j = j / 3 * 3 + 1 := by omega
    rw [e] at hv ⊢
    rw [a1] at hv
    rw [b1]; exact hv
  · have e : j = j / 3 * 3 + 2 := by omega
    rw [e] at hv ⊢
    rw [a2] at hv
    rw [b2]; exact hv
set_option maxRecDepth 100000 in
theorem copyE_any {w : World} (v : Value) (l : List En) (h : EntsIn w v l) (hn : l.length ≤ 1000) :
    Calls Tryz.prog 62 #[v] w fun e w' => ∃ v', e = .returned v' ∧ OwnE w' v' l ∧ (∀ y, v'.ownBlock = some y → w.heap.size ≤ y) ∧ Only (fun _ => False) w w' := by
  obtain ⟨a, cap, rfl, hc⟩ := h
  obtain ⟨i0, hi0, hz0, hz1, hz2⟩ := info_parts Tryz.infoEntry
  obtain ⟨n, hnn⟩ : ∃ n, n = l.length := ⟨_, rfl⟩
  obtain ⟨Z, hZ, hmk⟩ : ∃ Z : Array Value, Z.size = n * 3 ∧ (Instr.makeSlice 37 (.int .i64 (n : Int)) (.int .i64 (n : Int))).run Tryz.prog w = .ok (.slice (some ⟨w.heap.size, 0, none⟩) n n) (w.alloc (.cells Z 67)) := by
    have := run_make (P := Tryz.prog) w 37 67 i0 _ Tryz.underlying37 hi0 hz0 .i64 .i64 (n : Int) (n : Int) (by omega) (by omega) (by rw [hz2]; omega) (by omega)
    refine ⟨_, ?_, this⟩
    rw [size_madeCells, hz1]
    simp
  have hsz : (Tryz.prog.info? 67).map (·.size) = some 3 := by rw [hi0]; simp [hz1]
  have hown : OwnE (w.alloc (.cells (enCells l).toArray 67)) (.slice (some ⟨w.heap.size, 0, none⟩) n n) l := by
    refine ⟨by rw [enCells_len], .inr ⟨w.heap.size, n, (enCells l).toArray, by rw [hnn], ?_, heap_alloc_new w _, by omega, by unfold maxLen; omega, by simp [enCells_len, hnn], ?_⟩⟩
    · omega
    · simp
      exact List.take_of_length_le (by rw [enCells_len]; exact Nat.le_refl _)
  have oA : Only (fun _ => False) w (w.alloc (.cells (enCells l).toArray 67)) := (Only.refl _ w).alloc _
  have hcp : ∀ ty, (Builtin.copy_ #[37, 37] ty #[.slice (some ⟨w.heap.size, 0, none⟩) n n, .slice a n cap]).run Tryz.prog (w.alloc (.cells Z 67)) = .ok (goInt n) (w.alloc (.cells (enCells l).toArray 67)) := fun ty => by
    by_cases h0 : n = 0
    · have hl0 : l = [] := List.eq_nil_of_length_eq_zero (by omega)
      have hZ0 : Z = #[] := by
        apply Array.eq_empty_of_size_eq_zero
        omega
      subst hl0
      rw [hZ0, h0]
      exact run_copy_noneK (P := Tryz.prog) _ 37 37 ty 67 _ _ cap 0 3 Tryz.underlying37 hsz
    · obtain ⟨g, rfl, hcell⟩ := hc (by omega)
      have hgl : g < w.heap.size := World.block_lt_of_cell? w _ (hcell 0 (by omega)).1
      have hk := run_copy_rowK (P := Tryz.prog) (w.alloc (.cells Z 67)) 37 37 ty 67 w.heap.size n ⟨g, 0, none⟩ cap 3 Z 67 (enCells l) Tryz.underlying37 hsz (heap_alloc_new w _) (by rw [enCells_len, hnn]) (fun j v hv => by
        rw [addr_add]
        have e2 : (w.alloc (.cells Z 67)).cell? ⟨g, j, none⟩ = w.cell? ⟨g, j, none⟩ := World.cell?_of_block (Below.heap_alloc _ _ _ hgl)
        rw [e2]
        exact enCells_src hcell j v hv) (by rw [enCells_len, hZ, hnn]) (enCells_one l)
      rw [hk, setRow_allocO]
  have HN := hide hown
  have OA := hide oA
  rw [← hnn]
  clear hc hown oA hnn
  go_enter Tryz.func62, Tryz.ntmps62
  go_wp2
  go_ret
  exact ⟨_, rfl, unhide HN, fun y hy => by simp [Value.ownBlock] at hy; omega, unhide OA⟩
end Go.Proofs.Qxb6500421aGreat
