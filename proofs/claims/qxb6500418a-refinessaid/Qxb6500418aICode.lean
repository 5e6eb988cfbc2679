/-
  OWN WORK. THE MODEL's STATUS: code.
-/
import Derived.Test.Qxb6500418aIChg
namespace Go.Proofs.Qxb6500418a
open Go.RowKit Go.PlainAid
set_option linter.unusedSimpArgs false
set_option linter.unusedVariables false

def statErr (H W : List Fl) : Nat := if checkF H = 0 then checkF W else checkF H
/-- Row j of a list of files, in any later world. -/
theorem files_at {w W : World} {a : Option Addr} {l : List Fl} (hc : 0 < l.length → ∃ g, a = some ⟨g, 0, none⟩ ∧ ∀ i (h : i < l.length), w.cell? ⟨g, i * 3, none⟩ = some (.string l[i].path) ∧ w.cell? ⟨g, i * 3 + 1, none⟩ = some (.string l[i].data) ∧ w.cell? ⟨g, i * 3 + 2, none⟩ = some (.int .i64 l[i].mode)) (ho : Only (fun _ => False) w W) (j : Nat) (hj : j < l.length) :
    ∃ g, a = some ⟨g, 0, none⟩ ∧ g < W.heap.size ∧ W.cell? ⟨g, j * 3, none⟩ = some (.string l[j].path) ∧ W.cell? ⟨g, j * 3 + 1, none⟩ = some (.string l[j].data) ∧ W.cell? ⟨g, j * 3 + 2, none⟩ = some (.int .i64 l[j].mode) := by
  obtain ⟨g, rfl, h⟩ := hc (by omega)
  obtain ⟨c0, c1, c2⟩ := h j hj
  have hgl : g < w.heap.size := World.block_lt_of_cell? w _ c0
  have hbk := ho.block g hgl (fun h => h)
  rw [← World.cell?_of_block hbk] at c0 c1 c2
  exact ⟨g, rfl, Nat.lt_of_lt_of_le hgl ho.size, c0, c1, c2⟩
theorem rows_at {w W : World} {a : Option Addr} {l : List Fl} (hc : 0 < l.length → ∃ g, a = some ⟨g, 0, none⟩ ∧ ∀ i (h : i < l.length), w.cell? ⟨g, i * 5, none⟩ = some (.string l[i].path) ∧ w.cell? ⟨g, i * 5 + 1, none⟩ = some (.string l[i].data) ∧ w.cell? ⟨g, i * 5 + 2, none⟩ = some (.int .i64 l[i].mode) ∧ w.cell? ⟨g, i * 5 + 3, none⟩ = some (.int .i64 (l[i].data.size : Int)) ∧ w.cell? ⟨g, i * 5 + 4, none⟩ = some (.int .i64 (hashL (ls l[i].data) : Int))) (ho : Only (fun _ => False) w W) (j : Nat) (hj : j < l.length) :
    ∃ g, a = some ⟨g, 0, none⟩ ∧ g < W.heap.size ∧ W.cell? ⟨g, j * 5, none⟩ = some (.string l[j].path) ∧ W.cell? ⟨g, j * 5 + 1, none⟩ = some (.string l[j].data) ∧ W.cell? ⟨g, j * 5 + 2, none⟩ = some (.int .i64 l[j].mode) ∧ W.cell? ⟨g, j * 5 + 3, none⟩ = some (.int .i64 (l[j].data.size : Int)) ∧ W.cell? ⟨g, j * 5 + 4, none⟩ = some (.int .i64 (hashL (ls l[j].data) : Int)) := by
  obtain ⟨g, rfl, h⟩ := hc (by omega)
  obtain ⟨c0, c1, c2, c3, c4⟩ := h j hj
  have hgl : g < w.heap.size := World.block_lt_of_cell? w _ c0
  have hbk := ho.block g hgl (fun h => h)
  rw [← World.cell?_of_block hbk] at c0 c1 c2 c3 c4
  exact ⟨g, rfl, Nat.lt_of_lt_of_le hgl ho.size, c0, c1, c2, c3, c4⟩
theorem findI_row (l : List Fl) (p : ByteArray) : (findI l p = -1 ∧ rowO l p = none) ∨ ∃ i, ∃ h : i < l.length, findI l p = (i : Int) ∧ rowO l p = some l[i] := by
  unfold findI rowO
  cases hf : l.findIdx? (fun f => decide (f.path = p)) with
  | none =>
    left
    refine ⟨rfl, ?_⟩
    rw [List.findIdx?_eq_none_iff] at hf
    rw [List.find?_eq_none]
    intro f hf'
    simpa using hf f hf'
  | some i =>
    right
    rw [List.findIdx?_eq_some_iff_getElem] at hf
    obtain ⟨h1, h2, h3⟩ := hf
    refine ⟨i, h1, rfl, ?_⟩
    rw [List.find?_eq_some_iff_getElem]
    refine ⟨h2, i, h1, rfl, fun j hj => ?_⟩
    simpa using h3 j hj
set_option maxRecDepth 100000 in
set_option maxHeartbeats 1000000 in
theorem code_any {w : World} (v u : Value) (A B : List Fl) (p : ByteArray) (m : Bool) (hA : FilesIn w v A) (hB : FilesIn w u B) :
    Calls Try.prog 60 #[v, .int .i64 (findI A p), u, .int .i64 (findI B p), .bool m] w fun e w' => e = .returned (.int .i64 (codeM (rowO A p) (rowO B p) m : Nat)) ∧ Only (fun _ => False) w w' := by
  rcases findI_row A p with ⟨e1, r1⟩ | ⟨i, hi, e1, r1⟩
  · rcases findI_row B p with ⟨e2, r2⟩ | ⟨j, hj, e2, r2⟩
    · rw [e1, e2, r1, r2]
      go_enter Try.func60, Try.ntmps60
      go_wp2_with fail
      go_ret
      exact ⟨rfl, Only.refl _ _⟩
    · rw [e1, e2, r1, r2]
      have a2 : decide ((j : Int) < 0) = false := by simp
      clear hA hB e1 e2 r1 r2
      generalize B[j] = fb
      go_enter Try.func60, Try.ntmps60
      go_wp2_with fail
      go_ret
      exact ⟨rfl, Only.refl _ _⟩
  · have a1 : decide ((i : Int) < 0) = false := by simp
    rcases findI_row B p with ⟨e2, r2⟩ | ⟨j, hj, e2, r2⟩
    · rw [e1, e2, r1, r2]
      clear hA hB e1 e2 r1 r2
      generalize A[i] = fa
      go_enter Try.func60, Try.ntmps60
      go_wp2_with fail
      go_ret
      exact ⟨rfl, Only.refl _ _⟩
    · rw [e1, e2, r1, r2]
      have a2 : decide ((j : Int) < 0) = false := by simp
      obtain ⟨av, capa, rfl, hcA⟩ := hA
      obtain ⟨bv, capb, rfl, hcB⟩ := hB
      obtain ⟨ga, rfl, hdA⟩ := hcA (by omega)
      obtain ⟨gb, rfl, hdB⟩ := hcB (by omega)
      obtain ⟨_, x1, x2⟩ := hdA i hi
      obtain ⟨_, y1, y2⟩ := hdB j hj
      have l1 : ga < w.heap.size := World.block_lt_of_cell? w _ x1
      have l2 : gb < w.heap.size := World.block_lt_of_cell? w _ y1
      have b1 : (i : Int) < (A.length : Int) := by omega
      have b2 : (j : Int) < (B.length : Int) := by omega
      have hcode : codeM (some A[i]) (some B[j]) m = if A[i].data = B[j].data ∧ (m = true → A[i].mode = B[j].mode) then 0 else 2 := rfl
      rw [hcode]
      clear hcode hcA hcB hdA hdB e1 e2 r1 r2
      generalize A[i] = fa at *
      generalize B[j] = fb at *
      by_cases hd : fa.data = fb.data
      · have hd1 : (fa.data.toList == fb.data.toList) = true := by rw [hd]; simp
        by_cases hm : m = true
        · by_cases hmm : fa.mode = fb.mode
          · have hm1 : (fa.mode != fb.mode) = false := by rw [hmm]; simp
            rw [if_pos ⟨hd, fun _ => hmm⟩]
            clear hd hmm
            subst hm
            go_enter Try.func60, Try.ntmps60
            go_wp2_with fail
            go_quiet (fail)
            have ho := (Only.refl (fun _ => False) w).drewO nq
            generalize w.drewN nq = W1 at *
            go_wp2_with fail
            go_ret
            exact ⟨rfl, ho⟩
          · have hm1 : (fa.mode != fb.mode) = true := by simpa using hmm
            rw [if_neg (fun h => hmm (h.2 hm))]
            clear hd hmm
            subst hm
            go_enter Try.func60, Try.ntmps60
            go_wp2_with fail
            go_quiet (fail)
            have ho := (Only.refl (fun _ => False) w).drewO nq
            generalize w.drewN nq = W1 at *
            go_wp2_with fail
            go_ret
            exact ⟨rfl, ho⟩
        · have hm' : m = false := by simpa using hm
          rw [if_pos ⟨hd, fun h => absurd h hm⟩]
          clear hd hm
          subst hm'
          go_enter Try.func60, Try.ntmps60
          go_wp2_with fail
          go_quiet (fail)
          have ho := (Only.refl (fun _ => False) w).drewO nq
          generalize w.drewN nq = W1 at *
          go_wp2_with fail
          go_ret
          exact ⟨rfl, ho⟩
      · have hd1 : (fa.data.toList == fb.data.toList) = false := str_ne hd
        rw [if_neg (fun h => hd h.1)]
        clear hd
        go_enter Try.func60, Try.ntmps60
        go_wp2_with fail
        go_quiet (fail)
        have ho := (Only.refl (fun _ => False) w).drewO nq
        generalize w.drewN nq = W1 at *
        go_wp2_with fail
        go_ret
        exact ⟨rfl, ho⟩
end Go.Proofs.Qxb6500418a
