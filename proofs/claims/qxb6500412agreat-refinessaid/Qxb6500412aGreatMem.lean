/-
  OWN WORK. BLOCKS MADE AND COPIED.
-/
import Derived.Test.Qxb6500412aGreatLeaf
namespace Go.Proofs.Qxb6500412aGreat
open Go.RowKit
set_option linter.unusedSimpArgs false
set_option linter.unusedVariables false

theorem madeCells_one (v : Value) (n : Nat) : madeCells #[v] n = Array.replicate n v := by
  apply Array.ext
  · simp [madeCells]
  · intro i h1 h2
    simp [madeCells, Nat.mod_one]

theorem Tryz.infoBlock : (Tryz.prog.info? 137).map (fun i => (i.zero, i.size, i.bytes)) = some (some (.string ⟨#[]⟩), 1, 16) := by kernel_rfl

def emptyB : ByteArray := ⟨#[]⟩

theorem run_make_strs (w : World) (n : Nat) (hn : n ≤ 1000000) :
    (Instr.makeSlice 122 (.int .i64 n) (.int .i64 n)).run Tryz.prog w = .ok (.slice (some ⟨w.heap.size, 0, none⟩) n n) (w.alloc (.cells (strs (List.replicate n emptyB)) 137)) := by
  obtain ⟨i, hi, hz, hs, hb⟩ := info_parts Tryz.infoBlock
  have := run_make (P := Tryz.prog) w 122 137 i _ Tryz.underlying122 hi hz .i64 .i64 (n : Int) (n : Int) (by omega) (by omega) (by rw [hb]; omega) (by omega)
  rw [this]
  simp [hs, Value.cells, madeCells_one, strs, emptyB]

theorem setRow_alloc (w : World) (c d : Array Value) (t : TypeId) : (w.alloc (.cells c t)).setRow w.heap.size d = w.alloc (.cells d t) := by
  unfold World.setRow World.alloc
  congr 1
  apply Array.ext_getElem?
  intro k
  simp only [Array.getElem?_modify, Array.getElem?_push]
  by_cases hk : k = w.heap.size
  · subst hk; simp
  · simp [hk]; intro h; omega

theorem run_copy_strs (w : World) (b : Nat) (xs : List ByteArray) (hx : Has w b (strs xs) 137) (ty : TypeId) :
    (Builtin.copy_ #[122, 122] ty #[.slice (some ⟨w.heap.size, 0, none⟩) xs.length xs.length, .slice (some ⟨b, 0, none⟩) xs.length xs.length]).run Tryz.prog (w.alloc (.cells (strs (List.replicate xs.length emptyB)) 137)) =
      .ok (goInt xs.length) (w.alloc (.cells (strs xs) 137)) := by
  obtain ⟨i, hi, hz, hs, hb⟩ := info_parts Tryz.infoBlock
  have h := run_copy_row (P := Tryz.prog) (w.alloc (.cells (strs (List.replicate xs.length emptyB)) 137)) 122 122 ty 137 w.heap.size 0 xs.length xs.length ⟨b, 0, none⟩ xs.length xs.length (strs (List.replicate xs.length emptyB)) 137 (xs.map Value.string)
    Tryz.underlying122 (by rw [hi]; simp [hs]) (heap_alloc_new w _) (by simp) ?_ (by simp) ?_
  · rw [h, setRow_alloc]
    simp [strs]
  · intro j v hv
    rw [addr_add, (hx.alloc _).cell]
    simpa [strs] using hv
  · intro v hv
    simp at hv
    obtain ⟨a, _, rfl⟩ := hv
    rfl

set_option maxRecDepth 100000 in
theorem copyBlocks_any (b : Nat) (xs : List ByteArray) (w : World) (hx : Has w b (strs xs) 137) (hn : xs.length ≤ 1000000) :
    Calls Tryz.prog 84 #[.slice (some ⟨b, 0, none⟩) xs.length xs.length] w fun e w' => e = .returned (.slice (some ⟨w.heap.size, 0, none⟩) xs.length xs.length) ∧ w' = w.alloc (.cells (strs xs) 137) := by
  have hmk := run_make_strs w xs.length hn
  have hcp := run_copy_strs w b xs hx
  go_enter Tryz.func84, Tryz.ntmps84
  go_wp2
  go_ret
  exact ⟨rfl, rfl⟩

theorem copyBlocks_n (b n : Nat) (xs : List ByteArray) (w : World) (hx : Has w b (strs xs) 137) (hn : xs.length = n) (hm : n ≤ 1000000) :
    Calls Tryz.prog 84 #[.slice (some ⟨b, 0, none⟩) n n] w fun e w' => e = .returned (.slice (some ⟨w.heap.size, 0, none⟩) n n) ∧ w' = w.alloc (.cells (strs xs) 137) := by
  subst hn
  exact copyBlocks_any b xs w hx hm

theorem fill_set (k n : Nat) (a b : ByteArray) (h : k < n) : (strs (List.replicate k a ++ List.replicate (n - k) b)).setIfInBounds k (.string a) = strs (List.replicate (k + 1) a ++ List.replicate (n - (k + 1)) b) := by
  rw [strs_set]
  congr 1
  obtain ⟨m, rfl⟩ : ∃ m, n = k + 1 + m := ⟨n - k - 1, by omega⟩
  have e1 : k + 1 + m - k = m + 1 := by omega
  have e2 : k + 1 + m - (k + 1) = m := by omega
  rw [e1, e2, List.replicate_succ, List.replicate_succ']
  simp

set_option maxRecDepth 100000 in
set_option maxHeartbeats 400000 in
theorem blocks_any (n : Nat) (w : World) (hn : n ≤ 1000000) :
    Calls Tryz.prog 77 #[.int .i64 n] w fun e w' => e = .returned (.slice (some ⟨w.heap.size, 0, none⟩) n n) ∧ w' = w.alloc (.cells (strs (zeros n)) 137) := by
  have hmk := run_make_strs w n hn
  go_enter Tryz.func77, Tryz.ntmps77
  go_wp2
  clear hmk
  go_loopw [4] (fun i wr => ∃ k : Nat, k ≤ n ∧ i = .int .i64 k ∧ wr = w.alloc (.cells (strs (List.replicate k zeroB ++ List.replicate (n - k) emptyB)) 137)) (fun i _ => n - (intOf i).toNat)
  case atStart => exact ⟨0, Nat.zero_le _, rfl, by simp⟩
  case round =>
    obtain ⟨k, hk, rfl, rfl⟩ := hrel
    by_cases hkn : k < n
    · have hf := fill_set k n zeroB emptyB hkn
      have Hf := hide hf
      clear hf
      have hc : (strs (List.replicate k zeroB ++ List.replicate (n - k) emptyB))[k]? = some (.string emptyB) := by
        rw [strs_get _ _ (by simp; omega)]; simp
      go_wp2
      go_roundw
      case rel => exact ⟨k + 1, by omega, by go_num, by rw [← unhide Hf, ← zero_lit]⟩
      case measure => simp [intOf]; omega
    · go_wp2
      go_ret
      obtain rfl : k = n := by omega
      exact ⟨rfl, by simp [zeros]⟩
end Go.Proofs.Qxb6500412aGreat
