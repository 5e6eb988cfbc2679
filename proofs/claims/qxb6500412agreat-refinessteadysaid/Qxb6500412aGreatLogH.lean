/-
  OWN WORK. THE LOG's HEADER.
-/
import Derived.Test.Qxb6500412aGreatLogW
namespace Go.Proofs.Qxb6500412aGreat
open Go.RowKit
set_option linter.unusedSimpArgs false
set_option linter.unusedVariables false

def u8s (l : List UInt8) : Array Value := (l.map fun b => Value.int .u8 b.toNat).toArray
theorem u8s_get (l : List UInt8) (i : Nat) (h : i < l.length) : (u8s l)[i]? = some (.int .u8 l[i].toNat) := by simp [u8s, h]
theorem u8s_set (l : List UInt8) (i : Nat) (x : UInt8) : (u8s l).setIfInBounds i (.int .u8 x.toNat) = u8s (l.set i x) := by simp [u8s, List.map_set]
def bzeros (n : Nat) : List UInt8 := List.replicate n 0
@[simp] theorem bzeros_length (n : Nat) : (bzeros n).length = n := by simp [bzeros]
theorem Tryz.infoU8 : (Tryz.prog.info? 5).map (fun i => (i.zero, i.size, i.bytes)) = some (some (.int .u8 0), 1, 1) := by kernel_rfl
theorem run_make_u8s (w : World) (n : Nat) (hn : n ≤ 1000000) :
    (Instr.makeSlice 282 (.int .i64 n) (.int .i64 n)).run Tryz.prog w = .ok (.slice (some ⟨w.heap.size, 0, none⟩) n n) (w.alloc (.cells (u8s (bzeros n)) 5)) := by
  obtain ⟨i, hi, hz, hs, hb⟩ := info_parts Tryz.infoU8
  have := run_make (P := Tryz.prog) w 282 5 i _ Tryz.underlying282 hi hz .i64 .i64 (n : Int) (n : Int) (by omega) (by omega) (by rw [hb]; omega) (by omega)
  rw [this]
  simp [hs, Value.cells, madeCells_one, u8s, bzeros]

/-- The header that names ns: its bytes. -/
def headBytes (ns : List Nat) (k : Nat) : List UInt8 := UInt8.ofNat ns.length :: ((ns.take k).map UInt8.ofNat ++ bzeros (127 - k))
theorem headBytes_length (ns : List Nat) (k : Nat) (h : k ≤ ns.length) (h' : ns.length ≤ 72) : (headBytes ns k).length = 128 := by
  unfold headBytes; simp; omega
theorem headBytes_set (ns : List Nat) (k : Nat) (h : k < ns.length) (h' : ns.length ≤ 72) : (headBytes ns k).set (1 + k) (UInt8.ofNat ns[k]) = headBytes ns (k + 1) := by
  unfold headBytes
  rw [Nat.add_comm 1 k, List.set_cons_succ, List.set_append_right _ _ (by simp; omega)]
  congr 1
  rw [List.take_succ_eq_append_getElem h, List.map_append, List.append_assoc]
  congr 1
  have e1 : k - ((ns.take k).map UInt8.ofNat).length = 0 := by simp; omega
  have e2 : 127 - k = (127 - (k + 1)) + 1 := by omega
  rw [e1, bzeros, e2, List.replicate_succ]
  simp [bzeros]
def header (ns : List Nat) : ByteArray := ⟨(headBytes ns ns.length).toArray⟩

theorem u8_wrap (n : Nat) (h : n < 256) : ((UInt8.ofNat n).toNat : Int) = n := by
  rw [UInt8.toNat_ofNat']; omega

set_option maxRecDepth 100000 in
set_option maxHeartbeats 1000000 in
theorem headerOf_any (nb : Nat) (ns : List Nat) (gn : List Int) (w : World) (h2 : Has w nb (ints (ns.map (fun e : Nat => (e : Int)) ++ gn)) 3) (hl : ns.length + gn.length = 72) (hn : ∀ n ∈ ns, n < 80) :
    Calls Tryz.prog 287 #[.slice (some ⟨nb, 0, none⟩) 72 72, .int .i64 ns.length] w fun e w' => e = .returned (.string (header ns)) ∧ Only (fun _ => False) w w' := by
  have hmk : ∀ w, (Instr.makeSlice 282 (.int .i64 128) (.int .i64 128)).run Tryz.prog w = .ok (.slice (some ⟨w.heap.size, 0, none⟩) 128 128) (w.alloc (.cells (u8s (bzeros 128)) 5)) := fun w => run_make_u8s w 128 (by omega)
  have hc0 : (u8s (bzeros 128))[0]? = some (.int .u8 0) := by rw [u8s_get _ _ (by simp)]; simp [bzeros]
  go_enter Tryz.func287, Tryz.ntmps287
  go_wp2
  have hst : (u8s (bzeros 128)).setIfInBounds 0 (Value.int .u8 ns.length) = u8s (headBytes ns 0) := by
    rw [← u8_wrap ns.length (by omega), u8s_set]
    have e : (128 : Nat) = 127 + 1 := rfl
    rw [bzeros, e, List.replicate_succ]
    simp [headBytes, bzeros]
  simp only [hst]
  clear hst hmk hc0
  go_loopw [6] (fun i wr => ∃ k : Nat, k ≤ ns.length ∧ i = .int .i64 k ∧ wr = w.alloc (.cells (u8s (headBytes ns k)) 5)) (fun i _ => ns.length - (intOf i).toNat)
  case atStart => exact ⟨0, Nat.zero_le _, rfl, rfl⟩
  case round =>
    obtain ⟨k, hk, rfl, rfl⟩ := hrel
    by_cases hkn : k < ns.length
    · have hb := hn _ (List.getElem_mem hkn)
      have c1 := h2.cell k
      rw [ints_get _ _ (by simp; omega), List.getElem_append_left (by simpa using hkn)] at c1
      simp only [List.getElem_map] at c1
      have hlt := h2.lt
      have hs := headBytes_set ns k hkn (by omega)
      have hs2 : (u8s (headBytes ns k)).setIfInBounds (1 + k) (Value.int .u8 ns[k]) = u8s (headBytes ns (k + 1)) := by
        rw [← u8_wrap ns[k] (by omega), u8s_set, hs]
      have hc : (u8s (headBytes ns k))[1 + k]? = some (.int .u8 (((headBytes ns k)[1 + k]'(by rw [headBytes_length ns k hk (by omega)]; omega)).toNat : Int)) := by
        rw [u8s_get _ _ (by rw [headBytes_length ns k hk (by omega)]; omega)]
      have hkI : (k : Int) < (ns.length : Int) := by omega
      have hk72 : (k : Int) < 72 := by omega
      generalize ((headBytes ns k)[1 + k]'(by rw [headBytes_length ns k hk (by omega)]; omega)).toNat = old at hc
      generalize ns[k] = nk at *
      have Hs2 := hide hs2
      clear hs2 hs
      go_wp2
      go_roundw
      case rel => exact ⟨k + 1, by omega, by go_num, by rw [← unhide Hs2]⟩
      case measure => simp [intOf]; omega
    · obtain rfl : k = ns.length := by omega
      have hl := headBytes_length ns ns.length (Nat.le_refl _) (by omega)
      have hcv := run_convert_bytes_back (P := Tryz.prog) (w.alloc (.cells (u8s (headBytes ns ns.length)) 5)) 282 137 5 ⟨w.heap.size, 0, none⟩ 128 (headBytes ns ns.length) Tryz.underlying282 Tryz.underlying5 Tryz.underlying137 (fun j hj => by
        rw [addr_add, (Has.new w _ 5).cell, u8s_get _ _ hj])
      rw [hl] at hcv
      have hd : decide ((ns.length : Int) < (ns.length : Int)) = false := by simp
      clear hl
      go_wp2
      go_ret
      exact ⟨rfl, (Only.refl _ w).alloc _⟩
end Go.Proofs.Qxb6500412aGreat
