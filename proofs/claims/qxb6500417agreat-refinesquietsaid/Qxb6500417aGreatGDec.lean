/-
  OWN WORK. THE GRAPH: the bytes of its objects are read: seqAt, nameAt.
-/
import Derived.Test.Qxb6500417aGreatGCod3
import Derived.Test.Qxb6500417aGreatTRowsW
namespace Go.Proofs.Qxb6500417aGreat
open Go.RowKit Go.PlainAid
set_option linter.unusedSimpArgs false
set_option linter.unusedVariables false

theorem shl_or (x b : Nat) (hb : b < 256) : (x * 256) ||| b = x * 256 + b := by
  have h := Nat.shiftLeft_add_eq_or_of_lt (i := 8) (b := b) (by simpa using hb) x
  rw [Nat.shiftLeft_eq] at h
  exact h.symm
theorem div_step (n k : Nat) : n / 256 ^ k = n / 256 ^ (k + 1) * 256 + n / 256 ^ k % 256 := by
  rw [Nat.pow_succ, ← Nat.div_div_eq_div_mul]
  omega
theorem seq8_at (n k : Nat) (hk : k < 8) (l : List Nat) : dF (seq8 n ++ l) k = n / 256 ^ k % 256 := by
  unfold dF
  rw [List.getD_eq_getElem?_getD, List.getElem?_append_left (by rw [seq8_len]; exact hk)]
  simp [seq8, hk]
/-- The cells of bytes, to be read. -/
theorem BytesAt.cells {w : World} {v : Value} {n : Nat} {x : Nat → Nat} (h : BytesAt w v n x) (hn : 0 < n) : ∃ g cap, v = .slice (some ⟨g, 0, none⟩) n cap ∧ ∀ j, j < n → w.cell? ⟨g, j, none⟩ = some (.int .u8 (x j : Int)) := by
  obtain ⟨a, cap, rfl, h2⟩ := h
  obtain ⟨g, rfl, hc⟩ := h2 hn
  exact ⟨g, cap, rfl, hc⟩
set_option maxRecDepth 100000 in
set_option maxHeartbeats 2000000 in
theorem seqAt_any {w : World} (v : Value) (n : Nat) (l : List Nat) (N : Nat) (hN : (seq8 n ++ l).length = N) (h : BytesAt w v N (dF (seq8 n ++ l))) (hn : n < 4611686018427387904) :
    Calls Tryz.prog 169 #[v] w fun e w' => e = .returned (.int .i64 n) ∧ w = w' := by
  have hl : 8 ≤ N := by rw [← hN]; simp [seq8_len]
  obtain ⟨g, cap, rfl, hc⟩ := h.cells (by omega)
  have Hc := hide hc
  have h8 : n / 256 ^ 8 = 0 := Nat.div_eq_of_lt (by omega)
  have H8 := hide h8
  have HN := hide hN
  clear h hc h8 hN
  go_enter Tryz.func169, Tryz.ntmps169
  go_wp2_with fail
  go_loop [3, 4] (fun xv iv => ∃ k : Nat, k ≤ 8 ∧ iv = .int .i64 ((k : Int) - 1) ∧ xv = .int .u64 ((n / 256 ^ k : Nat) : Int)) (fun _ iv => (intOf iv + 1).toNat)
  case atStart => exact ⟨8, by omega, by simp, by rw [unhide H8]; simp⟩
  case round =>
    clear H8
    obtain ⟨k, hk, rfl, rfl⟩ := hrel
    by_cases h0 : k = 0
    · subst h0
      have a1 : decide ((0 : Int) ≤ ((0 : Nat) : Int) - 1) = false := by simp
      have x1 : n / 256 ^ 0 = n := by simp
      rw [x1]
      have cw : IntKind.i64.wrap (n : Int) = (n : Int) := by rw [IntKind.wrap_i64]; omega
      go_wp2_with fail
      go_ret
      exact ⟨rfl, rfl⟩
    · obtain ⟨j, rfl⟩ : ∃ j, k = j + 1 := ⟨k - 1, by omega⟩
      have e1 : (((j + 1 : Nat) : Int) - 1) = (j : Int) := by omega
      rw [e1]
      have a1 : decide ((0 : Int) ≤ (j : Int)) = true := by simp
      have a2 : (j : Int) < (N : Int) := by omega
      have b := unhide Hc j (by omega)
      rw [seq8_at n j (by omega)] at b
      have hst := div_step n j
      have hle : n / 256 ^ (j + 1) * 256 ≤ n := by
        have : n / 256 ^ j ≤ n := Nat.div_le_self _ _
        omega
      generalize hx : n / 256 ^ (j + 1) = x at *
      generalize hy : n / 256 ^ j % 256 = y at *
      have hy256 : y < 256 := by rw [← hy]; exact Nat.mod_lt _ (by omega)
      have w1 : IntKind.u64.wrap ((x : Int) * 2 ^ 8) = ((x * 256 : Nat) : Int) := by rw [IntKind.wrap_u64]; omega
      have w1' : IntKind.u64.wrap ((x : Int) * 256) = ((x * 256 : Nat) : Int) := by rw [IntKind.wrap_u64]; omega
      have w2 : IntKind.u64.wrap (y : Int) = (y : Int) := by rw [IntKind.wrap_u64]; omega
      have e3 := bits_or_u64_nat (x * 256) y (by omega) (by omega)
      rw [shl_or x y hy256, ← hst] at e3
      have Hst := hide hst
      clear hst hx hy
      go_wp2_with fail
      go_round
      case rel =>
        refine ⟨j, by omega, by go_num, ?_⟩
        have e4 : ((x : Int) * 256) = ((x * 256 : Nat) : Int) := by omega
        rw [e4, e3]
      case measure => simp [intOf]
/-- A piece of bytes as a string. -/
theorem piece_conv {w : World} {g n : Nat} {dat : List Nat} (hn : dat.length = n) (hc : ∀ j, j < n → w.cell? ⟨g, j, none⟩ = some (.int .u8 (dF dat j : Int))) (h8 : ∀ x ∈ dat, x < 256) (i m : Nat) (him : i + m ≤ n) (off c : Nat) (hoff : off = i ∨ m = 0) :
    (convert 90 9 (.slice (some ⟨g, off, none⟩) m c)).run Tryz.prog w = .ok (.string (bsOf ((dat.drop i).take m))) w := by
  have hl : (((dat.drop i).take m).map UInt8.ofNat).length = m := by simp; omega
  have := run_convert_bytes_back (P := Tryz.prog) w 90 9 5 ⟨g, off, none⟩ c (((dat.drop i).take m).map UInt8.ofNat) Tryz.underlying90 Tryz.underlying5 Tryz.underlying9 (fun j hj => by
    rw [hl] at hj
    have e : off = i := by rcases hoff with h | h <;> omega
    subst e
    rw [Addr.add_lit, hc (off + j) (by omega)]
    have hlt : off + j < dat.length := by omega
    have hx : dat[off + j] < 256 := h8 _ (List.getElem_mem hlt)
    simp [dF, hlt, Nat.mod_eq_of_lt hx])
  rw [hl] at this
  exact this
theorem usl_hi (g n cap i j : Nat) (hij : i ≤ j) (hj : j ≤ cap) (W : World) :
    (Instr.slice 90 (.slice (some ⟨g, 0, none⟩) n cap) (some (.int .i64 (i : Int))) (some (.int .i64 (j : Int))) none).run Tryz.prog W = .ok (.slice (some ⟨g, if cap = i then 0 else i, none⟩) (j - i) (cap - i)) W := by
  by_cases e : cap = i
  · rw [if_pos e]
    have hu := Tryz.underlying90
    subst e
    have e2 : j = cap := by omega
    subst e2
    have h1 : (j : Int) ≤ (j : Int) := by omega
    simp [Instr.slice, run_underlying hu, Instr.sliceBounds, run_sliceBound, h1, usize_run, addr_add]
  · rw [if_neg e]
    exact urun_slice g n cap i j hij hj (fun h => e h.symm) W
theorem usl_lo (g n cap i : Nat) (hij : i ≤ n) (hj : n ≤ cap) (W : World) :
    (Instr.slice 90 (.slice (some ⟨g, 0, none⟩) n cap) (some (.int .i64 (i : Int))) none none).run Tryz.prog W = .ok (.slice (some ⟨g, if cap = i then 0 else i, none⟩) (n - i) (cap - i)) W := by
  have hu := Tryz.underlying90
  have h1 : (i : Int) ≤ (n : Int) := by omega
  by_cases e : cap = i
  · rw [if_pos e]
    simp [Instr.slice, run_underlying hu, Instr.sliceBounds, run_sliceBound, h1, e, usize_run, addr_add]
  · rw [if_neg e]
    simp [Instr.slice, run_underlying hu, Instr.sliceBounds, run_sliceBound, h1, e, usize_run, addr_add]
set_option maxRecDepth 100000 in
set_option maxHeartbeats 2000000 in
theorem nameAt_any {w : World} (v : Value) (pre : List Nat) (s : ByteArray) (post : List Nat) (q N : Nat) (hq : pre.length = q) (hN : (pre ++ nameB s ++ post).length = N) (h : BytesAt w v N (dF (pre ++ nameB s ++ post))) (h8 : ∀ x ∈ pre ++ nameB s ++ post, x < 256) (hs : s.size ≤ 6) (hN2 : N ≤ 1000) (hcap : ∀ a n c, v = .slice a n c → N ≤ c ∧ c ≤ 1000) :
    Calls Tryz.prog 170 #[v, .int .i64 q] w fun e w' => e = .returned (.tuple #[.string s, .int .i64 ((q + 1 + s.size : Nat) : Int), .bool true]) ∧ w = w' := by
  have hlen : N = q + (s.size + 1) + post.length := by rw [← hN, ← hq]; simp [nameB_len]; omega
  obtain ⟨g, cap, rfl, hc⟩ := h.cells (by omega)
  obtain ⟨hc1, hc2⟩ := hcap _ _ _ rfl
  have b := hc q (by omega)
  have hb : dF (pre ++ nameB s ++ post) q = s.size := by
    unfold dF
    rw [List.getD_eq_getElem?_getD, List.append_assoc, List.getElem?_append_right (by omega), hq]
    simp [nameB]
  rw [hb] at b
  have hcv := piece_conv hN hc h8 (q + 1) s.size (by omega) (if cap = q + 1 then 0 else q + 1) (cap - (q + 1)) (by
    by_cases e : cap = q + 1
    · right; omega
    · left; rw [if_neg e])
  have he : bsOf (((pre ++ nameB s ++ post).drop (q + 1)).take s.size) = s := by
    have : (pre ++ nameB s ++ post) = (pre ++ [s.size]) ++ (byL s ++ post) := by simp [nameB]
    rw [this, List.drop_left' (by simp [hq]), List.take_left' (byL_len s), bsOf_byL]
  rw [he] at hcv
  have hsl := usl_hi g N cap (q + 1) (q + 1 + s.size) (by omega) (by omega)
  have hsl2 : ∀ W, (Instr.slice 90 (.slice (some ⟨g, 0, none⟩) N cap) (some (.int .i64 ((q : Int) + 1))) (some (.int .i64 ((q : Int) + 1 + (s.size : Int)))) none).run Tryz.prog W = .ok (.slice (some ⟨g, if cap = q + 1 then 0 else q + 1, none⟩) s.size (cap - (q + 1))) W := fun W => by
    have := hsl W
    rw [Nat.add_sub_cancel_left, Int.natCast_add, Int.natCast_add] at this
    exact this
  have a0 : decide ((q : Int) < 0) = false := by simp
  have a1 : decide ((N : Int) ≤ (q : Int)) = false := by simp; omega
  have a1' : (q : Int) < (N : Int) := by omega
  have a2 : decide ((6 : Int) < (s.size : Int)) = false := by simp; omega
  have a3 : decide ((N : Int) - (q : Int) - 1 < (s.size : Int)) = false := by simp; omega
  generalize hof : (if cap = q + 1 then 0 else q + 1) = off at *
  have hq1 : q ≤ 1000 := by omega
  clear hsl hc h hb he hof h8 hN hlen hcap
  go_enter Tryz.func170, Tryz.ntmps170
  go_wp2_with fail
  go_ret3
  exact ⟨by simp, rfl⟩
end Go.Proofs.Qxb6500417aGreat
