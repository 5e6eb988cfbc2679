/-
  OWN WORK. THE GRAPH: a commit object is read.
-/
import Derived.Test.Qxb6500417aGreatGDec
namespace Go.Proofs.Qxb6500417aGreat
open Go.RowKit Go.PlainAid
set_option linter.unusedSimpArgs false
set_option linter.unusedVariables false

theorem cdat_8 (r : Cr) (msg : ByteArray) : dF (cdat r msg) 8 = r.tree := by
  unfold dF cdat
  rw [List.getD_eq_getElem?_getD, List.getElem?_append_right (by rw [seq8_len]; omega), seq8_len]
  rfl
theorem cdat_9 (r : Cr) (msg : ByteArray) : dF (cdat r msg) 9 = r.np := by
  unfold dF cdat
  rw [List.getD_eq_getElem?_getD, List.getElem?_append_right (by rw [seq8_len]; omega), seq8_len]
  rfl
theorem cdat_par (r : Cr) (h : r.np ≤ 2) (msg : ByteArray) (i : Nat) (hi : i < r.np) : dF (cdat r msg) (10 + i) = parN r i := by
  have hl := r.pars_len h
  have hi' : i < r.pars.length := by omega
  unfold dF cdat
  rw [List.getD_eq_getElem?_getD, List.getElem?_append_right (by rw [seq8_len]; omega), seq8_len]
  have e : 10 + i - 8 = i + 2 := by omega
  rw [e]
  simp only [List.getElem?_cons_succ]
  rw [List.getElem?_append_left hi', List.getElem?_eq_getElem hi']
  have ht := pars_take h hi
  rw [List.take_succ_eq_append_getElem hi'] at ht
  have := List.append_cancel_left ht
  simpa using this
def crP (r : Cr) (i : Nat) : Array Value := #[.bool true, .int .i64 (r.seq : Int), .int .i64 (r.tree : Int), .int .i64 (r.np : Int), .int .i64 ((if 0 < i then r.p0 else 0 : Nat) : Int), .int .i64 ((if 1 < i then r.p1 else 0 : Nat) : Int)]
theorem crP_set (r : Cr) (i : Nat) (hi : i < 2) : (crP r i).setIfInBounds (4 + i) (.int .i64 (parN r i : Int)) = crP r (i + 1) := by
  have h2 : i = 0 ∨ i = 1 := by omega
  rcases h2 with rfl | rfl
  · rfl
  · rfl
theorem crP_end {r : Cr} (h : r.Wf) : crP r r.np = crA r := by
  unfold crP crA
  rw [h.us]
  have a := h.z0
  have b := h.z1
  have c := h.np
  by_cases h0 : r.np = 0
  · rw [if_neg (by omega), if_neg (by omega), a h0, b (by omega)]
  · by_cases h1 : r.np = 1
    · rw [if_pos (by omega), if_neg (by omega), b (by omega)]
    · rw [if_pos (by omega), if_pos (by omega)]
set_option maxRecDepth 100000 in
set_option maxHeartbeats 4000000 in
theorem decode_any {w : World} (v : Value) (r : Cr) (hr : r.Wf) (msg : ByteArray) (hm : msg.size ≤ 16) (N : Nat) (hN : (cdat r msg).length = N) (h : BytesAt w v N (dF (cdat r msg))) (hcap : ∀ a n c, v = .slice a n c → N ≤ c ∧ c ≤ 1000) :
    Calls Tryz.prog 122 #[v] w fun e w' => e = .returned (.tuple #[crV r, .string msg, .bool true]) ∧ Only (fun _ => False) w w' := by
  have hlen : N = 10 + r.np + msg.size := by rw [← hN, cdat_len r hr.np]
  have hp2 := hr.np
  have hA1 : Has ((w.alloc (.cells (crA Cr.zero) 82)).alloc (.cells (crP r 0) 82)) (w.heap.size + 1) (crP r 0) 82 := by
    have := Has.new (w.alloc (.cells (crA Cr.zero) 82)) (crP r 0) 82
    simpa using this
  obtain ⟨g, cap, rfl, hc⟩ := h.cells (by omega)
  obtain ⟨hc1, hc2⟩ := hcap _ _ _ rfl
  have b9 := hc 9 (by omega)
  rw [cdat_9] at b9
  have b8 := hc 8 (by omega)
  rw [cdat_8] at b8
  have C1 : ∀ W, Only (fun _ => False) w W → Calls Tryz.prog 169 #[.slice (some ⟨g, 0, none⟩) N cap] W fun e w' => e = .returned (.int .i64 r.seq) ∧ W = w' := fun W ho => by
    have hB := h.keep ho (fun _ _ h => h)
    exact seqAt_any _ r.seq (r.tree :: r.np :: (r.pars ++ byL msg)) N hN hB hr.sq
  have C1 := hide C1
  have hgl : g < w.heap.size := World.block_lt_of_cell? w _ b9
  have a1 : decide ((N : Int) < 10) = false := by simp; omega
  have a2 : (9 : Int) < (N : Int) := by omega
  have a3 : (8 : Int) < (N : Int) := by omega
  have a4 : decide ((2 : Int) < (r.np : Int)) = false := by simp; omega
  have a5 : decide ((N : Int) - 10 < (r.np : Int)) = false := by simp; omega
  have htr := hr.tr
  have hcv : ∀ W, Only (fun _ => False) w W → (convert 90 9 (.slice (some ⟨g, if cap = 10 + r.np then 0 else 10 + r.np, none⟩) (N - (10 + r.np)) (cap - (10 + r.np)))).run Tryz.prog W = .ok (.string msg) W := fun W ho => by
    have hB := ho.block g hgl (fun h => h)
    have := piece_conv (w := W) hN (fun j hj => (World.cell?_of_block hB).trans (hc j hj)) (cdat_lt hr msg) (10 + r.np) (N - (10 + r.np)) (by omega) (if cap = 10 + r.np then 0 else 10 + r.np) (cap - (10 + r.np)) (by
      by_cases e : cap = 10 + r.np
      · right; omega
      · left; rw [if_neg e])
    have e : bsOf (((cdat r msg).drop (10 + r.np)).take (N - (10 + r.np))) = msg := by
      rw [List.take_of_length_le (by rw [List.length_drop, hN]; omega)]
      exact msgOf_cdat hr.np msg
    rw [e] at this
    exact this
  have hsl := usl_lo g N cap (10 + r.np) (by omega) hc1
  have hcast : ((10 + r.np : Nat) : Int) = 10 + (r.np : Int) := by omega
  rw [hcast] at hsl
  have Hcv := hide hcv
  have Hsl := hide hsl
  have Hlen := hide hlen
  have Hr := hide hr
  have Hc := hide hc
  have hN10 : 10 + r.np ≤ N := by omega
  have hZ : crA Cr.zero = #[.bool false, .int .i64 0, .int .i64 0, .int .i64 0, .int .i64 0, .int .i64 0] := rfl
  have hP0 : crP r 0 = #[.bool true, .int .i64 (r.seq : Int), .int .i64 (r.tree : Int), .int .i64 (r.np : Int), .int .i64 0, .int .i64 0] := rfl
  clear h hA1 hcv hsl hcast hlen hr hc hcap hN
  go_enter Tryz.func122, Tryz.ntmps122
  go_wp2_with fail
  refine (unhide C1 _ (((Only.refl (fun _ => False) w).alloc _).alloc _)).mono ?_
  rintro e w1 ⟨rfl, rfl⟩
  have hK1 := Has.new (w.alloc (.cells (crA Cr.zero) 82)) #[.bool true, .int .i64 0, .int .i64 (r.tree : Int), .int .i64 (r.np : Int), .int .i64 0, .int .i64 0] 82
  have hK0 := (Has.new w (crA Cr.zero) 82).keep ((Only.refl (fun _ => False) _).alloc (.cells #[.bool true, .int .i64 0, .int .i64 (r.tree : Int), .int .i64 (r.np : Int), .int .i64 0, .int .i64 0] 82)) (fun h => h)
  have hO := ((Only.refl (fun _ => False) w).alloc (.cells (crA Cr.zero) 82)).alloc (.cells #[.bool true, .int .i64 0, .int .i64 (r.tree : Int), .int .i64 (r.np : Int), .int .i64 0, .int .i64 0] 82)
  have e1 : (w.alloc (.cells (crA Cr.zero) 82)).heap.size = w.heap.size + 1 := by simp
  rw [e1] at hK1
  rw [hZ] at hK1 hK0 hO
  clear e1
  generalize hW2 : (w.alloc (.cells #[.bool false, .int .i64 0, .int .i64 0, .int .i64 0, .int .i64 0, .int .i64 0] 82)).alloc (.cells #[.bool true, .int .i64 0, .int .i64 (r.tree : Int), .int .i64 (r.np : Int), .int .i64 0, .int .i64 0] 82) = W2 at *
  clear hW2 C1 b8 b9
  have z1 := hK1.free 1
  have z1c := hK1.cell 1
  have HK0 := hide hK0
  have HK1 := hide hK1
  have HO := hide hO
  clear hK0 hK1 hO
  go_wp2_with fail
  go_loopw [7] (fun iv wr => ∃ i : Nat, iv = .int .i64 i ∧ i ≤ r.np ∧ Has wr (w.heap.size + 1) (crP r i) 82 ∧ Has wr w.heap.size (crA Cr.zero) 82 ∧ Only (fun _ => False) w wr) (fun iv _ => r.np - (intOf iv).toNat)
  case atStart =>
    refine ⟨0, rfl, by omega, ?_, ?_, ?_⟩
    · exact (unhide HK1).setCell 1 _
    · rw [hZ]; exact (unhide HK0).setCell_other (by simp) _
    · exact (unhide HO).setCell (fun h => by simp at h; omega) _
  case round =>
    clear HK0 HK1 HO
    obtain ⟨i, rfl, hi, hK1, hK0, hO⟩ := hrel
    by_cases hil : i < r.np
    · have a6 : decide ((i : Int) < (r.np : Int)) = true := decide_eq_true (by omega)
      have a6n : decide (i < r.np) = true := decide_eq_true hil
      have a7 : (i : Int) < 2 := by omega
      have a8 : 10 + (i : Int) < (N : Int) := by omega
      have hB := hO.block g hgl (fun h => h)
      have b := (World.cell?_of_block hB).trans (unhide Hc (10 + i) (by omega))
      rw [cdat_par r hp2 msg i hil] at b
      have hpp : parN r i ≤ 48 := by
        have := (unhide Hr).q0
        have := (unhide Hr).q1
        unfold parN; split <;> omega
      have z := hK1.free (4 + i)
      have zc := hK1.cell (4 + i)
      obtain ⟨u0, hu0⟩ : ∃ u, (crP r i)[4 + i]? = some u := by
        have hi2 : i = 0 ∨ i = 1 := by omega
        rcases hi2 with rfl | rfl
        · exact ⟨_, rfl⟩
        · exact ⟨_, rfl⟩
      rw [hu0] at zc
      clear hu0
      have HK1 := hide hK1
      have HK0 := hide hK0
      have HO := hide hO
      clear hK1 hK0 hO hB
      generalize hP : parN r i = pp at *
      have HP := hide hP
      clear hP
      go_wp2_with fail
      go_roundw
      case rel =>
        refine ⟨i + 1, by go_num, by omega, ?_, ?_, ?_⟩
        · rw [← crP_set r i (by omega), unhide HP]
          exact (unhide HK1).setCell (4 + i) _
        · exact (unhide HK0).setCell_other (by simp) _
        · exact (unhide HO).setCell (fun h => by simp at h; omega) _
      case measure => simp [intOf]; omega
    · have a6 : decide ((i : Int) < (r.np : Int)) = false := decide_eq_false (by omega)
      have a6n : decide (i < r.np) = false := decide_eq_false hil
      have e1 : i = r.np := by omega
      subst e1
      rw [crP_end (unhide Hr)] at hK1
      have hD := (Only.refl (fun _ => False) wr).drew
      have hK1' := hK1.keep hD (fun h => h)
      have hK0' := hK0.keep hD (fun h => h)
      have hO' := hO.drew
      have hcv1 := unhide Hcv _ hO'
      have hsl := unhide Hsl
      have k0 : wr.cell? ⟨w.heap.size + 1, 0, none⟩ = some (.bool r.used) := hK1.cell 0
      have k1 : wr.cell? ⟨w.heap.size + 1, 1, none⟩ = some (.int .i64 (r.seq : Int)) := hK1.cell 1
      have k2 : wr.cell? ⟨w.heap.size + 1, 2, none⟩ = some (.int .i64 (r.tree : Int)) := hK1.cell 2
      have k3 : wr.cell? ⟨w.heap.size + 1, 3, none⟩ = some (.int .i64 (r.np : Int)) := hK1.cell 3
      have k4 : wr.cell? ⟨w.heap.size + 1, 4, none⟩ = some (.int .i64 (r.p0 : Int)) := hK1.cell 4
      have k5 : wr.cell? ⟨w.heap.size + 1, 5, none⟩ = some (.int .i64 (r.p1 : Int)) := hK1.cell 5
      have f0 : wr.frozen? ⟨w.heap.size, 0, none⟩ = false := hK0.free 0
      have f1 : wr.frozen? ⟨w.heap.size, 1, none⟩ = false := hK0.free 1
      have f2 : wr.frozen? ⟨w.heap.size, 2, none⟩ = false := hK0.free 2
      have f3 : wr.frozen? ⟨w.heap.size, 3, none⟩ = false := hK0.free 3
      have f4 : wr.frozen? ⟨w.heap.size, 4, none⟩ = false := hK0.free 4
      have f5 : wr.frozen? ⟨w.heap.size, 5, none⟩ = false := hK0.free 5
      have m0 := hK0.cell
      have hPut : ∀ W, Has W w.heap.size (crA Cr.zero) 82 → Only (fun _ => False) w W → Only (fun _ => False) w ((((((W.setCell ⟨w.heap.size, 0, none⟩ (.bool r.used)).setCell ⟨w.heap.size, 1, none⟩ (.int .i64 (r.seq : Int))).setCell ⟨w.heap.size, 2, none⟩ (.int .i64 (r.tree : Int))).setCell ⟨w.heap.size, 3, none⟩ (.int .i64 (r.np : Int))).setCell ⟨w.heap.size, 4, none⟩ (.int .i64 (r.p0 : Int))).setCell ⟨w.heap.size, 5, none⟩ (.int .i64 (r.p1 : Int))) := fun W _ ho =>
        (((((ho.setCell (fun h => by simp at h) _).setCell (fun h => by simp at h) _).setCell (fun h => by simp at h) _).setCell (fun h => by simp at h) _).setCell (fun h => by simp at h) _).setCell (fun h => by simp at h) _
      have hcv2 := unhide Hcv _ (hPut _ hK0 hO).drew
      have HP := hide (hPut _ hK0 hO).drew
      have e0 : wr.cell? ⟨w.heap.size, 0, none⟩ = some (.bool false) := m0 0
      have e1 : wr.cell? ⟨w.heap.size, 1, none⟩ = some (.int .i64 0) := m0 1
      have e2 : wr.cell? ⟨w.heap.size, 2, none⟩ = some (.int .i64 0) := m0 2
      have e3 : wr.cell? ⟨w.heap.size, 3, none⟩ = some (.int .i64 0) := m0 3
      have e4 : wr.cell? ⟨w.heap.size, 4, none⟩ = some (.int .i64 0) := m0 4
      have e5 : wr.cell? ⟨w.heap.size, 5, none⟩ = some (.int .i64 0) := m0 5
      have Hh := hide (And.intro hK1' (And.intro hK0' hO'))
      have nf : w.heap.size + 1 ≠ w.heap.size := by omega
      clear hK1' hK0' hO' hPut m0 Hcv Hsl hK1 hK0 hO hD
      clear C1 Hc
      generalize hof : (if cap = 10 + r.np then 0 else 10 + r.np) = off at *
      generalize hmm : N - (10 + r.np) = mm at *
      generalize hcc : cap - (10 + r.np) = cc at *
      clear hof hmm hcc
      go_upto_region 12 with fail
      go_region
      all_goals
        go_wp2_with fail
        refine bodyPost_ret (v := .tuple #[crV r, .string msg, .bool true]) (by simp [results, Tryz.results122, go_sem, e0, e1, e2, e3, e4, e5, crV]) rfl ⟨rfl, unhide HP⟩
end Go.Proofs.Qxb6500417aGreat
