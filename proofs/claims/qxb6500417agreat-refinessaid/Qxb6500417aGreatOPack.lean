/-
  OWN WORK. THE OBJECT STORE: pack, pick.
-/
import Derived.Test.Qxb6500417aGreatOFind
namespace Go.Proofs.Qxb6500417aGreat
open Go.RowKit
set_option linter.unusedSimpArgs false
set_option linter.unusedVariables false

def packP (k fol c : Nat) (x : Nat → Nat) (off i j : Nat) : Nat := if j = 0 then k else if j = 1 then fol else if j = 2 then c else if j = 3 then 0 else if j < 4 + i then x (off + (j - 4)) else 0
theorem packP_end (k fol n : Nat) (x : Nat → Nat) (off j : Nat) (hj : j < 64) : packP k fol (min 60 (n - off)) x off (min 60 (n - off)) j = packF k fol n x off j := by
  unfold packP packF
  by_cases h0 : j = 0
  · simp [h0]
  · by_cases h1 : j = 1
    · simp [h1]
    · by_cases h2 : j = 2
      · simp [h2]
      · by_cases h3 : j = 3
        · simp [h3]
        · simp only [if_neg h0, if_neg h1, if_neg h2, if_neg h3]
          by_cases h4 : off + (j - 4) < n
          · rw [if_pos h4, if_pos (by omega)]
          · rw [if_neg h4, if_neg (by omega)]
theorem packP_start (k fol c : Nat) (x : Nat → Nat) (off : Nat) : (fun j => if j = 2 then c else if j = 1 then fol else if j = 0 then k else 0) = packP k fol c x off 0 := by
  funext j
  unfold packP
  by_cases h0 : j = 0
  · subst h0; simp
  · by_cases h1 : j = 1
    · subst h1; simp
    · by_cases h2 : j = 2
      · subst h2; simp
      · by_cases h3 : j = 3
        · subst h3; simp
        · simp [h0, h1, h2, h3]
          intro h; omega
theorem packP_succ (k fol c : Nat) (x : Nat → Nat) (off i : Nat) : (fun j => if j = 4 + i then x (off + i) else packP k fol c x off i j) = packP k fol c x off (i + 1) := by
  funext j
  unfold packP
  by_cases h : j = 4 + i
  · subst h
    rw [if_pos rfl, if_neg (by omega), if_neg (by omega), if_neg (by omega), if_neg (by omega), if_pos (by omega)]
    congr 1
    omega
  · rw [if_neg h]
    by_cases h4 : j < 4 + i
    · simp only [if_pos h4, if_pos (show j < 4 + (i + 1) by omega)]
    · simp only [if_neg h4, if_neg (show ¬ j < 4 + (i + 1) by omega)]

section
variable {w : World} {s d : Nat} {tab : Nat → Ent} {hd us : Nat → Nat} {nf rt : Nat} {D B : Nat → Nat} {recs : List Rec} {F : Nat → Prop}

set_option maxRecDepth 100000 in
set_option maxHeartbeats 4000000 in
theorem pack_any (k fol n off : Nat) (x : Nat → Nat) (hx : ∀ j, j < n → x j < 256) (v : Value) (hv : BytesAt w v n x) (hk : k < 5) (hf : fol < 145) (hn : n ≤ 180) (hoff : off ≤ n) :
    Calls Tryz.prog 192 #[.int .i64 k, .int .i64 fol, v, .int .i64 off] w fun e w' => e = .returned (.slice (some ⟨w.heap.size, 0, none⟩) 64 64) ∧ Has w' w.heap.size (tabV 64 (u8f (packF k fol n x off))) 5 ∧ Only (fun _ => False) w w' := by
  obtain ⟨va, vc, rfl, hyc⟩ := hv
  have hm : (Instr.makeSlice 90 (.int .i64 64) (.int .i64 64)).run Tryz.prog w = .ok (.slice (some ⟨w.heap.size, 0, none⟩) 64 64) (w.alloc (.cells (tabV 64 (u8f (fun _ => 0))) 5)) := run_make_bytes w 64 (by omega)
  have h0 := Has.new w (tabV 64 (u8f (fun _ => 0))) 5
  have h1 := h0.setCell 0 (.int .u8 (k : Int))
  rw [u8_set] at h1
  have h2 := h1.setCell 1 (.int .u8 (fol : Int))
  rw [u8_set] at h2
  have h3 := h2.setCell 2 (.int .u8 ((min 60 (n - off) : Nat) : Int))
  rw [u8_set, packP_start k fol (min 60 (n - off)) x off] at h3
  have c0 := h0.cell 0
  have c1 := h1.cell 1
  have c2 := h2.cell 2
  rw [u8_get _ _ _ (by omega)] at c0 c1 c2
  have z0 := h0.free 0
  have z1 := h1.free 1
  have z2 := h2.free 2
  have o3 : Only (fun _ => False) w ((((w.alloc (.cells (tabV 64 (u8f (fun _ => 0))) 5)).setCell ⟨w.heap.size, 0, none⟩ (.int .u8 (k : Int))).setCell ⟨w.heap.size, 1, none⟩ (.int .u8 (fol : Int))).setCell ⟨w.heap.size, 2, none⟩ (.int .u8 ((min 60 (n - off) : Nat) : Int))) :=
    ((((Only.refl (fun _ => False) w).alloc _).setCell (p := ⟨w.heap.size, 0, none⟩) (fun hlt => absurd hlt (Nat.lt_irrefl _)) _).setCell (p := ⟨w.heap.size, 1, none⟩) (fun hlt => absurd hlt (Nat.lt_irrefl _)) _).setCell (p := ⟨w.heap.size, 2, none⟩) (fun hlt => absurd hlt (Nat.lt_irrefl _)) _
  have eArr : (((tabV 64 (u8f (fun _ => 0))).setIfInBounds 0 (.int .u8 (k : Int))).setIfInBounds 1 (.int .u8 (fol : Int))).setIfInBounds 2 (.int .u8 ((min 60 (n - off) : Nat) : Int)) = tabV 64 (u8f (packP k fol (min 60 (n - off)) x off 0)) := by rw [u8_set, u8_set, u8_set, packP_start]
  have h4 := Has.new w ((((tabV 64 (u8f (fun _ => 0))).setIfInBounds 0 (.int .u8 (k : Int))).setIfInBounds 1 (.int .u8 (fol : Int))).setIfInBounds 2 (.int .u8 ((min 60 (n - off) : Nat) : Int))) 5
  have h4 := (congrArg (fun a => Has (w.alloc (.cells ((((tabV 64 (u8f (fun _ => 0))).setIfInBounds 0 (.int .u8 (k : Int))).setIfInBounds 1 (.int .u8 (fol : Int))).setIfInBounds 2 (.int .u8 ((min 60 (n - off) : Nat) : Int))) 5)) w.heap.size a 5) eArr).mp h4
  have Hend := hide (packP_end k fol n x off)
  have H3 := hide h4
  have hyl : ∀ g, va = some ⟨g, 0, none⟩ → 0 < n → g < w.heap.size := by
    intro g hg hn0
    obtain ⟨g', hg', hcc⟩ := hyc hn0
    rw [hg] at hg'
    have : g = g' := by simpa using hg'
    subst this
    exact World.block_lt_of_cell? w _ (hcc 0 hn0)
  have Hyl := hide hyl
  have b1 : (k : Int) < 256 := by omega
  have b2 : (fol : Int) < 256 := by omega
  clear h0 h1 h2 h3 o3 hyl h4 eArr
  generalize hc : min 60 (n - off) = c at *
  by_cases h6 : 60 < n - off
  · have a1 : decide (60 < (n : Int) - (off : Int)) = true := by simp; omega
    have eC : ((c : Nat) : Int) = 60 := by omega
    rw [eC] at H3
    go_enter Tryz.func192, Tryz.ntmps192
    go_wp2_with fail
    go_loopw [11] (fun jv wr => ∃ j : Nat, j ≤ c ∧ jv = .int .i64 j ∧ Has wr w.heap.size (tabV 64 (u8f (packP k fol c x off j))) 5 ∧ Only (fun _ => False) w wr) (fun jv _ => c - (intOf jv).toNat)
    case atStart => exact ⟨0, by omega, rfl, unhide H3, (Only.refl _ w).alloc _⟩
    case round =>
      clear c0 c1 c2 z0 z1 z2 hm H3
      obtain ⟨j, hj, rfl, hs, ho⟩ := hrel
      by_cases hjc : j < c
      · obtain ⟨g, rfl, hcc⟩ := hyc (by omega)
        have gl := (unhide Hyl) g rfl (by omega)
        have q1 := hcc (off + j) (by omega)
        have q1' : wr.cell? ⟨g, off + j, none⟩ = some (.int .u8 (x (off + j) : Int)) := by
          rw [World.cell?_of_block (ho.block g gl (fun h => h))]; exact q1
        have q2 := hs.cell (4 + j)
        rw [u8_get _ _ _ (by omega)] at q2
        have z2 := hs.free (4 + j)
        have s1 := hs.setCell (4 + j) (.int .u8 (x (off + j) : Int))
        rw [u8_set, packP_succ] at s1
        have Hs := hide s1
        clear s1 q1 hcc hyc
        generalize x (off + j) = y at *
        generalize packP k fol c x off j (4 + j) = y0 at *
        have a2 : decide ((j : Int) < 60) = true := by simp; omega
        have a3 : (4 : Int) + (j : Int) < 64 := by omega
        have a4 : (off : Int) + (j : Int) < (n : Int) := by omega
        have a5 : off + j < n := by omega
        go_wp2_with fail
        go_roundw
        case rel => exact ⟨j + 1, by omega, by go_num, unhide Hs, ho.setCell (p := ⟨w.heap.size, 4 + j, none⟩) (fun hlt => absurd hlt (Nat.lt_irrefl _)) _⟩
        case measure => simp [intOf]; omega
      · obtain rfl : j = c := by omega
        have a2 : decide ((j : Int) < 60) = false := by simp; omega
        have ee : tabV 64 (u8f (packP k fol j x off j)) = tabV 64 (u8f (packF k fol n x off)) := u8_congr _ (fun t ht => unhide Hend t ht)
        rw [ee] at hs
        have Hs := hide hs
        clear hs ee
        go_wp2_with fail
        go_ret
        exact ⟨rfl, unhide Hs, ho⟩
  · have a1 : decide (60 < (n : Int) - (off : Int)) = false := by simp; omega
    have eC : ((c : Nat) : Int) = (n : Int) - (off : Int) := by omega
    have a11 : (0 : Int) ≤ (n : Int) - (off : Int) := by omega
    have a12 : (n : Int) - (off : Int) < 256 := by omega
    rw [eC] at H3
    go_enter Tryz.func192, Tryz.ntmps192
    go_wp2_with fail
    go_loopw [11] (fun jv wr => ∃ j : Nat, j ≤ c ∧ jv = .int .i64 j ∧ Has wr w.heap.size (tabV 64 (u8f (packP k fol c x off j))) 5 ∧ Only (fun _ => False) w wr) (fun jv _ => c - (intOf jv).toNat)
    case atStart => exact ⟨0, by omega, rfl, unhide H3, (Only.refl _ w).alloc _⟩
    case round =>
      clear c0 c1 c2 z0 z1 z2 hm H3
      obtain ⟨j, hj, rfl, hs, ho⟩ := hrel
      by_cases hjc : j < c
      · obtain ⟨g, rfl, hcc⟩ := hyc (by omega)
        have gl := (unhide Hyl) g rfl (by omega)
        have q1 := hcc (off + j) (by omega)
        have q1' : wr.cell? ⟨g, off + j, none⟩ = some (.int .u8 (x (off + j) : Int)) := by
          rw [World.cell?_of_block (ho.block g gl (fun h => h))]; exact q1
        have q2 := hs.cell (4 + j)
        rw [u8_get _ _ _ (by omega)] at q2
        have z2 := hs.free (4 + j)
        have s1 := hs.setCell (4 + j) (.int .u8 (x (off + j) : Int))
        rw [u8_set, packP_succ] at s1
        have Hs := hide s1
        clear s1 q1 hcc hyc
        generalize x (off + j) = y at *
        generalize packP k fol c x off j (4 + j) = y0 at *
        have a2 : decide ((j : Int) < (n : Int) - (off : Int)) = true := by simp; omega
        have a3 : (4 : Int) + (j : Int) < 64 := by omega
        have a4 : (off : Int) + (j : Int) < (n : Int) := by omega
        have a5 : off + j < n := by omega
        go_wp2_with fail
        go_roundw
        case rel => exact ⟨j + 1, by omega, by go_num, unhide Hs, ho.setCell (p := ⟨w.heap.size, 4 + j, none⟩) (fun hlt => absurd hlt (Nat.lt_irrefl _)) _⟩
        case measure => simp [intOf]; omega
      · obtain rfl : j = c := by omega
        have a2 : decide ((j : Int) < (n : Int) - (off : Int)) = false := by simp; omega
        have ee : tabV 64 (u8f (packP k fol j x off j)) = tabV 64 (u8f (packF k fol n x off)) := u8_congr _ (fun t ht => unhide Hend t ht)
        rw [ee] at hs
        have Hs := hide hs
        clear hs ee
        go_wp2_with fail
        go_ret
        exact ⟨rfl, unhide Hs, ho⟩
end
end Go.Proofs.Qxb6500417aGreat
