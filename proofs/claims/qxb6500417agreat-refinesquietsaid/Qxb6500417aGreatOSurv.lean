/-
  OWN WORK. THE OBJECT STORE: survey, Open.
-/
import Derived.Test.Qxb6500417aGreatOPutW
namespace Go.Proofs.Qxb6500417aGreat
open Go.RowKit
set_option linter.unusedSimpArgs false
set_option linter.unusedVariables false

def entA (st k n f h nx : Nat) : Array Value := #[.int .i64 (st : Int), .int .i64 (k : Int), .int .i64 (n : Int), .int .i64 (f : Int), .int .u32 (h : Int), .int .i64 (nx : Int)]

section
variable {w : World} {s d : Nat} {tab : Nat → Ent} {hd us : Nat → Nat} {nf rt : Nat} {D B : Nat → Nat} {recs : List Rec} {F : Nat → Prop} {ob : Nat → Ob} {bk : Nat → List Nat}
variable {k n : Nat} {x : Nat → Nat} {ch : List Nat}

set_option maxRecDepth 100000 in
set_option maxHeartbeats 4000000 in
theorem survey_any (h : SAt w s d tab hd us nf rt) (hv : DevAt w d D B recs F) (hl : Lies D k n x ch) (hk1 : 1 ≤ k) (hk4 : k ≤ 4) (hn : n ≤ 180) (h8 : ∀ j, j < n → x j < 256) (fb : Nat) (hfb : ch.getD 0 0 = fb) (hsh : Nat) (hhsh : hsh = hashN x k n) :
    Calls Tryz.prog 63 #[.pointer (some ⟨s, 0, none⟩), .int .i64 fb] w fun e w' => e = .returned (.tuple #[.agg #[.int .i64 2, .int .i64 (k : Int), .int .i64 (n : Int), .int .i64 (fb : Int), .int .u32 (hsh : Int), .int .i64 0], .bool true]) ∧ Only (fun _ => False) w w' := by
  have hsl := Has.lt h
  have hfull := nB_full n hn
  have hlen := hl.len
  have h3 := hl.le3
  rw [hlen] at h3
  have Hl := hide hl
  have Hfb := hide hfb
  have Hh := hide hhsh
  have hm0 : w.heap.size ≠ w.heap.size + 1 := by omega
  have r0 : Has ((w.alloc (.cells #[.int .i64 0, .int .i64 0, .int .i64 0, .int .i64 0, .int .u32 0, .int .i64 0] 96)).alloc (.cells #[.int .i64 2, .int .i64 0, .int .i64 0, .int .i64 (fb : Int), .int .u32 0, .int .i64 0] 96)) w.heap.size #[.int .i64 0, .int .i64 0, .int .i64 0, .int .i64 0, .int .u32 0, .int .i64 0] 96 := (Has.new w _ _).alloc _
  have g0 : Has ((w.alloc (.cells #[.int .i64 0, .int .i64 0, .int .i64 0, .int .i64 0, .int .u32 0, .int .i64 0] 96)).alloc (.cells #[.int .i64 2, .int .i64 0, .int .i64 0, .int .i64 (fb : Int), .int .u32 0, .int .i64 0] 96)) (w.heap.size + 1) (entA 2 0 0 fb 0 0) 96 := Has.new' _ _ _ _ (by simp)
  have R0 := hide r0
  have G0 := hide g0
  clear hl hfb hhsh r0 g0
  go_enter Tryz.func63, Tryz.ntmps63
  go_wp2_with fail
  go_loopw [7, 8] (fun bv iv wr => ∃ i : Nat, i < nB n ∧ bv = .int .i64 (ch.getD i 0 : Nat) ∧ iv = .int .i64 i ∧ Has wr w.heap.size #[.int .i64 0, .int .i64 0, .int .i64 0, .int .i64 0, .int .u32 0, .int .i64 0] 96 ∧ Has wr (w.heap.size + 1) (entA 2 (if i = 0 then 0 else k) (min (60 * i) n) fb (if i = 0 then 0 else hashN x k (min (60 * i) n)) 0) 96 ∧ Only (fun _ => False) w wr) (fun _ iv _ => (3 - intOf iv).toNat)
  case atStart => exact ⟨0, by omega, by rw [unhide Hfb], rfl, unhide R0, by simpa using unhide G0, ((Only.refl _ w).alloc _).alloc _⟩
  case round =>
    clear R0 G0
    obtain ⟨i, hi, rfl, rfl, hr, hg, ho⟩ := hrel
    have hil : i < ch.length := by omega
    obtain ⟨r1, r2⟩ := (unhide Hl).rng i hil
    have q0 := (unhide Hl).b0 i hil
    have q1 := (unhide Hl).b1 i hil
    have q2 := (unhide Hl).b2 i hil
    have q3 := (unhide Hl).nxt (i + 1)
    have qj := (unhide Hl).bj i hil
    have qz : ch.getD (i + 1) 0 = 0 ↔ i + 1 = nB n := by
      constructor
      · intro e
        by_cases h1 : i + 1 < ch.length
        · have := ((unhide Hl).rng (i + 1) h1).1; omega
        · omega
      · intro e; exact getD_out (by omega)
    generalize ch.getD i 0 = b at *
    generalize hb' : ch.getD (i + 1) 0 = b' at *
    have Hb' := hide hb'
    have Hqj := hide qj
    have C1 := hide (oblock_any (h.keep ho (fun h => h)) (hv.quiet ho) b r2)
    have hb1' : decide ((b : Int) < 1) = false := by simp; omega
    have hb2' : decide (145 ≤ (b : Int)) = false := by simp; omega
    have hi3 : decide ((i : Int) < 3) = true := by simp; omega
    have hqi := hfull.2 i hi
    have hwl := ho.size
    have hgl := hg.lt
    clear hb' qj
    go_wp2_with fail
    refine (unhide C1).mono ?_
    rintro e w1 ⟨rfl, hb1, ho1⟩
    have hr1 := hr.keep ho1 (fun h => h)
    have hg1 := hg.keep ho1 (fun h => h)
    have ho1' := ho.trans ho1 (fun _ _ h => h)
    clear C1 hr hg ho1
    generalize wr.heap.size = gb at *
    have k0 := hb1.cell 0
    have k1 := hb1.cell 1
    have k2 := hb1.cell 2
    rw [u8_get _ _ _ (by omega)] at k0 k1 k2
    rw [q0] at k0
    rw [q1] at k1
    rw [q2] at k2
    generalize hcc : min 60 (n - 60 * i) = cc at *
    have d1 : decide ((k : Int) < 1) = false := by simp; omega
    have d2 : decide (4 < (k : Int)) = false := by simp; omega
    have d3 : decide (60 < (cc : Int)) = false := by simp; omega
    have d4 : (k : Int) < 256 := by omega
    have d5 : (cc : Int) < 256 := by omega
    have d6 : (b' : Int) < 256 := by omega
    have d7 : (k : Int) < 4294967296 := by omega
    have d8 : ((k : Int) != (k : Int)) = false := by simp
    have ngb : gb ≠ w.heap.size + 1 := by omega
    have ngb' : w.heap.size + 1 ≠ gb := by omega
    by_cases hi0 : i = 0
    · have Hi0 := hide hi0
      have e00 : ((i : Int) == 0) = true := by simp; omega
      have f1 := hg1.cell 1
      have y1 := hg1.free 1
      have f4 := hg1.cell 4
      have y4 := hg1.free 4
      have w11 := (hg1.setCell 1 (.int .i64 (k : Int))).setCell 4 (.int .u32 (k : Int))
      have e11 : ((entA 2 (if i = 0 then 0 else k) (min (60 * i) n) fb (if i = 0 then 0 else hashN x k (min (60 * i) n)) 0).setIfInBounds 1 (.int .i64 (k : Int))).setIfInBounds 4 (.int .u32 (k : Int)) = entA 2 k (min (60 * i) n) fb (hashN x k (min (60 * i) n + 0)) 0 := by
        subst hi0
        have : min (60 * 0) n + 0 = 0 := by omega
        rw [this]
        rfl
      rw [e11] at w11
      have HG2 := hide w11
      have HO2 : Hid (Only (fun y => y = w.heap.size + 1) w1 ((w1.setCell ⟨w.heap.size + 1, 1, none⟩ (.int .i64 (k : Int))).setCell ⟨w.heap.size + 1, 4, none⟩ (.int .u32 (k : Int)))) := hide (((Only.refl (fun y => y = w.heap.size + 1) w1).setCell (p := ⟨w.heap.size + 1, 1, none⟩) (fun _ => rfl) _).setCell (p := ⟨w.heap.size + 1, 4, none⟩) (fun _ => rfl) _)
      simp only [entA] at f1 f4
      have hg1x := True.intro
      clear w11 e11 hi0
      go_wp2_with fail
      go_loopw [12] (fun jv wx => ∃ j : Nat, j ≤ cc ∧ jv = .int .i64 j ∧ Has wx (w.heap.size + 1) (entA 2 k (min (60 * i) n) fb (hashN x k (min (60 * i) n + j)) 0) 96 ∧ Only (fun y => y = w.heap.size + 1) w1 wx) (fun jv _ => cc - (intOf jv).toNat)
      case atStart => exact ⟨0, by omega, rfl, unhide HG2, unhide HO2⟩
      case round =>
        clear HG2 HO2 hg1
        obtain ⟨j, hj, rfl, hg, ho2⟩ := hrel
        have hb2 := hb1.keep ho2 ngb
        by_cases hjc : j < cc
        · have q4 := hb2.cell (4 + j)
          rw [u8_get _ _ _ (by omega), (unhide Hqj) j (by omega)] at q4
          have m60 : min (60 * i) n = 60 * i := by
            by_cases e : i = 0
            · subst e; omega
            · have := hqi e; omega
          rw [m60] at hg
          have g4 := hg.cell 4
          have y4 := hg.free 4
          simp only [entA] at g4
          have hS : hashN x k (60 * i + (j + 1)) = (hashN x k (60 * i + j) * 31 + x (60 * i + j)) % 4294967296 := rfl
          have hx8 := h8 (60 * i + j) (by omega)
          have hlt := hashN_lt x k (by omega) (60 * i + j)
          have hset := hg.setCell 4 (.int .u32 (((hashN x k (60 * i + j) * 31 + x (60 * i + j)) % 4294967296 : Nat) : Int))
          have eset : (entA 2 k (60 * i) fb (hashN x k (60 * i + j)) 0).setIfInBounds 4 (.int .u32 (((hashN x k (60 * i + j) * 31 + x (60 * i + j)) % 4294967296 : Nat) : Int)) = entA 2 k (60 * i) fb (hashN x k (60 * i + (j + 1))) 0 := by rw [hS]; rfl
          rw [eset] at hset
          have Hm := hide m60
          have hbk := hg1x
          clear eset hS m60
          generalize hashN x k (60 * i + j) = hh at *
          generalize x (60 * i + j) = yy at *
          have b1 : (yy : Int) < 256 := by omega
          have b2 : (hh : Int) < 4294967296 := by omega
          have a1 : decide ((j : Int) < (cc : Int)) = true := by simp; omega
          have a4 : (4 : Int) + (j : Int) < 64 := by omega
          have ecast : (((hh * 31 + yy) % 4294967296 : Nat) : Int) = ((hh : Int) * 31 + (yy : Int)) % 4294967296 := by omega
          have oset : Only (fun y => y = w.heap.size + 1) w1 (wr.setCell ⟨w.heap.size + 1, 4, none⟩ (.int .u32 (((hh * 31 + yy) % 4294967296 : Nat) : Int))) := ho2.setCell (p := ⟨w.heap.size + 1, 4, none⟩) (fun _ => rfl) _
          rw [ecast] at hset oset
          have Hset := hide hset.drew
          have Hos := hide oset.drew
          clear hset oset ecast
          go_wp2_with fail
          go_region
          all_goals
            go_wp2_with fail
            go_roundw
            case rel => exact ⟨j + 1, by omega, by go_num, by rw [unhide Hm]; exact unhide Hset, unhide Hos⟩
            case measure => simp [intOf]; omega
        · obtain rfl : j = cc := by omega
          have hr2 := hr1.keep ho2 hm0
          have g2 := hg.cell 2
          have y2 := hg.free 2
          simp only [entA] at g2
          have p1 := hb2.cell 1
          rw [u8_get _ _ _ (by omega), q1] at p1
          have eA : min (60 * i) n + j = min (60 * (i + 1)) n := by
            by_cases e : i = 0
            · subst e; omega
            · have := hqi e; omega
          have hset := hg.setCell 2 (.int .i64 ((min (60 * i) n + j : Nat) : Int))
          have eset : (entA 2 k (min (60 * i) n) fb (hashN x k (min (60 * i) n + j)) 0).setIfInBounds 2 (.int .i64 ((min (60 * i) n + j : Nat) : Int)) = entA 2 k (min (60 * (i + 1)) n) fb (hashN x k (min (60 * (i + 1)) n)) 0 := by rw [← eA]; rfl
          have ecast : ((min (60 * i) n + j : Nat) : Int) = ((min (60 * i) n : Nat) : Int) + (j : Int) := by omega
          rw [eset, ecast] at hset
          have oA : Only (fun _ => False) w (wr.setCell ⟨w.heap.size + 1, 2, none⟩ (.int .i64 (((min (60 * i) n : Nat) : Int) + (j : Int)))) := (ho1'.trans ho2 (fun i hi e => by omega)).setCell (p := ⟨w.heap.size + 1, 2, none⟩) (fun h => absurd h (by simp)) _
          have rA := hr2.setCell_other (p := ⟨w.heap.size + 1, 2, none⟩) hm0 (.int .i64 (((min (60 * i) n : Nat) : Int) + (j : Int)))
          have bA := hb2.setCell_other (p := ⟨w.heap.size + 1, 2, none⟩) ngb (.int .i64 (((min (60 * i) n : Nat) : Int) + (j : Int)))
          have p1' := bA.cell 1
          rw [u8_get _ _ _ (by omega), q1] at p1'
          have a1 : decide ((j : Int) < (j : Int)) = false := by simp
          have a1' : ¬ j < j := by omega
          have mlt : min (60 * i) n ≤ 180 := by omega
          clear eset ecast bA
          by_cases hend : i + 1 = nB n
          · have hz : b' = 0 := qz.2 hend
            have eN : min (60 * (i + 1)) n = n := by have := hfull.1; rw [← hend] at this; omega
            rw [eN, ← unhide Hh] at hset
            have t0 := hset.cell 0
            have t1 := hset.cell 1
            have t2 := hset.cell 2
            have t3 := hset.cell 3
            have t4 := hset.cell 4
            have t5 := hset.cell 5
            simp only [entA] at t0 t1 t2 t3 t4 t5
            have u0 := rA.cell 0
            have u1 := rA.cell 1
            have u2 := rA.cell 2
            have u3 := rA.cell 3
            have u4 := rA.cell 4
            have u5 := rA.cell 5
            have v0 := rA.free 0
            have v1 := rA.free 1
            have v2 := rA.free 2
            have v3 := rA.free 3
            have v4 := rA.free 4
            have v5 := rA.free 5
            subst hz
            clear eA hset
            generalize min (60 * i) n = mm at *
            generalize hashN x k (mm + j) = hx at *
            generalize hW : wr.setCell ⟨w.heap.size + 1, 2, none⟩ (.int .i64 ((mm : Int) + (j : Int))) = W at *
            have rB := (((((rA.setCell 0 (.int .i64 2)).setCell 1 (.int .i64 (k : Int))).setCell 2 (.int .i64 (n : Int))).setCell 3 (.int .i64 (fb : Int))).setCell 4 (.int .u32 (hsh : Int))).setCell 5 (.int .i64 0)
            have oB : Only (fun _ => False) w ((((((W.setCell ⟨w.heap.size, 0, none⟩ (.int .i64 2)).setCell ⟨w.heap.size, 1, none⟩ (.int .i64 (k : Int))).setCell ⟨w.heap.size, 2, none⟩ (.int .i64 (n : Int))).setCell ⟨w.heap.size, 3, none⟩ (.int .i64 (fb : Int))).setCell ⟨w.heap.size, 4, none⟩ (.int .u32 (hsh : Int))).setCell ⟨w.heap.size, 5, none⟩ (.int .i64 0)) :=
              (((((oA.setCell (p := ⟨w.heap.size, 0, none⟩) (fun h => absurd h (Nat.lt_irrefl _)) _).setCell (p := ⟨w.heap.size, 1, none⟩) (fun h => absurd h (Nat.lt_irrefl _)) _).setCell (p := ⟨w.heap.size, 2, none⟩) (fun h => absurd h (Nat.lt_irrefl _)) _).setCell (p := ⟨w.heap.size, 3, none⟩) (fun h => absurd h (Nat.lt_irrefl _)) _).setCell (p := ⟨w.heap.size, 4, none⟩) (fun h => absurd h (Nat.lt_irrefl _)) _).setCell (p := ⟨w.heap.size, 5, none⟩) (fun h => absurd h (Nat.lt_irrefl _)) _
            have s0 := rB.cell 0
            have s1 := rB.cell 1
            have s2 := rB.cell 2
            have s3 := rB.cell 3
            have s4 := rB.cell 4
            have s5 := rB.cell 5
            have OB := hide oB
            clear oB oA rA rB
            go_wp2_with fail
            refine bodyPost_ret (v := .tuple #[.agg #[.int .i64 2, .int .i64 (k : Int), .int .i64 (n : Int), .int .i64 (fb : Int), .int .u32 (hsh : Int), .int .i64 0], .bool true]) (by simp [results, Tryz.results63, go_sem, s0, s1, s2, s3, s4, s5]) rfl ?_
            exact ⟨rfl, unhide OB⟩
          · have hz : b' ≠ 0 := fun e => hend (qz.1 e)
            have hz' : ((b' : Int) == 0) = false := ne_intO (by omega)
            have Hset := hide hset
            clear hset eA
            generalize min (60 * i) n = mm at *
            generalize hashN x k (mm + j) = hx at *
            go_wp2_with fail
            go_roundw
            case rel => exact ⟨i + 1, by omega, by rw [unhide Hb'], by go_num, rA, by rw [if_neg (by omega), if_neg (by omega)]; exact unhide Hset, oA⟩
            case measure => simp [intOf]; omega
    · have e00 : ((i : Int) == 0) = false := ne_intO (by omega)
      rw [if_neg hi0, if_neg hi0] at hg1
      have f1 := hg1.cell 1
      simp only [entA] at f1
      have HG2 : Hid (Has w1 (w.heap.size + 1) (entA 2 k (min (60 * i) n) fb (hashN x k (min (60 * i) n + 0)) 0) 96) := hide hg1
      have HO2 : Hid (Only (fun y => y = w.heap.size + 1) w1 w1) := hide (Only.refl _ w1)
      have hg1x := True.intro
      go_wp2_with fail
      go_loopw [12] (fun jv wx => ∃ j : Nat, j ≤ cc ∧ jv = .int .i64 j ∧ Has wx (w.heap.size + 1) (entA 2 k (min (60 * i) n) fb (hashN x k (min (60 * i) n + j)) 0) 96 ∧ Only (fun y => y = w.heap.size + 1) w1 wx) (fun jv _ => cc - (intOf jv).toNat)
      case atStart => exact ⟨0, by omega, rfl, unhide HG2, unhide HO2⟩
      case round =>
        clear HG2 HO2 hg1
        obtain ⟨j, hj, rfl, hg, ho2⟩ := hrel
        have hb2 := hb1.keep ho2 ngb
        by_cases hjc : j < cc
        · have q4 := hb2.cell (4 + j)
          rw [u8_get _ _ _ (by omega), (unhide Hqj) j (by omega)] at q4
          have m60 : min (60 * i) n = 60 * i := by
            by_cases e : i = 0
            · subst e; omega
            · have := hqi e; omega
          rw [m60] at hg
          have g4 := hg.cell 4
          have y4 := hg.free 4
          simp only [entA] at g4
          have hS : hashN x k (60 * i + (j + 1)) = (hashN x k (60 * i + j) * 31 + x (60 * i + j)) % 4294967296 := rfl
          have hx8 := h8 (60 * i + j) (by omega)
          have hlt := hashN_lt x k (by omega) (60 * i + j)
          have hset := hg.setCell 4 (.int .u32 (((hashN x k (60 * i + j) * 31 + x (60 * i + j)) % 4294967296 : Nat) : Int))
          have eset : (entA 2 k (60 * i) fb (hashN x k (60 * i + j)) 0).setIfInBounds 4 (.int .u32 (((hashN x k (60 * i + j) * 31 + x (60 * i + j)) % 4294967296 : Nat) : Int)) = entA 2 k (60 * i) fb (hashN x k (60 * i + (j + 1))) 0 := by rw [hS]; rfl
          rw [eset] at hset
          have Hm := hide m60
          have hbk := hg1x
          clear eset hS m60
          generalize hashN x k (60 * i + j) = hh at *
          generalize x (60 * i + j) = yy at *
          have b1 : (yy : Int) < 256 := by omega
          have b2 : (hh : Int) < 4294967296 := by omega
          have a1 : decide ((j : Int) < (cc : Int)) = true := by simp; omega
          have a4 : (4 : Int) + (j : Int) < 64 := by omega
          have ecast : (((hh * 31 + yy) % 4294967296 : Nat) : Int) = ((hh : Int) * 31 + (yy : Int)) % 4294967296 := by omega
          have oset : Only (fun y => y = w.heap.size + 1) w1 (wr.setCell ⟨w.heap.size + 1, 4, none⟩ (.int .u32 (((hh * 31 + yy) % 4294967296 : Nat) : Int))) := ho2.setCell (p := ⟨w.heap.size + 1, 4, none⟩) (fun _ => rfl) _
          rw [ecast] at hset oset
          have Hset := hide hset.drew
          have Hos := hide oset.drew
          clear hset oset ecast
          go_wp2_with fail
          go_region
          all_goals
            go_wp2_with fail
            go_roundw
            case rel => exact ⟨j + 1, by omega, by go_num, by rw [unhide Hm]; exact unhide Hset, unhide Hos⟩
            case measure => simp [intOf]; omega
        · obtain rfl : j = cc := by omega
          have hr2 := hr1.keep ho2 hm0
          have g2 := hg.cell 2
          have y2 := hg.free 2
          simp only [entA] at g2
          have p1 := hb2.cell 1
          rw [u8_get _ _ _ (by omega), q1] at p1
          have eA : min (60 * i) n + j = min (60 * (i + 1)) n := by
            by_cases e : i = 0
            · subst e; omega
            · have := hqi e; omega
          have hset := hg.setCell 2 (.int .i64 ((min (60 * i) n + j : Nat) : Int))
          have eset : (entA 2 k (min (60 * i) n) fb (hashN x k (min (60 * i) n + j)) 0).setIfInBounds 2 (.int .i64 ((min (60 * i) n + j : Nat) : Int)) = entA 2 k (min (60 * (i + 1)) n) fb (hashN x k (min (60 * (i + 1)) n)) 0 := by rw [← eA]; rfl
          have ecast : ((min (60 * i) n + j : Nat) : Int) = ((min (60 * i) n : Nat) : Int) + (j : Int) := by omega
          rw [eset, ecast] at hset
          have oA : Only (fun _ => False) w (wr.setCell ⟨w.heap.size + 1, 2, none⟩ (.int .i64 (((min (60 * i) n : Nat) : Int) + (j : Int)))) := (ho1'.trans ho2 (fun i hi e => by omega)).setCell (p := ⟨w.heap.size + 1, 2, none⟩) (fun h => absurd h (by simp)) _
          have rA := hr2.setCell_other (p := ⟨w.heap.size + 1, 2, none⟩) hm0 (.int .i64 (((min (60 * i) n : Nat) : Int) + (j : Int)))
          have bA := hb2.setCell_other (p := ⟨w.heap.size + 1, 2, none⟩) ngb (.int .i64 (((min (60 * i) n : Nat) : Int) + (j : Int)))
          have p1' := bA.cell 1
          rw [u8_get _ _ _ (by omega), q1] at p1'
          have a1 : decide ((j : Int) < (j : Int)) = false := by simp
          have a1' : ¬ j < j := by omega
          have mlt : min (60 * i) n ≤ 180 := by omega
          clear eset ecast bA
          by_cases hend : i + 1 = nB n
          · have hz : b' = 0 := qz.2 hend
            have eN : min (60 * (i + 1)) n = n := by have := hfull.1; rw [← hend] at this; omega
            rw [eN, ← unhide Hh] at hset
            have t0 := hset.cell 0
            have t1 := hset.cell 1
            have t2 := hset.cell 2
            have t3 := hset.cell 3
            have t4 := hset.cell 4
            have t5 := hset.cell 5
            simp only [entA] at t0 t1 t2 t3 t4 t5
            have u0 := rA.cell 0
            have u1 := rA.cell 1
            have u2 := rA.cell 2
            have u3 := rA.cell 3
            have u4 := rA.cell 4
            have u5 := rA.cell 5
            have v0 := rA.free 0
            have v1 := rA.free 1
            have v2 := rA.free 2
            have v3 := rA.free 3
            have v4 := rA.free 4
            have v5 := rA.free 5
            subst hz
            clear eA hset
            generalize min (60 * i) n = mm at *
            generalize hashN x k (mm + j) = hx at *
            generalize hW : wr.setCell ⟨w.heap.size + 1, 2, none⟩ (.int .i64 ((mm : Int) + (j : Int))) = W at *
            have rB := (((((rA.setCell 0 (.int .i64 2)).setCell 1 (.int .i64 (k : Int))).setCell 2 (.int .i64 (n : Int))).setCell 3 (.int .i64 (fb : Int))).setCell 4 (.int .u32 (hsh : Int))).setCell 5 (.int .i64 0)
            have oB : Only (fun _ => False) w ((((((W.setCell ⟨w.heap.size, 0, none⟩ (.int .i64 2)).setCell ⟨w.heap.size, 1, none⟩ (.int .i64 (k : Int))).setCell ⟨w.heap.size, 2, none⟩ (.int .i64 (n : Int))).setCell ⟨w.heap.size, 3, none⟩ (.int .i64 (fb : Int))).setCell ⟨w.heap.size, 4, none⟩ (.int .u32 (hsh : Int))).setCell ⟨w.heap.size, 5, none⟩ (.int .i64 0)) :=
              (((((oA.setCell (p := ⟨w.heap.size, 0, none⟩) (fun h => absurd h (Nat.lt_irrefl _)) _).setCell (p := ⟨w.heap.size, 1, none⟩) (fun h => absurd h (Nat.lt_irrefl _)) _).setCell (p := ⟨w.heap.size, 2, none⟩) (fun h => absurd h (Nat.lt_irrefl _)) _).setCell (p := ⟨w.heap.size, 3, none⟩) (fun h => absurd h (Nat.lt_irrefl _)) _).setCell (p := ⟨w.heap.size, 4, none⟩) (fun h => absurd h (Nat.lt_irrefl _)) _).setCell (p := ⟨w.heap.size, 5, none⟩) (fun h => absurd h (Nat.lt_irrefl _)) _
            have s0 := rB.cell 0
            have s1 := rB.cell 1
            have s2 := rB.cell 2
            have s3 := rB.cell 3
            have s4 := rB.cell 4
            have s5 := rB.cell 5
            have OB := hide oB
            clear oB oA rA rB
            go_wp2_with fail
            refine bodyPost_ret (v := .tuple #[.agg #[.int .i64 2, .int .i64 (k : Int), .int .i64 (n : Int), .int .i64 (fb : Int), .int .u32 (hsh : Int), .int .i64 0], .bool true]) (by simp [results, Tryz.results63, go_sem, s0, s1, s2, s3, s4, s5]) rfl ?_
            exact ⟨rfl, unhide OB⟩
          · have hz : b' ≠ 0 := fun e => hend (qz.1 e)
            have hz' : ((b' : Int) == 0) = false := ne_intO (by omega)
            have Hset := hide hset
            clear hset eA
            generalize min (60 * i) n = mm at *
            generalize hashN x k (mm + j) = hx at *
            go_wp2_with fail
            go_roundw
            case rel => exact ⟨i + 1, by omega, by rw [unhide Hb'], by go_num, rA, by rw [if_neg (by omega), if_neg (by omega)]; exact unhide Hset, oA⟩
            case measure => simp [intOf]; omega
end
end Go.Proofs.Qxb6500417aGreat
