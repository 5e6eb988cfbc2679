/-
  OWN WORK. THE OBJECT STORE: small functions: block, nextOf, countOf, blocksOf, hashOf, bucketOf.
-/
import Derived.Test.Qxb6500417aGreatOStore
namespace Go.Proofs.Qxb6500417aGreat
open Go.RowKit
set_option linter.unusedSimpArgs false
set_option linter.unusedVariables false

/-- n bytes lie at the slice v. -/
def BytesAt (w : World) (v : Value) (n : Nat) (x : Nat → Nat) : Prop := ∃ a cap, v = .slice a n cap ∧ (0 < n → ∃ g, a = some ⟨g, 0, none⟩ ∧ ∀ j, j < n → w.cell? ⟨g, j, none⟩ = some (.int .u8 (x j : Int)))
theorem BytesAt.keep {S : Nat → Prop} {w w' : World} {v : Value} {n : Nat} {x : Nat → Nat} (h : BytesAt w v n x) (ho : Only S w w') (hS : ∀ k, v.ownBlock = some k → ¬ S k) : BytesAt w' v n x := by
  obtain ⟨a, cap, rfl, h2⟩ := h
  refine ⟨a, cap, rfl, fun hn => ?_⟩
  obtain ⟨g, rfl, hc⟩ := h2 hn
  refine ⟨g, rfl, fun j hj => ?_⟩
  have hl : g < w.heap.size := World.block_lt_of_cell? w _ (hc j hj)
  rw [World.cell?_of_block (ho.block g hl (hS g rfl))]
  exact hc j hj

section
variable {w : World} {s d : Nat} {tab : Nat → Ent} {hd us : Nat → Nat} {nf rt : Nat} {D B : Nat → Nat} {recs : List Rec} {F : Nat → Prop}

theorem oblock_any (h : SAt w s d tab hd us nf rt) (hv : DevAt w d D B recs F) (b : Nat) (hb : b < 145) :
    Calls Tryz.prog 62 #[.pointer (some ⟨s, 0, none⟩), .int .i64 b] w fun e w' => e = .returned (.slice (some ⟨w.heap.size, 0, none⟩) 64 64) ∧ Has w' w.heap.size (tabV 64 (u8f (blkF D b))) 5 ∧ Only (fun _ => False) w w' := by
  have c := h.dev
  have C1 := hide (dvread_in hv b hb)
  go_enter Tryz.func62, Tryz.ntmps62
  go_wp2_with fail
  refine (unhide C1).mono ?_
  rintro e w1 ⟨rfl, h1, ho1⟩
  go_wp2_with fail
  go_ret
  exact ⟨rfl, h1, ho1⟩

theorem onext_any (g : Nat) (x : Nat → Nat) (hx : x 1 < 145) (h : Has w g (tabV 64 (u8f x)) 5) :
    Calls Tryz.prog 127 #[.slice (some ⟨g, 0, none⟩) 64 64] w fun e w' => e = .returned (.int .i64 (x 1 : Int)) ∧ w = w' := by
  have c := h.cell 1
  rw [u8_get _ _ _ (by omega)] at c
  generalize x 1 = y at *
  have a : decide (145 ≤ (y : Int)) = false := by simp; omega
  have b1 : (y : Int) < 256 := by omega
  go_enter Tryz.func127, Tryz.ntmps127
  go_wp2_with fail
  go_ret
  exact ⟨rfl, rfl⟩
theorem ocount_any (g : Nat) (x : Nat → Nat) (hx : x 2 ≤ 60) (h : Has w g (tabV 64 (u8f x)) 5) :
    Calls Tryz.prog 194 #[.slice (some ⟨g, 0, none⟩) 64 64] w fun e w' => e = .returned (.int .i64 (x 2 : Int)) ∧ w = w' := by
  have c := h.cell 2
  rw [u8_get _ _ _ (by omega)] at c
  generalize x 2 = y at *
  have a : decide (60 < (y : Int)) = false := by simp; omega
  have b1 : (y : Int) < 256 := by omega
  go_enter Tryz.func194, Tryz.ntmps194
  go_wp2_with fail
  go_ret
  exact ⟨rfl, rfl⟩

def nB (n : Nat) : Nat := if n ≤ 60 then 1 else if n ≤ 120 then 2 else 3
theorem oblocksOf_any (n : Nat) (w : World) :
    Calls Tryz.prog 190 #[.int .i64 n] w fun e w' => e = .returned (.int .i64 (nB n : Int)) ∧ w = w' := by
  unfold nB
  by_cases h1 : n ≤ 60
  · rw [if_pos h1]
    have a : decide ((n : Int) ≤ 60) = true := by simp; omega
    go_enter Tryz.func190, Tryz.ntmps190
    go_wp2_with fail
    go_ret
    exact ⟨rfl, rfl⟩
  · rw [if_neg h1]
    have a : decide ((n : Int) ≤ 60) = false := by simp; omega
    by_cases h2 : n ≤ 120
    · rw [if_pos h2]
      have b : decide ((n : Int) ≤ 120) = true := by simp; omega
      go_enter Tryz.func190, Tryz.ntmps190
      go_wp2_with fail
      go_ret
      exact ⟨rfl, rfl⟩
    · rw [if_neg h2]
      have b : decide ((n : Int) ≤ 120) = false := by simp; omega
      go_enter Tryz.func190, Tryz.ntmps190
      go_wp2_with fail
      go_ret
      exact ⟨rfl, rfl⟩

def hashN (x : Nat → Nat) (k : Nat) : Nat → Nat
  | 0 => k
  | j + 1 => (hashN x k j * 31 + x j) % 4294967296
theorem hashN_lt (x : Nat → Nat) (k : Nat) (hk : k < 4294967296) : ∀ j, hashN x k j < 4294967296
  | 0 => hk
  | j + 1 => by unfold hashN; omega

theorem ohash_any (v : Value) (n : Nat) (x : Nat → Nat) (k : Nat) (hk : k < 5) (hx : ∀ j, j < n → x j < 256) (hn : n ≤ 1000) (h : BytesAt w v n x) :
    Calls Tryz.prog 187 #[.int .i64 k, v] w fun e w' => e = .returned (.int .u32 (hashN x k n : Int)) ∧ w = w' := by
  obtain ⟨a, cap, rfl, hc⟩ := h
  have a1 : (k : Int) < 4294967296 := by omega
  go_enter Tryz.func187, Tryz.ntmps187
  go_wp2_with fail
  go_loop [5, 6] (fun hv iv => ∃ j : Nat, j ≤ n ∧ iv = .int .i64 j ∧ hv = .int .u32 (hashN x k j : Int)) (fun _ iv => n - (intOf iv).toNat)
  case atStart => exact ⟨0, by omega, rfl, rfl⟩
  case round =>
    obtain ⟨j, hj, rfl, rfl⟩ := hrel
    by_cases hjn : j < n
    · obtain ⟨g, rfl, hcc⟩ := hc (by omega)
      have c := hcc j hjn
      have hlt := hashN_lt x k (by omega) j
      have hxj := hx j hjn
      have hsu : hashN x k (j + 1) = (hashN x k j * 31 + x j) % 4294967296 := rfl
      have Hs := hide hsu
      clear hsu hcc hc
      generalize hashN x k j = hh at *
      generalize x j = y at *
      have hj' : (j : Int) < (n : Int) := by omega
      have b1 : (y : Int) < 256 := by omega
      have b2 : (hh : Int) < 4294967296 := by omega
      go_wp2_with fail
      go_round
      case rel =>
        refine ⟨j + 1, by omega, by go_num, ?_⟩
        rw [unhide Hs]
        congr 1
        omega
      case measure => simp [intOf]; omega
    · obtain rfl : j = n := by omega
      have hj' : decide ((j : Int) < (j : Int)) = false := by simp
      go_wp2_with fail
      go_ret
      exact ⟨rfl, rfl⟩

theorem obucket_fact : ∀ h : Nat, h < 4294967296 → bits BinOp.and IntKind.u32 (h : Int) 7 = ((h % 8 : Nat) : Int) := by
  intro h hh
  have h1 : (BitVec.ofInt 32 (h : Int)).toNat = h := by
    rw [BitVec.ofInt_natCast, BitVec.toNat_ofNat]; exact Nat.mod_eq_of_lt (by omega)
  have h2 : (BitVec.ofInt 32 (7 : Int)).toNat = 7 := by decide
  show IntKind.u32.wrap ((BitVec.ofInt 32 (h : Int) &&& BitVec.ofInt 32 (7 : Int)).toNat : Int) = _
  rw [BitVec.toNat_and, h1, h2]
  have h3 : h &&& 7 = h % 8 := Nat.and_two_pow_sub_one_eq_mod h 3
  rw [h3]
  have : h % 8 < 8 := Nat.mod_lt _ (by omega)
  generalize h % 8 = z at *
  simp [IntKind.wrap, IntKind.bits, IntKind.signed]
  omega
theorem obucket_any (h : Nat) (hh : h < 4294967296) (w : World) :
    Calls Tryz.prog 128 #[.int .u32 h] w fun e w' => e = .returned (.int .i64 ((h % 8 : Nat) : Int)) ∧ w = w' := by
  have e := obucket_fact h hh
  have b : h % 8 < 8 := Nat.mod_lt _ (by omega)
  generalize h % 8 = z at *
  have b1 : (z : Int) < 8 := by omega
  go_enter Tryz.func128, Tryz.ntmps128
  go_wp2_with fail
  go_ret
  exact ⟨by first | exact rfl | simp [e], rfl⟩
end
end Go.Proofs.Qxb6500417aGreat
