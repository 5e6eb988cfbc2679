/-
  OWN WORK. THE TABLE OF SUFFIX LENGTHS: its memory; at.
-/
import Derived.Test.Qxb6500416aDIntP
namespace Go.Proofs.Qxb6500416a
open Go.RowKit Go.PlainAid
set_option linter.unusedSimpArgs false
set_option linter.unusedVariables false

/-- A table of n+1 rows of k+1 cells. -/
structure TbAt (w : World) (t g n k : Nat) (f : Nat → Nat) : Prop where
  hd : Has w t #[.int .i64 ((k + 1 : Nat) : Int), .slice (some ⟨g, 0, none⟩) ((n + 1) * (k + 1)) ((n + 1) * (k + 1))] 120
  cs : Has w g (tabV ((n + 1) * (k + 1)) (fun c => .int .i64 (f c : Int))) 3
  ne : g ≠ t
section
variable {w : World} {t g n k : Nat} {f : Nat → Nat}
theorem TbAt.keep {S : Nat → Prop} {w' : World} (h : TbAt w t g n k f) (ho : Only S w w') (ht : ¬ S t) (hg : ¬ S g) : TbAt w' t g n k f := ⟨h.hd.keep ho ht, h.cs.keep ho hg, h.ne⟩
theorem tab_lt {i j n k : Nat} (hi : i ≤ n) (hj : j ≤ k) : i * (k + 1) + j < (n + 1) * (k + 1) := by
  have h1 : i * (k + 1) ≤ n * (k + 1) := Nat.mul_le_mul_right _ hi
  have h2 : (n + 1) * (k + 1) = n * (k + 1) + (k + 1) := by rw [Nat.add_mul]; omega
  omega
set_option maxRecDepth 100000 in
set_option maxHeartbeats 1000000 in
theorem tabAt_any (h : TbAt w t g n k f) (i j : Nat) (hi : i ≤ n) (hj : j ≤ k) (hn : n ≤ 2000) (hk : k ≤ 2000) :
    Calls Try.prog 56 #[.pointer (some ⟨t, 0, none⟩), .int .i64 i, .int .i64 j] w fun e w' => e = .returned (.int .i64 (f (i * (k + 1) + j) : Int)) ∧ Only (fun _ => False) w w' := by
  have hlt := tab_lt hi hj
  have c0 := h.hd.cell 0
  have c1 := h.hd.cell 1
  have d0 := h.cs.cell (i * (k + 1) + j)
  rw [tabV_get _ _ _ hlt] at d0
  have lt1 := h.hd.lt
  have lt2 := h.cs.lt
  have hbig : (n + 1) * (k + 1) ≤ 2001 * 2001 := Nat.mul_le_mul (by omega) (by omega)
  obtain ⟨N, hN⟩ : ∃ N, N = (n + 1) * (k + 1) := ⟨_, rfl⟩
  obtain ⟨m, hm⟩ : ∃ m, m = i * (k + 1) := ⟨_, rfl⟩
  rw [← hN] at c1 hlt hbig
  rw [← hm] at d0 hlt ⊢
  have hmul : (i : Int) * ((k + 1 : Nat) : Int) = (m : Int) := by rw [hm]; push_cast; rfl
  have hadd : (m : Int) + (j : Int) = ((m + j : Nat) : Int) := by push_cast; rfl
  have b1 : ((m + j : Nat) : Int) < (N : Int) := by omega
  clear hN hm h
  generalize k + 1 = k1 at *
  generalize hc : m + j = c at *
  clear hc
  go_enter Try.func56, Try.ntmps56
  go_wp2_with fail
  go_quiet (fail)
  have ho := (Only.refl (fun _ => False) w).drewO nq
  go_wp2_with fail
  go_ret
  exact ⟨rfl, ho⟩
theorem TbAt.set (h : TbAt w t g n k f) (c v : Nat) : TbAt (w.setCell ⟨g, c, none⟩ (.int .i64 (v : Int))) t g n k (updT f c v) := by
  refine ⟨h.hd.setCell_other (p := ⟨g, c, none⟩) (fun e => h.ne e.symm) _, ?_, h.ne⟩
  have := h.cs.setCell c (.int .i64 (v : Int))
  rw [tabV_set] at this
  rw [tabV_congr _ (g := fun d => if d = c then Value.int .i64 (v : Int) else .int .i64 (f d : Int))]
  · exact this
  · intro d _
    by_cases e : d = c
    · rw [if_pos e, e, updT_same]
    · rw [if_neg e, updT_other _ _ _ _ e]
theorem TbAt.drew (h : TbAt w t g n k f) (q : Nat) : TbAt (w.drewN q) t g n k f := h.keep ((Only.refl (fun _ => False) w).drewO q) (fun h => h) (fun h => h)
set_option maxRecDepth 100000 in
set_option maxHeartbeats 1000000 in
theorem tabSet_any (h : TbAt w t g n k f) (i j v : Nat) (hi : i ≤ n) (hj : j ≤ k) (hn : n ≤ 2000) (hk : k ≤ 2000) :
    Calls Try.prog 65 #[.pointer (some ⟨t, 0, none⟩), .int .i64 i, .int .i64 j, .int .i64 v] w fun e w' => e = .returned (.tuple #[]) ∧ TbAt w' t g n k (updT f (i * (k + 1) + j) v) ∧ Only (fun x => x = g) w w' := by
  have hlt := tab_lt hi hj
  have c0 := h.hd.cell 0
  have c1 := h.hd.cell 1
  have d0 := h.cs.cell (i * (k + 1) + j)
  rw [tabV_get _ _ _ hlt] at d0
  have f0 := h.cs.free (i * (k + 1) + j)
  have lt1 := h.hd.lt
  have lt2 := h.cs.lt
  have hbig : (n + 1) * (k + 1) ≤ 2001 * 2001 := Nat.mul_le_mul (by omega) (by omega)
  have HS := hide (fun W (hW : Only (fun _ => False) w W) => And.intro ((h.keep hW (fun h => h) (fun h => h)).set (i * (k + 1) + j) v) ((hW.mono (T := fun x => x = g) (fun _ _ h => h.elim)).setCell (p := ⟨g, i * (k + 1) + j, none⟩) (fun _ => rfl) (.int .i64 (v : Int))))
  obtain ⟨N, hN⟩ : ∃ N, N = (n + 1) * (k + 1) := ⟨_, rfl⟩
  obtain ⟨m, hm⟩ : ∃ m, m = i * (k + 1) := ⟨_, rfl⟩
  rw [← hN] at c1 hlt hbig
  rw [← hm] at d0 f0 hlt HS ⊢
  have hmul : (i : Int) * ((k + 1 : Nat) : Int) = (m : Int) := by rw [hm]; push_cast; rfl
  have hadd : (m : Int) + (j : Int) = ((m + j : Nat) : Int) := by push_cast; rfl
  have b1 : ((m + j : Nat) : Int) < (N : Int) := by omega
  clear hN hm h
  obtain ⟨k1, hk1⟩ : ∃ k1, k1 = k + 1 := ⟨_, rfl⟩
  rw [← hk1] at c0 hmul
  clear hk1
  generalize hc : m + j = c at *
  have w1 : IntKind.i64.wrap (m : Int) = (m : Int) := by rw [IntKind.wrap_i64]; omega
  have w2 : IntKind.i64.wrap (c : Int) = (c : Int) := by rw [IntKind.wrap_i64]; omega
  clear hc
  go_enter Try.func65, Try.ntmps65
  go_wp2_with fail
  go_region
  all_goals
    go_wp2_with fail
    go_end0
    first
    | exact ⟨rfl, unhide HS _ (Only.refl _ w)⟩
    | exact ⟨rfl, unhide HS _ (Only.refl _ w).drew⟩
    | exact ⟨rfl, unhide HS _ ((Only.refl _ w).drewO _)⟩
end
end Go.Proofs.Qxb6500416a
