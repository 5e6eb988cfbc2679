/-
  OWN WORK. THE TREE: its two tables; live, isTree, tally, key.
-/
import Derived.Test.Qxb6500417aGreatTRowsW
namespace Go.Proofs.Qxb6500417aGreat
open Go.RowKit Go.PlainAid
set_option linter.unusedSimpArgs false
set_option linter.unusedVariables false

def tcell (s : Nat) (kd : Nat → Nat) (ct : Nat → Int) (off : Nat) : Value :=
  if off = 0 then .pointer (some ⟨s, 0, none⟩) else if off < 50 then .int .i64 (kd (off - 1) : Int) else .int .i64 (ct (off - 50))
def TAt (w : World) (t s : Nat) (kd : Nat → Nat) (ct : Nat → Int) : Prop := Has w t (tabV 99 (tcell s kd ct)) 108
section
variable {w : World} {t s : Nat} {kd : Nat → Nat} {ct : Nat → Int}
theorem TAt.keep {S : Nat → Prop} {w' : World} (h : TAt w t s kd ct) (ho : Only S w w') (hS : ¬ S t) : TAt w' t s kd ct := Has.keep h ho hS
theorem TAt.at_ (h : TAt w t s kd ct) (off : Nat) (ho : off < 99) : w.cell? ⟨t, off, none⟩ = some (tcell s kd ct off) ∧ w.frozen? ⟨t, off, none⟩ = false := by
  refine ⟨?_, Has.free h off⟩
  rw [Has.cell h, tabV_get _ _ _ ho]
theorem TAt.store (h : TAt w t s kd ct) : w.cell? ⟨t, 0, none⟩ = some (.pointer (some ⟨s, 0, none⟩)) ∧ w.frozen? ⟨t, 0, none⟩ = false := h.at_ 0 (by omega)
theorem TAt.kind (h : TAt w t s kd ct) (i : Nat) (hi : i < 49) : w.cell? ⟨t, 1 + i, none⟩ = some (.int .i64 (kd i : Int)) ∧ w.frozen? ⟨t, 1 + i, none⟩ = false := by
  have := h.at_ (1 + i) (by omega)
  have e : tcell s kd ct (1 + i) = .int .i64 (kd i : Int) := by
    unfold tcell
    rw [if_neg (by omega), if_pos (by omega)]
    have e1 : 1 + i - 1 = i := by omega
    rw [e1]
  rwa [e] at this
theorem TAt.count (h : TAt w t s kd ct) (i : Nat) (hi : i < 49) : w.cell? ⟨t, 50 + i, none⟩ = some (.int .i64 (ct i)) ∧ w.frozen? ⟨t, 50 + i, none⟩ = false := by
  have := h.at_ (50 + i) (by omega)
  have e : tcell s kd ct (50 + i) = .int .i64 (ct i) := by
    unfold tcell
    rw [if_neg (by omega), if_neg (by omega)]
    have e1 : 50 + i - 50 = i := by omega
    rw [e1]
  rwa [e] at this
theorem TAt.setKind (h : TAt w t s kd ct) (i : Nat) (hi : i < 49) (x : Nat) : TAt (w.setCell ⟨t, 1 + i, none⟩ (.int .i64 (x : Int))) t s (updT kd i x) ct := by
  have := Has.setCell h (1 + i) (.int .i64 (x : Int))
  rw [tabV_set] at this
  unfold TAt
  refine (congrArg (fun a => Has _ t a 108) (tabV_congr 99 (fun j hj => ?_))).mp this
  unfold tcell updT
  by_cases e : j = 1 + i
  · rw [if_pos e, if_neg (by omega), if_pos (by omega), if_pos (by omega)]
  · rw [if_neg e]
    by_cases e0 : j = 0
    · rw [if_pos e0, if_pos e0]
    · rw [if_neg e0, if_neg e0]
      by_cases e1 : j < 50
      · rw [if_pos e1, if_pos e1, if_neg (by omega)]
      · rw [if_neg e1, if_neg e1]
theorem TAt.setCount (h : TAt w t s kd ct) (i : Nat) (hi : i < 49) (x : Int) : TAt (w.setCell ⟨t, 50 + i, none⟩ (.int .i64 x)) t s kd (updT ct i x) := by
  have := Has.setCell h (50 + i) (.int .i64 x)
  rw [tabV_set] at this
  unfold TAt
  refine (congrArg (fun a => Has _ t a 108) (tabV_congr 99 (fun j hj => ?_))).mp this
  unfold tcell updT
  by_cases e : j = 50 + i
  · rw [if_pos e, if_neg (by omega), if_neg (by omega), if_pos (by omega)]
  · rw [if_neg e]
    by_cases e0 : j = 0
    · rw [if_pos e0, if_pos e0]
    · rw [if_neg e0, if_neg e0]
      by_cases e1 : j < 50
      · rw [if_pos e1, if_pos e1]
      · rw [if_neg e1, if_neg e1, if_neg (by omega)]
theorem TAt.congr (h : TAt w t s kd ct) {kd' : Nat → Nat} {ct' : Nat → Int} (h1 : ∀ i, i < 49 → kd' i = kd i) (h2 : ∀ i, i < 49 → ct' i = ct i) : TAt w t s kd' ct' := by
  unfold TAt
  refine (congrArg (fun a => Has w t a 108) (tabV_congr 99 (fun j hj => ?_))).mp h
  unfold tcell
  by_cases e0 : j = 0
  · rw [if_pos e0, if_pos e0]
  · rw [if_neg e0, if_neg e0]
    by_cases e1 : j < 50
    · rw [if_pos e1, if_pos e1, h1 _ (by omega)]
    · rw [if_neg e1, if_neg e1, h2 _ (by omega)]
end
def occ (rs : List Rw) (i : Nat) : Nat := (rs.map Rw.id).count i
theorem occ_snoc (rs : List Rw) (r : Rw) (i : Nat) : occ (rs ++ [r]) i = occ rs i + (if r.id = i then 1 else 0) := by
  unfold occ
  rw [List.map_append, List.count_append]
  simp [List.count_cons]
theorem occ_le (rs : List Rw) (i : Nat) : occ rs i ≤ rs.length := by
  unfold occ
  have := List.count_le_length (a := i) (l := rs.map Rw.id)
  simpa using this
def kindI (kd : Nat → Nat) (id : Int) : Bool := decide (1 ≤ id ∧ id ≤ 48) && kd id.toNat != 0
section
variable {w : World} {t s : Nat} {kd : Nat → Nat} {ct : Nat → Int}
theorem tlive_any (h : TAt w t s kd ct) (id : Int) :
    Calls Tryz.prog 168 #[.pointer (some ⟨t, 0, none⟩), .int .i64 id] w fun e w' => e = .returned (.bool (kindI kd id)) ∧ w = w' := by
  have htl := Has.lt h
  by_cases h1 : 1 ≤ id
  · have a1 : decide (1 ≤ id) = true := decide_eq_true h1
    by_cases h2 : id ≤ 48
    · have a2 : decide (id ≤ 48) = true := decide_eq_true h2
      obtain ⟨i, rfl⟩ : ∃ i : Nat, id = i := ⟨id.toNat, by omega⟩
      have c := (h.kind i (by omega)).1
      have b1 : (i : Int) < 49 := by omega
      have hk : kindI kd (i : Int) = ((kd i : Int) != 0) := by
        unfold kindI
        rw [decide_eq_true ⟨h1, h2⟩, Int.toNat_natCast, Bool.true_and]
        by_cases e : kd i = 0
        · rw [e]; rfl
        · have e1 : (kd i != 0) = true := by simpa using e
          have e2 : ((kd i : Int) != 0) = true := by simp; omega
          rw [e1, e2]
      rw [hk]
      generalize kd i = x at *
      clear h
      go_enter Tryz.func168, Tryz.ntmps168
      go_wp2_with fail
      go_ret
      exact ⟨rfl, rfl⟩
    · have a2 : decide (id ≤ 48) = false := decide_eq_false h2
      have hk : kindI kd id = false := by
        unfold kindI
        rw [decide_eq_false (fun e => h2 e.2)]
        rfl
      rw [hk]
      clear h hk
      go_enter Tryz.func168, Tryz.ntmps168
      go_wp2_with fail
      go_ret
      exact ⟨rfl, rfl⟩
  · have a1 : decide (1 ≤ id) = false := decide_eq_false h1
    have hk : kindI kd id = false := by
      unfold kindI
      rw [decide_eq_false (fun e => h1 e.1)]
      rfl
    rw [hk]
    clear h hk
    go_enter Tryz.func168, Tryz.ntmps168
    go_wp2_with fail
    go_ret
    exact ⟨rfl, rfl⟩
def isTreeN (kd : Nat → Nat) (id : Int) : Nat := if kindI kd id = false then 6 else if kd id.toNat = 2 then 0 else 3
theorem isTree_any (h : TAt w t s kd ct) (id : Int) :
    Calls Tryz.prog 195 #[.pointer (some ⟨t, 0, none⟩), .int .i64 id] w fun e w' => e = .returned (.int .i64 (isTreeN kd id : Nat)) ∧ w = w' := by
  have htl := Has.lt h
  have C := tlive_any h id
  unfold isTreeN
  cases hk : kindI kd id with
  | false =>
    rw [hk] at C
    have C := hide C
    rw [if_pos rfl]
    clear h hk
    go_enter Tryz.func195, Tryz.ntmps195
    go_wp2_with fail
    refine (unhide C).mono ?_
    rintro e w1 ⟨rfl, rfl⟩
    go_wp2_with fail
    go_ret
    exact ⟨rfl, rfl⟩
  | true =>
    rw [hk] at C
    have C := hide C
    have hr : 1 ≤ id ∧ id ≤ 48 := by
      unfold kindI at hk
      simp only [Bool.and_eq_true, decide_eq_true_eq] at hk
      exact hk.1
    obtain ⟨i, rfl⟩ : ∃ i : Nat, id = i := ⟨id.toNat, by omega⟩
    have c := (h.kind i (by omega)).1
    have b1 : (i : Int) < 49 := by omega
    rw [if_neg (by simp), Int.toNat_natCast]
    by_cases h2 : kd i = 2
    · rw [if_pos h2]
      rw [h2] at c
      have c' : w.cell? ⟨t, 1 + i, none⟩ = some (.int .i64 2) := c
      clear h hk h2 c
      go_enter Tryz.func195, Tryz.ntmps195
      go_wp2_with fail
      refine (unhide C).mono ?_
      rintro e w1 ⟨rfl, rfl⟩
      go_wp2_with fail
      go_ret
      exact ⟨rfl, rfl⟩
    · rw [if_neg h2]
      have e2 : ((kd i : Int) != 2) = true := by simp; omega
      generalize kd i = x at *
      clear h hk h2
      go_enter Tryz.func195, Tryz.ntmps195
      go_wp2_with fail
      refine (unhide C).mono ?_
      rintro e w1 ⟨rfl, rfl⟩
      go_wp2_with fail
      go_ret
      exact ⟨rfl, rfl⟩
end
end Go.Proofs.Qxb6500417aGreat
