/-
  OWN WORK. THE LOG: its write set; what reads and writes memory alone.
-/
import Derived.Test.Qxb6500412aGreatDiskAt
namespace Go.Proofs.Qxb6500412aGreat
open Go.RowKit
set_option linter.unusedSimpArgs false
set_option linter.unusedVariables false

/-- A log at block l over the disk at block d: open or not, its write set. -/
structure LogAt (w : World) (l d : Nat) (op : Bool) (es : List (Nat × ByteArray)) (F : Nat → Prop) : Prop where
  ex : ∃ nb db gn gd, Has w l #[.pointer (some ⟨d, 0, none⟩), .bool op, .int .i64 es.length, .slice (some ⟨nb, 0, none⟩) 72 72, .slice (some ⟨db, 0, none⟩) 72 72] 198 ∧
    Has w nb (ints (es.map (fun e => (e.1 : Int)) ++ gn)) 3 ∧ Has w db (strs (es.map (·.2) ++ gd)) 137 ∧ es.length + gn.length = 72 ∧ es.length + gd.length = 72 ∧ F l ∧ F nb ∧ F db
  inn : ∀ k, F k → k < w.heap.size

theorem LogAt.keep {S : Nat → Prop} {w w' : World} {l d : Nat} {op : Bool} {es : List (Nat × ByteArray)} {F : Nat → Prop} (h : LogAt w l d op es F) (ho : Only S w w') (hS : ∀ k, F k → ¬ S k) : LogAt w' l d op es F := by
  obtain ⟨⟨nb, db, gn, gd, h1, h2, h3, h4, h5, f1, f2, f3⟩, hi⟩ := h
  exact ⟨⟨nb, db, gn, gd, h1.keep ho (hS _ f1), h2.keep ho (hS _ f2), h3.keep ho (hS _ f3), h4, h5, f1, f2, f3⟩, fun k hk => Nat.lt_of_lt_of_le (hi k hk) ho.size⟩

theorem LogAt.mono {w : World} {l d : Nat} {op : Bool} {es : List (Nat × ByteArray)} {F G : Nat → Prop} (h : LogAt w l d op es F) (hG : ∀ k, F k → G k) (hi : ∀ k, G k → k < w.heap.size) : LogAt w l d op es G := by
  obtain ⟨⟨nb, db, gn, gd, h1, h2, h3, h4, h5, f1, f2, f3⟩, _⟩ := h
  exact ⟨⟨nb, db, gn, gd, h1, h2, h3, h4, h5, hG _ f1, hG _ f2, hG _ f3⟩, hi⟩

theorem LogAt.short {w : World} {l d : Nat} {op : Bool} {es : List (Nat × ByteArray)} {F : Nat → Prop} (h : LogAt w l d op es F) : es.length ≤ 72 := by
  obtain ⟨⟨nb, db, gn, gd, h1, h2, h3, h4, h5, f1, f2, f3⟩, hi⟩ := h; omega

theorem DiskAt.mono {w : World} {d : Nat} {blk base : List ByteArray} {recs : List (Nat × ByteArray)} {F G : Nat → Prop} (h : DiskAt w d blk base recs F) (hG : ∀ k, F k → G k) (hi : ∀ k, G k → k < w.heap.size) : DiskAt w d blk base recs G := by
  obtain ⟨⟨bb, nb, rv, h1, h2, h3, h4, h5, f1, f2, f3, f4⟩, l1, l2, _⟩ := h
  exact ⟨⟨bb, nb, rv, h1, h2, h3, h4, h5, hG _ f1, hG _ f2, hG _ f3, fun k hk => hG _ (f4 k hk)⟩, l1, l2, hi⟩

theorem ne_int {a b : Int} (h : a ≠ b) : (a == b) = false := by simpa using h
theorem eq_int {a b : Int} (h : a = b) : (a == b) = true := by simpa using h

theorem num_at {es : List (Nat × ByteArray)} {gn : List Int} {k : Nat} (h : k < es.length) : (ints (es.map (fun e => (e.1 : Int)) ++ gn))[k]? = some (.int .i64 (es[k].1 : Int)) := by
  rw [ints_get _ _ (by simp; omega)]
  rw [List.getElem_append_left (by simpa using h)]
  simp
theorem data_at {es : List (Nat × ByteArray)} {gd : List ByteArray} {k : Nat} (h : k < es.length) : (strs (es.map (·.2) ++ gd))[k]? = some (.string es[k].2) := by
  rw [strs_get _ _ (by simp; omega)]
  rw [List.getElem_append_left (by simpa using h)]
  simp

set_option maxRecDepth 100000 in
set_option maxHeartbeats 400000 in
theorem find_hit (l d : Nat) (op : Bool) (es : List (Nat × ByteArray)) (F : Nat → Prop) (b : Int) (i : Nat) (w : World) (hl : LogAt w l d op es F) (hi : i < es.length) (he : (es[i].1 : Int) = b) (hn : ∀ j, (h : j < i) → (es[j].1 : Int) ≠ b) :
    Calls Tryz.prog 209 #[.pointer (some ⟨l, 0, none⟩), .int .i64 b] w fun e w' => e = .returned (.int .i64 i) ∧ w = w' := by
  have hsh := hl.short
  obtain ⟨⟨nb, db, gn, gd, h1, h2, h3, h4, h5, f1, f2, f3⟩, hin⟩ := hl
  have c2 := h1.cell 2
  have c3 := h1.cell 3
  go_enter Tryz.func209, Tryz.ntmps209
  go_wp2
  go_loop [5] (fun v => ∃ k : Nat, k ≤ i ∧ v = .int .i64 k) (fun v => es.length - (intOf v).toNat)
  case atStart => exact ⟨0, Nat.zero_le _, rfl⟩
  case round =>
    obtain ⟨k, hk, rfl⟩ := hrel
    have c4 := h2.cell k
    rw [num_at (by omega)] at c4
    have hlt : (k : Int) < (es.length : Int) := by omega
    by_cases hki : k = i
    · subst hki
      have heq := eq_int he
      have Hn := hide hn
      clear hn he
      go_wp2
      go_ret
      exact ⟨rfl, rfl⟩
    · have hne := ne_int (hn k (by omega))
      have Hn := hide hn
      clear hn he
      go_wp2
      go_round
      case rel => exact ⟨k + 1, by omega, by go_num⟩
      case measure => simp [intOf]; omega

set_option maxRecDepth 100000 in
set_option maxHeartbeats 400000 in
theorem find_miss (l d : Nat) (op : Bool) (es : List (Nat × ByteArray)) (F : Nat → Prop) (b : Int) (w : World) (hl : LogAt w l d op es F) (hn : ∀ j, (h : j < es.length) → (es[j].1 : Int) ≠ b) :
    Calls Tryz.prog 209 #[.pointer (some ⟨l, 0, none⟩), .int .i64 b] w fun e w' => e = .returned (.int .i64 (-1)) ∧ w = w' := by
  have hsh := hl.short
  obtain ⟨⟨nb, db, gn, gd, h1, h2, h3, h4, h5, f1, f2, f3⟩, hin⟩ := hl
  have c2 := h1.cell 2
  have c3 := h1.cell 3
  go_enter Tryz.func209, Tryz.ntmps209
  go_wp2
  go_loop [5] (fun v => ∃ k : Nat, k ≤ es.length ∧ v = .int .i64 k) (fun v => es.length - (intOf v).toNat)
  case atStart => exact ⟨0, Nat.zero_le _, rfl⟩
  case round =>
    obtain ⟨k, hk, rfl⟩ := hrel
    by_cases hki : k < es.length
    · have c4 := h2.cell k
      rw [num_at hki] at c4
      have hne := ne_int (hn k hki)
      have Hn := hide hn
      clear hn
      go_wp2
      go_round
      case rel => exact ⟨k + 1, by omega, by go_num⟩
      case measure => simp [intOf]; omega
    · have Hn := hide hn
      clear hn
      go_wp2
      go_ret
      exact ⟨rfl, rfl⟩

/-- Where the write set holds b: the place of its entry. -/
def at? (es : List (Nat × ByteArray)) (b : Int) : Option Nat := es.findIdx? (fun e => (e.1 : Int) == b)
theorem at?_some {es : List (Nat × ByteArray)} {b : Int} {i : Nat} (h : at? es b = some i) : ∃ hi : i < es.length, (es[i].1 : Int) = b ∧ ∀ j, (h : j < i) → (es[j].1 : Int) ≠ b := by
  unfold at? at h
  rw [List.findIdx?_eq_some_iff_getElem] at h
  obtain ⟨hi, h1, h2⟩ := h
  refine ⟨hi, by simpa using h1, fun j hj => ?_⟩
  have := h2 j hj
  simpa using this
theorem at?_none {es : List (Nat × ByteArray)} {b : Int} (h : at? es b = none) : ∀ j, (h : j < es.length) → (es[j].1 : Int) ≠ b := by
  intro j hj
  unfold at? at h
  rw [List.findIdx?_eq_none_iff] at h
  have := h _ (List.getElem_mem hj)
  simpa using this

/-- Block b as the write set and the disk show it. -/
def shown (blk : List ByteArray) (es : List (Nat × ByteArray)) (b : Nat) : ByteArray :=
  match at? es b with
  | some i => ((es[i]?).map (·.2)).getD emptyB
  | none => blk.getD (73 + b) emptyB

set_option maxRecDepth 100000 in
set_option maxHeartbeats 400000 in
theorem wread_in (l d : Nat) (op : Bool) (es : List (Nat × ByteArray)) (F : Nat → Prop) (blk base : List ByteArray) (recs : List (Nat × ByteArray)) (G : Nat → Prop) (b : Nat) (w : World) (hl : LogAt w l d op es F) (hd : DiskAt w d blk base recs G) (hb : b < 80) :
    Calls Tryz.prog 205 #[.pointer (some ⟨l, 0, none⟩), .int .i64 b] w fun e w' => e = .returned (.tuple #[.string (shown blk es b), .int .i64 0]) ∧ w = w' := by
  have hsh := hl.short
  have hin := inD_t (b := (b : Int)) (by omega) (by omega)
  cases hat : at? es b with
  | some i =>
    obtain ⟨hi, he, hn⟩ := at?_some hat
    have hs : shown blk es b = es[i].2 := by unfold shown; rw [hat]; simp [hi]
    rw [hs]
    have hf := find_hit l d op es F b i w hl hi he hn
    have Hf := hide hf
    clear hf he hn hat hs
    obtain ⟨⟨nb, db, gn, gd, h1, h2, h3, h4, h5, f1, f2, f3⟩, _⟩ := hl
    have c4 := h1.cell 4
    have c5 := h3.cell i
    rw [data_at hi] at c5
    go_enter Tryz.func205, Tryz.ntmps205
    go_wp2_with fail
    refine (inData_any _ _).mono ?_
    rintro e w' ⟨rfl, rfl⟩
    go_wp2_with fail
    refine (unhide Hf).mono ?_
    rintro e w' ⟨rfl, rfl⟩
    go_wp2_with fail
    go_ret2
    exact ⟨rfl, rfl⟩
  | none =>
    have hs : shown blk es b = blk.getD (73 + b) emptyB := by unfold shown; rw [hat]
    rw [hs]
    have hf := find_miss l d op es F b w hl (at?_none hat)
    have Hf := hide hf
    have hr := dread_any d blk base recs G (73 + b) w hd (by omega)
    have e1 : ((73 + b : Nat) : Int) = 73 + (b : Int) := by omega
    rw [e1] at hr
    have Hr := hide hr
    clear hf hat hs hr e1
    obtain ⟨⟨nb, db, gn, gd, h1, h2, h3, h4, h5, f1, f2, f3⟩, _⟩ := hl
    have c0 := h1.cell 0
    go_enter Tryz.func205, Tryz.ntmps205
    go_wp2_with fail
    refine (inData_any _ _).mono ?_
    rintro e w' ⟨rfl, rfl⟩
    go_wp2_with fail
    refine (unhide Hf).mono ?_
    rintro e w' ⟨rfl, rfl⟩
    go_wp2_with fail
    refine (homeAt_any _ _ (by omega) (by omega)).mono ?_
    rintro e w' ⟨rfl, rfl⟩
    go_wp2_with fail
    refine (unhide Hr).mono ?_
    rintro e w' ⟨rfl, rfl⟩
    go_wp2_with fail
    go_ret2
    exact ⟨rfl, rfl⟩

theorem wread_out (l : Nat) (b : Int) (w : World) (hb : ¬ (0 ≤ b ∧ b < 80)) :
    Calls Tryz.prog 205 #[.pointer (some ⟨l, 0, none⟩), .int .i64 b] w fun e w' => e = .returned (.tuple #[.string emptyB, .int .i64 1]) ∧ w = w' := by
  have hin := inD_f hb
  clear hb
  go_enter Tryz.func205, Tryz.ntmps205
  go_wp2_with fail
  refine (inData_any _ _).mono ?_
  rintro e w' ⟨rfl, rfl⟩
  go_wp2_with fail
  go_ret2
  exact ⟨rfl, rfl⟩




end Go.Proofs.Qxb6500412aGreat
