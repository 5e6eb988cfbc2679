/-
  OWN WORK. THE PAGER's METHODS: Used, FreePages, Get, Put, Alloc.
-/
import Derived.Test.Qxb6500412aGreatPgScan
namespace Go.Proofs.Qxb6500412aGreat
open Go.RowKit
set_option linter.unusedSimpArgs false
set_option linter.unusedVariables false

def usedV (view : List ByteArray) (n : Nat) : Bool := bitOf (view.getD 0 emptyB) n

section
variable {w : World} {p l d : Nat} {op : Bool} {blk base : List ByteArray} {recs : List (Nat × ByteArray)} {com view : List ByteArray} {F G : Nat → Prop}

theorem PG.keep {S : Nat → Prop} {w' : World} (h : PG w p l d blk base recs op com view F G) (ho : Only S w w') (hF : ∀ k, F k → ¬ S k) (hG : ∀ k, G k → ¬ S k) (hp : ¬ S p) : PG w' p l d blk base recs op com view F G := by
  obtain ⟨⟨fr, ord, cur, h1, h2, h3⟩, a, b⟩ := h
  exact ⟨⟨fr, ord, cur, h1.keep ho hp, h2.keep ho hF hG, h3⟩, a, b⟩
theorem PG.quiet {w' : World} (h : PG w p l d blk base recs op com view F G) (ho : Only (fun _ => False) w w') : PG w' p l d blk base recs op com view F G := h.keep ho (fun _ _ h => h) (fun _ _ h => h) (fun h => h)
theorem PGf.quiet {n : Nat} {w' : World} (h : PGf w p l d blk base recs op com view F G n) (ho : Only (fun _ => False) w w') : PGf w' p l d blk base recs op com view F G n := by
  obtain ⟨⟨fr, ord, cur, h1, h2, h3, h4⟩, a, b⟩ := h
  exact ⟨⟨fr, ord, cur, h1.keep ho (fun h => h), h2.quiet ho, h3, h4⟩, a, b⟩
theorem PG.sz (h : PG w p l d blk base recs op com view F G) (n : Nat) (hn : n < 72) : (view.getD n emptyB).size = 128 := by
  obtain ⟨⟨fr, ord, cur, h1, h2, h3⟩, a, b⟩ := h
  exact h3.sz n hn
theorem PG.lv (h : PG w p l d blk base recs op com view F G) : view.length = 72 := by
  obtain ⟨⟨fr, ord, cur, h1, h2, h3⟩, a, b⟩ := h
  exact h3.lv
theorem PG.openc (h : PG w p l d blk base recs op com view F G) : w.cell? ⟨p, 1, Option.none⟩ = some (.bool op) := by
  obtain ⟨⟨fr, ord, cur, h1, h2, h3⟩, a, b⟩ := h
  exact h1.head.2.1

theorem pread0 (h : PG w p l d blk base recs op com view F G) :
    Calls Tryz.prog 142 #[.pointer (some ⟨p, 0, Option.none⟩), .int .i64 0] w fun e w' => e = .returned (.tuple #[.string (view.getD 0 emptyB), .int .i64 0]) ∧ PG w' p l d blk base recs op com view F G ∧ Only (fun k => G k ∨ k = p) w w' :=
  (pread_any h 0 (by omega)).mono fun _ _ ⟨a, b, c⟩ => ⟨a, b.pg, c⟩
theorem pwrite0 (h : PG w p l d blk base recs true com view F G) (x : ByteArray) (hx : x.size = 128) :
    Calls Tryz.prog 147 #[.pointer (some ⟨p, 0, Option.none⟩), .int .i64 0, .string x] w fun e w' => e = .returned (.int .i64 0) ∧ PG w' p l d blk base recs true com (view.set 0 x) F G ∧ Only (fun k => G k ∨ k = p) w w' :=
  (pwrite_any h 0 x (by omega) hx).mono fun _ _ ⟨a, b, c⟩ => ⟨a, b.pg, c⟩

theorem pused_out (p : Nat) (n : Int) (hn : ¬ (1 ≤ n ∧ n < 72)) (w : World) :
    Calls Tryz.prog 87 #[.pointer (some ⟨p, 0, Option.none⟩), .int .i64 n] w fun e w' => e = .returned (.bool false) ∧ w = w' := by
  by_cases h0 : n < 1
  · have h0' : decide (n < 1) = true := by simpa using h0
    go_enter Tryz.func87, Tryz.ntmps87
    go_wp2
    go_ret
    exact ⟨rfl, rfl⟩
  · have h0' : decide (n < 1) = false := by simpa using h0
    have h8 : 72 ≤ n := by omega
    go_enter Tryz.func87, Tryz.ntmps87
    go_wp2
    go_ret
    exact ⟨rfl, rfl⟩

set_option maxRecDepth 100000 in
theorem pused_in (h : PG w p l d blk base recs op com view F G) (n : Nat) (h1 : 1 ≤ n) (hn : n < 72) :
    Calls Tryz.prog 87 #[.pointer (some ⟨p, 0, Option.none⟩), .int .i64 n] w fun e w' => e = .returned (.bool (usedV view n)) ∧ PG w' p l d blk base recs op com view F G ∧ Only (fun k => G k ∨ k = p) w w' := by
  have C1 := hide (pread0 h)
  have hs := h.sz 0 (by omega)
  unfold usedV
  generalize view.getD 0 emptyB = m at *
  have C2 := hide (fun w => bit_any m n hs hn w)
  have a1 : decide ((n : Int) < 1) = false := by simp; omega
  have a2 : decide (72 ≤ (n : Int)) = false := by simp; omega
  go_enter Tryz.func87, Tryz.ntmps87
  go_wp2_with fail
  refine (unhide C1).mono ?_
  rintro e w1 ⟨rfl, h2, ho2⟩
  go_wp2_with fail
  refine (unhide C2 _).mono ?_
  rintro e w2 ⟨rfl, ho3⟩
  go_wp2_with fail
  go_ret
  exact ⟨rfl, h2.quiet ho3, ho2.trans ho3 (fun _ _ h => h.elim)⟩

set_option maxRecDepth 100000 in
theorem pget_out (p : Nat) (n : Int) (hn : ¬ (1 ≤ n ∧ n < 72)) (w : World) :
    Calls Tryz.prog 211 #[.pointer (some ⟨p, 0, Option.none⟩), .int .i64 n] w fun e w' => e = .returned (.tuple #[.string emptyB, .int .i64 5]) ∧ w = w' := by
  have C1 := hide (pused_out p n hn w)
  clear hn
  go_enter Tryz.func211, Tryz.ntmps211
  go_wp2_with fail
  refine (unhide C1).mono ?_
  rintro e w1 ⟨rfl, rfl⟩
  go_wp2_with fail
  go_ret2
  exact ⟨rfl, rfl⟩

set_option maxRecDepth 100000 in
theorem pget_free (h : PG w p l d blk base recs op com view F G) (n : Nat) (h1 : 1 ≤ n) (hn : n < 72) (hu : usedV view n = false) :
    Calls Tryz.prog 211 #[.pointer (some ⟨p, 0, Option.none⟩), .int .i64 n] w fun e w' => e = .returned (.tuple #[.string emptyB, .int .i64 5]) ∧ PG w' p l d blk base recs op com view F G ∧ Only (fun k => G k ∨ k = p) w w' := by
  have C1 := pused_in h n h1 hn
  rw [hu] at C1
  have C1 := hide C1
  go_enter Tryz.func211, Tryz.ntmps211
  go_wp2_with fail
  refine (unhide C1).mono ?_
  rintro e w1 ⟨rfl, h2, ho2⟩
  go_wp2_with fail
  go_ret2
  exact ⟨rfl, h2, ho2⟩

set_option maxRecDepth 100000 in
theorem pget_used (h : PG w p l d blk base recs op com view F G) (n : Nat) (h1 : 1 ≤ n) (hn : n < 72) (hu : usedV view n = true) :
    Calls Tryz.prog 211 #[.pointer (some ⟨p, 0, Option.none⟩), .int .i64 n] w fun e w' => e = .returned (.tuple #[.string (view.getD n emptyB), .int .i64 0]) ∧ PGf w' p l d blk base recs op com view F G n ∧ Only (fun k => G k ∨ k = p) w w' := by
  have C1 := pused_in h n h1 hn
  rw [hu] at C1
  have C1 := hide C1
  go_enter Tryz.func211, Tryz.ntmps211
  go_wp2_with fail
  refine (unhide C1).mono ?_
  rintro e w1 ⟨rfl, h2, ho2⟩
  have C2 := hide (pread_any h2 n hn)
  go_wp2_with fail
  refine (unhide C2).mono ?_
  rintro e w2 ⟨rfl, h3, ho3⟩
  go_wp2_with fail
  go_ret2
  exact ⟨rfl, h3, ho2.trans ho3 (fun _ _ h => h)⟩

theorem pput_shut (h : PG w p l d blk base recs false com view F G) (n : Int) (x : ByteArray) :
    Calls Tryz.prog 213 #[.pointer (some ⟨p, 0, Option.none⟩), .int .i64 n, .string x] w fun e w' => e = .returned (.int .i64 2) ∧ w = w' := by
  have c1 := h.openc
  go_enter Tryz.func213, Tryz.ntmps213
  go_wp2_with fail
  go_ret
  exact ⟨rfl, rfl⟩
theorem pput_out (h : PG w p l d blk base recs true com view F G) (n : Int) (x : ByteArray) (hn : ¬ (1 ≤ n ∧ n < 72)) :
    Calls Tryz.prog 213 #[.pointer (some ⟨p, 0, Option.none⟩), .int .i64 n, .string x] w fun e w' => e = .returned (.int .i64 5) ∧ w = w' := by
  have c1 := h.openc
  have C1 := hide (pused_out p n hn w)
  clear hn
  go_enter Tryz.func213, Tryz.ntmps213
  go_wp2_with fail
  refine (unhide C1).mono ?_
  rintro e w1 ⟨rfl, rfl⟩
  go_wp2_with fail
  go_ret
  exact ⟨rfl, rfl⟩
theorem pput_free (h : PG w p l d blk base recs true com view F G) (n : Nat) (x : ByteArray) (h1 : 1 ≤ n) (hn : n < 72) (hu : usedV view n = false) :
    Calls Tryz.prog 213 #[.pointer (some ⟨p, 0, Option.none⟩), .int .i64 n, .string x] w fun e w' => e = .returned (.int .i64 5) ∧ PG w' p l d blk base recs true com view F G ∧ Only (fun k => G k ∨ k = p) w w' := by
  have c1 := h.openc
  have C1 := pused_in h n h1 hn
  rw [hu] at C1
  have C1 := hide C1
  go_enter Tryz.func213, Tryz.ntmps213
  go_wp2_with fail
  refine (unhide C1).mono ?_
  rintro e w1 ⟨rfl, h2, ho2⟩
  go_wp2_with fail
  go_ret
  exact ⟨rfl, h2, ho2⟩
theorem pput_used (h : PG w p l d blk base recs true com view F G) (n : Nat) (x : ByteArray) (hx : x.size ≤ maxLen) (h1 : 1 ≤ n) (hn : n < 72) (hu : usedV view n = true) :
    Calls Tryz.prog 213 #[.pointer (some ⟨p, 0, Option.none⟩), .int .i64 n, .string x] w fun e w' => e = .returned (.int .i64 0) ∧ PGf w' p l d blk base recs true com (view.set n (blockOf x)) F G n ∧ Only (fun k => G k ∨ k = p) w w' := by
  have c1 := h.openc
  have C1 := pused_in h n h1 hn
  rw [hu] at C1
  have C1 := hide C1
  have C2 := hide (fun w => blockOf_any x w hx)
  have hbs := blockOf_size x
  go_enter Tryz.func213, Tryz.ntmps213
  go_wp2_with fail
  refine (unhide C1).mono ?_
  rintro e w1 ⟨rfl, h2, ho2⟩
  have C3 := hide (pwrite_any h2 n (blockOf x) hn hbs)
  go_wp2_with fail
  refine (unhide C2 _).mono ?_
  rintro e w2 ⟨rfl, rfl⟩
  go_wp2_with fail
  refine (unhide C3).mono ?_
  rintro e w3 ⟨rfl, h3, ho3⟩
  go_wp2_with fail
  go_ret
  exact ⟨rfl, h3, ho2.trans ho3 (fun _ _ h => h)⟩

theorem palloc_shut (h : PG w p l d blk base recs false com view F G) :
    Calls Tryz.prog 89 #[.pointer (some ⟨p, 0, Option.none⟩)] w fun e w' => e = .returned (.tuple #[.int .i64 0, .int .i64 2]) ∧ w = w' := by
  have c1 := h.openc
  go_enter Tryz.func89, Tryz.ntmps89
  go_wp2_with fail
  go_ret2
  exact ⟨rfl, rfl⟩
set_option maxRecDepth 100000 in
theorem palloc_full (h : PG w p l d blk base recs true com view F G) (hf : lowOf (usedV view) = 0) :
    Calls Tryz.prog 89 #[.pointer (some ⟨p, 0, Option.none⟩)] w fun e w' => e = .returned (.tuple #[.int .i64 0, .int .i64 6]) ∧ PG w' p l d blk base recs true com view F G ∧ Only (fun k => G k ∨ k = p) w w' := by
  have c1 := h.openc
  have C1 := hide (pread0 h)
  have hs := h.sz 0 (by omega)
  have C2 : ∀ w, Calls Tryz.prog 145 #[.string (view.getD 0 emptyB)] w fun e w' => e = .returned (.int .i64 0) ∧ w = w' := by
    intro w
    have := lowestClear_any (view.getD 0 emptyB) hs w
    have e1 : lowOf (bitOf (view.getD 0 emptyB)) = 0 := hf
    rw [e1] at this
    exact this
  clear hf
  generalize view.getD 0 emptyB = m at *
  have C2 := hide C2
  go_enter Tryz.func89, Tryz.ntmps89
  go_wp2_with fail
  refine (unhide C1).mono ?_
  rintro e w1 ⟨rfl, h2, ho2⟩
  go_wp2_with fail
  refine (unhide C2 _).mono ?_
  rintro e w2 ⟨rfl, rfl⟩
  go_wp2_with fail
  go_ret2
  exact ⟨rfl, h2, ho2⟩
set_option maxRecDepth 100000 in
set_option maxHeartbeats 1000000 in
theorem palloc_some (h : PG w p l d blk base recs true com view F G) (n : Nat) (hf : lowOf (usedV view) = n) (hn : n ≠ 0) :
    Calls Tryz.prog 89 #[.pointer (some ⟨p, 0, Option.none⟩)] w fun e w' => e = .returned (.tuple #[.int .i64 n, .int .i64 0]) ∧ PGf w' p l d blk base recs true com ((view.set 0 (setB (view.getD 0 emptyB) n)).set n zeroB) F G n ∧ Only (fun k => G k ∨ k = p) w w' := by
  have c1 := h.openc
  have C1 := hide (pread0 h)
  have hs := h.sz 0 (by omega)
  have hlt : n < 72 := by rw [← hf]; exact lowOf_lt _
  have C2 : ∀ w, Calls Tryz.prog 145 #[.string (view.getD 0 emptyB)] w fun e w' => e = .returned (.int .i64 n) ∧ w = w' := by
    intro w
    have := lowestClear_any (view.getD 0 emptyB) hs w
    have e1 : lowOf (bitOf (view.getD 0 emptyB)) = n := hf
    rw [e1] at this
    exact this
  have hss := setB_size _ n hs hlt
  clear hf
  generalize view.getD 0 emptyB = m at *
  have C2 := hide C2
  have C3 := hide (fun w => setBit_any m n hs hlt w)
  have hz := zeroB_size
  have n0 : ((n : Int) == 0) = false := by simpa using hn
  go_enter Tryz.func89, Tryz.ntmps89
  go_wp2_with fail
  refine (unhide C1).mono ?_
  rintro e w1 ⟨rfl, h2, ho2⟩
  go_wp2_with fail
  refine (unhide C2 _).mono ?_
  rintro e w2 ⟨rfl, rfl⟩
  go_wp2_with fail
  refine (unhide C3 _).mono ?_
  rintro e w3 ⟨rfl, ho3⟩
  have C4 := hide (pwrite0 (h2.quiet ho3) (setB m n) hss)
  go_wp2_with fail
  refine (unhide C4).mono ?_
  rintro e w4 ⟨rfl, h4, ho4⟩
  have C5 := hide (pwrite_any h4 n zeroB hlt hz)
  go_wp2_with fail
  refine (unhide C5).mono ?_
  rintro e w5 ⟨rfl, h5, ho5⟩
  go_wp2_with fail
  go_ret2
  exact ⟨rfl, h5, ((ho2.trans ho3 (fun _ _ h => h.elim)).trans ho4 (fun _ _ h => h)).trans ho5 (fun _ _ h => h)⟩
end
end Go.Proofs.Qxb6500412aGreat
