/-
  OWN WORK. THE PAGER's Put, the log's own list named: what it puts down stood in the view.
-/
import Derived.Test.Qxb6500411aGreatPgOps
namespace Go.Proofs.Qxb6500411aGreat
open Go.RowKit
set_option linter.unusedSimpArgs false
set_option linter.unusedVariables false

section
variable {w : World} {p l d : Nat} {op : Bool} {blk base : List ByteArray} {recs : List (Nat × ByteArray)} {com view cur : List ByteArray} {F G : Nat → Prop}

theorem PGc.quiet {w' : World} (h : PGc w p l d blk base recs op com view cur F G) (ho : Only (fun _ => False) w w') : PGc w' p l d blk base recs op com view cur F G := by
  obtain ⟨⟨fr, ord, h1, h2, h3⟩, a, b⟩ := h
  exact ⟨⟨fr, ord, h1.keep ho (fun h => h), h2.quiet ho, h3⟩, a, b⟩
theorem PGc.lg (h : PGc w p l d blk base recs op com view cur F G) : LG w l d blk base recs op com cur F G := by
  obtain ⟨⟨fr, ord, h1, h2, h3⟩, a, b⟩ := h
  exact h2

set_option maxRecDepth 100000 in
theorem pused_c (h : PGc w p l d blk base recs op com view cur F G) (n : Nat) (h1 : 1 ≤ n) (hn : n < 72) :
    Calls Tryz.prog 77 #[.pointer (some ⟨p, 0, Option.none⟩), .int .i64 n] w fun e w' => e = .returned (.bool (usedV view n)) ∧ (∃ cur', PGc w' p l d blk base recs op com view cur' F G ∧ Ev cur view cur') ∧ Only (fun k => G k ∨ k = p) w w' := by
  have C1 := hide (pread_c h 0 (by omega))
  have hs := h.pg.sz 0 (by omega)
  unfold usedV
  generalize view.getD 0 emptyB = m at *
  have C2 := hide (fun w => bit_any m n hs hn w)
  have a1 : decide ((n : Int) < 1) = false := by simp; omega
  have a2 : decide (72 ≤ (n : Int)) = false := by simp; omega
  go_enter Tryz.func77, Tryz.ntmps77
  go_wp2_with fail
  refine (unhide C1).mono ?_
  rintro e w1 ⟨rfl, ⟨cur', h2, hev⟩, ho2⟩
  go_wp2_with fail
  refine (unhide C2 _).mono ?_
  rintro e w2 ⟨rfl, ho3⟩
  go_wp2_with fail
  go_ret
  exact ⟨rfl, ⟨cur', h2.c.quiet ho3, hev⟩, ho2.trans ho3 (fun _ _ h => h.elim)⟩

set_option maxRecDepth 100000 in
theorem pput_c (h : PGc w p l d blk base recs true com view cur F G) (n : Nat) (x : ByteArray) (hx : x.size ≤ maxLen) (h1 : 1 ≤ n) (hn : n < 72) (hu : usedV view n = true) :
    Calls Tryz.prog 74 #[.pointer (some ⟨p, 0, Option.none⟩), .int .i64 n, .string x] w fun e w' => e = .returned (.int .i64 0) ∧ (∃ cur', PGcf w' p l d blk base recs true com (view.set n (blockOf x)) cur' F G n ∧ Ev cur view cur') ∧ Only (fun k => G k ∨ k = p) w w' := by
  have c1 := h.pg.openc
  have C1 := pused_c h n h1 hn
  rw [hu] at C1
  have C1 := hide C1
  have C2 := hide (fun w => blockOf_any x w hx)
  have hbs := blockOf_size x
  go_enter Tryz.func74, Tryz.ntmps74
  go_wp2_with fail
  refine (unhide C1).mono ?_
  rintro e w1 ⟨rfl, ⟨cur1, h2, hev⟩, ho2⟩
  have C3 := hide (pwrite_c h2 n (blockOf x) hn hbs)
  go_wp2_with fail
  refine (unhide C2 _).mono ?_
  rintro e w2 ⟨rfl, rfl⟩
  go_wp2_with fail
  refine (unhide C3).mono ?_
  rintro e w3 ⟨rfl, ⟨cur2, h3, hev2⟩, ho3⟩
  go_wp2_with fail
  go_ret
  exact ⟨rfl, ⟨cur2, h3, hev.trans hev2⟩, ho2.trans ho3 (fun _ _ h => h)⟩
end
end Go.Proofs.Qxb6500411aGreat
