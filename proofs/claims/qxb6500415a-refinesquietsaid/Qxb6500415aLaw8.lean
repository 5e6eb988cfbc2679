/-
  OWN WORK. KeepsUpTo: the parts.
-/
import Derived.Test.Qxb6500415aLaw7
import Derived.Test.Qxb6500415aWalCut
import Derived.Deep.DeepCutAuto
namespace Go.Proofs.Qxb6500415a
open Go.RowKit
set_option linter.unusedSimpArgs false
set_option linter.unusedVariables false

theorem keepStep_any {w : World} {l d g : Nat} {blk base : List ByteArray} {recs : List (Nat × ByteArray)} {op : Bool} {es : List (Nat × ByteArray)} {com was cur : List ByteArray} {dirty : List Bool} {F G H : Nat → Prop}
    (kind a b c : Int) (s t : ByteArray) (hs : s.size ≤ maxLen) (j0 : Joint w l d g blk base recs op es com was cur dirty F G H) (hrc : recs.length ≤ 100) :
    Calls Try.prog 16 #[.pointer (some ⟨l, 0, none⟩), .pointer (some ⟨g, 0, none⟩), .agg #[.int .i64 kind, .int .i64 a, .int .i64 b, .int .i64 c, .string s, .string t]] w fun e w' =>
      e = .returned (.bool true) ∧ KPost w l d g base was F G H blk recs op es com cur kind w' := by
  by_cases hk : 1 ≤ kind ∧ kind ≤ 9
  · have hc : kind = 1 ∨ kind = 2 ∨ kind = 3 ∨ kind = 4 ∨ kind = 5 ∨ kind = 6 ∨ kind = 7 ∨ kind = 8 ∨ kind = 9 := by omega
    rcases hc with rfl | rfl | rfl | rfl | rfl | rfl | rfl | rfl | rfl
    · exact keep_begin a b c s t j0
    · exact keep_read a b c s t j0
    · cases op with
      | false => exact keep_write_no a b c s t 2 j0 rfl (j0.inv.due_shut _ _) (fun w1 j1 => wwrite_shut l d es G a s w1 j1.lg)
      | true =>
        by_cases hin : 0 ≤ a ∧ a < 80
        · obtain ⟨n, rfl⟩ := Int.eq_ofNat_of_zero_le hin.1
          have hn : n < 80 := by omega
          cases hat : at? es n with
          | some i => exact keep_write_old n i b c s t j0 hn hat hs
          | none =>
            by_cases hlt : es.length < 72
            · exact keep_write_new n b c s t j0 hn hat hlt hs
            · have h72 : es.length = 72 := by have := j0.inv.short; omega
              exact keep_write_no n b c s t 4 j0 rfl (j0.inv.due_full hn hat h72) (fun w1 j1 => wwrite_full l d es G n s w1 j1.lg hn hat h72)
        · exact keep_write_no a b c s t 1 j0 rfl (Inv.due_bad _ hin) (fun w1 j1 => wwrite_bad l d es G a s w1 j1.lg hin)
    · exact keep_commit a b c s t j0 hrc
    · exact keep_abort a b c s t j0
    · exact keep_dirty a b c s t j0
    · exact keep_intxn a b c s t j0
    · exact keep_pend a b c s t j0
    · exact keep_check a b c s t j0
  · exact keep_other kind a b c s t j0 hk

/-- An op of a script. -/
structure OpD where
  k : Int
  a : Int
  b : Int
  c : Int
  s : ByteArray
  t : ByteArray

/-- The script lies at the slice a, len of them. -/
def OpsAt (w : World) (ad : Option Addr) (len : Nat) (ops : List OpD) : Prop :=
  ops.length = len ∧ (0 < len → ∃ b off, ad = some ⟨b, off, none⟩ ∧ ∀ i, (h : i < ops.length) →
    w.cell? ⟨b, off + i * 6, none⟩ = some (.int .i64 ops[i].k) ∧ w.cell? ⟨b, off + i * 6 + 1, none⟩ = some (.int .i64 ops[i].a) ∧ w.cell? ⟨b, off + i * 6 + 2, none⟩ = some (.int .i64 ops[i].b) ∧
    w.cell? ⟨b, off + i * 6 + 3, none⟩ = some (.int .i64 ops[i].c) ∧ w.cell? ⟨b, off + i * 6 + 4, none⟩ = some (.string ops[i].s) ∧ w.cell? ⟨b, off + i * 6 + 5, none⟩ = some (.string ops[i].t) ∧ ops[i].s.size ≤ maxLen)

/-- What holds at every round's head. -/
structure LI (w : World) (vb g : Nat) (H : Nat → Prop) (l : Nat) (wr : World) : Prop where
  ex : ∃ d F G blk base recs op es com was cur dirty, Joint wr l d g blk base recs op es com was cur dirty F G H ∧ CutInv base recs was com ∧ Has wr vb #[.pointer (some ⟨d, 0, none⟩)] 29 ∧
    (∀ k, F k → w.heap.size ≤ k ∧ k ≠ vb) ∧ (∀ k, G k → w.heap.size ≤ k ∧ k ≠ vb)
  hH : ∀ k, H k → w.heap.size ≤ k ∧ k ≠ vb
  bel : Below w.heap.size w wr
  vb : w.heap.size ≤ vb

theorem Only.bel {S : Nat → Prop} {w0 w w' : World} (hb : Below w0.heap.size w0 w) (ho : Only S w w') (hS : ∀ k, S k → w0.heap.size ≤ k) : Below w0.heap.size w0 w' :=
  hb.trans ⟨ho.os, ho.tape, ho.output, ho.size, fun k hk => ho.block k (Nat.lt_of_lt_of_le hk hb.size) (fun hs => by have := hS k hs; omega)⟩

theorem zeros_getD (n j : Nat) (h : j < n) : (zeros n).getD j emptyB = zeroB := by
  unfold zeros
  rw [List.getD_eq_getElem?_getD, List.getElem?_replicate, if_pos h]; rfl

theorem inv_zero : Inv (zeros 153) false [] (zeros 80) (zeros 80) (nots 80) := by
  refine Inv.fresh (by simp) (fun x hx => ?_) ?_ (fun b hb => ?_) (by simp)
  · unfold zeros at hx
    rw [List.mem_replicate] at hx
    rw [hx.2, zeroB_size]
  · rw [zeros_getD 153 0 (by omega)]; exact zeroB_byte
  · rw [zeros_getD 153 _ (by omega), zeros_getD 80 _ hb]

end Go.Proofs.Qxb6500415a
