/-
  OWN WORK. A SCRIPT AS PLAIN DATA.
-/
import Derived.Test.Qxb6500412aGreatHeap
namespace Go.Proofs.Qxb6500412aGreat
open Go.RowKit
set_option linter.unusedSimpArgs false
set_option linter.unusedVariables false

/-- An op of a script. -/
structure OpD where
  k : Int
  a : Int
  b : Int
  c : Int
  s : ByteArray
  t : ByteArray

/-- The script lies at the slice a, len of them. -/
def OpsAt (w : World) (ad : Option Addr) (len : Nat) (ops : List OpD) : Prop :=
  ops.length = len ∧ (0 < len → ∃ b off, ad = some ⟨b, off, none⟩ ∧ ∀ i, (h : i < ops.length) →
    w.cell? ⟨b, off + i * 6, none⟩ = some (.int .i64 ops[i].k) ∧ w.cell? ⟨b, off + i * 6 + 1, none⟩ = some (.int .i64 ops[i].a) ∧ w.cell? ⟨b, off + i * 6 + 2, none⟩ = some (.int .i64 ops[i].b) ∧
    w.cell? ⟨b, off + i * 6 + 3, none⟩ = some (.int .i64 ops[i].c) ∧ w.cell? ⟨b, off + i * 6 + 4, none⟩ = some (.string ops[i].s) ∧ w.cell? ⟨b, off + i * 6 + 5, none⟩ = some (.string ops[i].t) ∧ ops[i].s.size ≤ maxLen ∧ ops[i].t.size ≤ maxLen)

theorem Only.bel {S : Nat → Prop} {w0 w w' : World} (hb : Below w0.heap.size w0 w) (ho : Only S w w') (hS : ∀ k, S k → w0.heap.size ≤ k) : Below w0.heap.size w0 w' :=
  hb.trans ⟨ho.os, ho.tape, ho.output, ho.size, fun k hk => ho.block k (Nat.lt_of_lt_of_le hk hb.size) (fun hs => by have := hS k hs; omega)⟩

end Go.Proofs.Qxb6500412aGreat
