/-
  OWN WORK. A SCRIPT THAT CAME IN: a slice of ops, read as data, lies in memory as 'OpsAt' says.
-/
import Derived.Test.Qxb6500412aGreatOpsDef2
import Derived.Test.Qxb6500412aGreatRows
import Derived.ProofKit
import Derived.SizedLaws
import Derived.Deep.Slices
namespace Go.Proofs.Qxb6500412aGreat
open Go.ChangeShapes Go.WideShapes Go.ChangeAt Go.RowKit
set_option linter.unusedSimpArgs false
set_option linter.unusedVariables false

theorem Tryz.cellsOp : Tryz.prog.cellsOf 38 = 6 := by kernel_rfl
theorem Tryz.cellsInt1 : Tryz.prog.cellsOf 3 = 1 := by kernel_rfl
theorem Tryz.cellsStr1 : Tryz.prog.cellsOf 9 = 1 := by kernel_rfl
theorem Tryz.bytesOp : Tryz.prog.bytesOf 38 = 64 := by kernel_rfl

section
variable {H : Type} {enc : TypeId × Value → H} {w : World} {base : Nat} {spare : Nat → Bool} {held : Bool}

theorem drop_take_one {cs : List Value} {j : Nat} {v : Value} (h : (cs.drop j).take 1 = [v]) : cs[j]? = some v := by
  have := congrArg (fun l : List Value => l[0]?) h
  simpa [List.getElem?_take, List.getElem?_drop] using this

theorem op_of_trod {n : Nat} {cs : List Value} {x : DataW H × List MemPlace} (h : DataW.trod enc Tryz.prog w base spare held n 38 cs = some x) :
    ∃ o : OpD, cs[0]? = some (.int .i64 o.k) ∧ cs[1]? = some (.int .i64 o.a) ∧ cs[2]? = some (.int .i64 o.b) ∧ cs[3]? = some (.int .i64 o.c) ∧ cs[4]? = some (.string o.s) ∧ cs[5]? = some (.string o.t) ∧ o.s.size ≤ maxLen ∧ o.t.size ≤ maxLen := by
  obtain ⟨xs, m, _, rfl, hl, hlen, hf⟩ := DataW.trod_struct Tryz.underlying38 h
  have h6 : xs.length = 6 := hlen
  have f0 : DataW.trod enc Tryz.prog w base spare held m 3 ((cs.drop 0).take (Tryz.prog.cellsOf 3)) = xs[0]? := hf 0 _ rfl
  have f1 : DataW.trod enc Tryz.prog w base spare held m 3 ((cs.drop 1).take (Tryz.prog.cellsOf 3)) = xs[1]? := hf 1 _ rfl
  have f2 : DataW.trod enc Tryz.prog w base spare held m 3 ((cs.drop 2).take (Tryz.prog.cellsOf 3)) = xs[2]? := hf 2 _ rfl
  have f3 : DataW.trod enc Tryz.prog w base spare held m 3 ((cs.drop 3).take (Tryz.prog.cellsOf 3)) = xs[3]? := hf 3 _ rfl
  have f4 : DataW.trod enc Tryz.prog w base spare held m 9 ((cs.drop 4).take (Tryz.prog.cellsOf 9)) = xs[4]? := hf 4 _ rfl
  have f5 : DataW.trod enc Tryz.prog w base spare held m 9 ((cs.drop 5).take (Tryz.prog.cellsOf 9)) = xs[5]? := hf 5 _ rfl
  rw [List.getElem?_eq_getElem (by omega), Tryz.cellsInt1] at f0 f1 f2 f3
  rw [List.getElem?_eq_getElem (by omega), Tryz.cellsStr1] at f4 f5
  obtain ⟨k, e0, _, _⟩ := DataW.trod_int Tryz.underlying3 f0
  obtain ⟨a, e1, _, _⟩ := DataW.trod_int Tryz.underlying3 f1
  obtain ⟨b, e2, _, _⟩ := DataW.trod_int Tryz.underlying3 f2
  obtain ⟨c, e3, _, _⟩ := DataW.trod_int Tryz.underlying3 f3
  obtain ⟨s, e4, _, hs⟩ := DataW.trod_string Tryz.underlying9 f4
  obtain ⟨t, e5, _, ht⟩ := DataW.trod_string Tryz.underlying9 f5
  exact ⟨⟨k, a, b, c, s, t⟩, drop_take_one e0, drop_take_one e1, drop_take_one e2, drop_take_one e3, drop_take_one e4, drop_take_one e5, hs, ht⟩

theorem ops_of_trod {fuel : Nat} {a0 : Option Addr} {len cap : Nat} {x : DataW H × List MemPlace} (h : DataW.trod enc Tryz.prog w 0 (fun _ => true) true fuel 22 [.slice a0 len cap] = some x) :
    ∃ ops, OpsAt w a0 len ops := by
  rcases Go.Deep.open_slice Tryz.underlying22 h with ⟨hcs, _⟩ | ⟨a, len', cap', m, n, D, Pl, hcs, _, hl, hm, hmm, _, hel⟩
  · simp at hcs
    obtain ⟨rfl, rfl, rfl⟩ := hcs
    exact ⟨[], rfl, fun h => by omega⟩
  · simp at hcs
    obtain ⟨rfl, rfl, rfl⟩ := hcs
    simp only [if_true] at hmm
    subst hmm
    have key : ∀ i, i < len → ∃ o : OpD, w.cell? ((a.add (i * 6)).add 0) = some (.int .i64 o.k) ∧ w.cell? ((a.add (i * 6)).add 1) = some (.int .i64 o.a) ∧ w.cell? ((a.add (i * 6)).add 2) = some (.int .i64 o.b) ∧
        w.cell? ((a.add (i * 6)).add 3) = some (.int .i64 o.c) ∧ w.cell? ((a.add (i * 6)).add 4) = some (.string o.s) ∧ w.cell? ((a.add (i * 6)).add 5) = some (.string o.t) ∧ o.s.size ≤ maxLen ∧ o.t.size ≤ maxLen := by
      intro i hi
      obtain ⟨cs', h1, h2⟩ := hel i (by omega)
      rw [Tryz.cellsOp] at h1
      obtain ⟨_, hlc, hc⟩ := World.cells?_some h1
      obtain ⟨o, c0, c1, c2, c3, c4, c5, hs⟩ := op_of_trod h2
      exact ⟨o, (hc 0 (by omega)).trans c0, (hc 1 (by omega)).trans c1, (hc 2 (by omega)).trans c2, (hc 3 (by omega)).trans c3, (hc 4 (by omega)).trans c4, (hc 5 (by omega)).trans c5, hs⟩
    obtain ⟨b, off, spot⟩ := a
    obtain ⟨f, hf⟩ := @Go.Deep.choose_lt OpD ⟨⟨0, 0, 0, 0, ⟨#[]⟩, ⟨#[]⟩⟩⟩ len _ key
    refine ⟨(List.range len).map f, by simp, fun hpos => ?_⟩
    have hsp : spot = none := by
      obtain ⟨o, c0, _⟩ := key 0 hpos
      have := World.cell?_spot c0
      simpa [Addr.add] using this
    subst hsp
    have hadd : ∀ i j, ((⟨b, off, none⟩ : Addr).add (i * 6)).add j = ⟨b, off + i * 6 + j, none⟩ := by
      intro i j
      unfold Addr.add
      split <;> split <;> simp_all
    refine ⟨b, off, rfl, fun i hi => ?_⟩
    have hi' : i < len := by simpa using hi
    have := hf i hi'
    simp only [hadd, Nat.add_zero] at this
    simpa using this
end

end Go.Proofs.Qxb6500412aGreat
