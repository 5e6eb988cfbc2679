/-
  OWN WORK. THE GRAPH: rows of numbers.
-/
import Derived.Test.Qxb6500417aGreatTGet
import Derived.Test.Qxb6500417aGreatTEnt2
import Derived.Laws.CopyRow
import Derived.Laws.IdiomCopy
namespace Go.Proofs.Qxb6500417aGreat
open Go.RowKit Go.PlainAid
set_option linter.unusedSimpArgs false
set_option linter.unusedVariables false

def iV (l : List Int) : List Value := l.map (fun (x : Int) => Value.int .i64 x)
theorem iV_len (l : List Int) : (iV l).length = l.length := by simp [iV]
theorem iV_snoc (l : List Int) (x : Int) : iV (l ++ [x]) = iV l ++ [.int .i64 x] := by simp [iV]
def IntsIn (w : World) (v : Value) (l : List Int) : Prop := ∃ a cap, v = .slice a l.length cap ∧ (0 < l.length → ∃ g, a = some ⟨g, 0, none⟩ ∧ ∀ i (h : i < l.length), w.cell? ⟨g, i, none⟩ = some (.int .i64 l[i]))
def OwnI (w : World) (v : Value) (l : List Int) : Prop := w.ownsRow 0 3 1 v l.length (iV l)
theorem IntsIn.keep {S : Nat → Prop} {w w' : World} {v : Value} {l : List Int} (h : IntsIn w v l) (ho : Only S w w') (hS : ∀ k, v.ownBlock = some k → ¬ S k) : IntsIn w' v l := by
  obtain ⟨a, cap, rfl, h2⟩ := h
  refine ⟨a, cap, rfl, fun hn => ?_⟩
  obtain ⟨g, rfl, hc⟩ := h2 hn
  refine ⟨g, rfl, fun i hi => ?_⟩
  have hl : g < w.heap.size := World.block_lt_of_cell? w _ (hc 0 hn)
  rw [World.cell?_of_block (ho.block g hl (hS g rfl))]
  exact hc i hi
theorem IntsIn.nil (w : World) : IntsIn w (.slice none 0 0) [] := ⟨_, _, rfl, fun h => absurd h (by simp)⟩
theorem EntsIn.nil (w : World) : EntsIn w (.slice none 0 0) [] := ⟨_, _, rfl, fun h => absurd h (by simp)⟩
theorem OwnI.keep {S : Nat → Prop} {w w' : World} {v : Value} {l : List Int} (h : OwnI w v l) (ho : Only S w w') (hS : ∀ k, v.ownBlock = some k → ¬ S k) : OwnI w' v l := ownsRow_keep h ho hS
theorem OwnI.nil (w : World) : OwnI w (.slice none 0 0) [] := World.ownsRow_nil _ _ _ _

theorem bytesAt_ofU {w : World} {g n : Nat} {x : Nat → Nat} (h : Has w g (tabV n (u8f x)) 5) : BytesAt w (.slice (some ⟨g, 0, none⟩) n n) n x := by
  refine ⟨_, _, rfl, fun hn => ⟨g, rfl, fun j hj => ?_⟩⟩
  rw [h.cell, u8_get _ _ _ hj]
theorem OwnI.in_ {w : World} {v : Value} {l : List Int} (h : OwnI w v l) : IntsIn w v l := by
  obtain ⟨a, cap, rfl⟩ := ownsRow_shape h
  refine ⟨a, cap, rfl, fun hn => ?_⟩
  rcases h.2 with ⟨he, h0⟩ | ⟨g, cap', cur, he, _⟩
  · omega
  · obtain ⟨rfl, _, _⟩ : a = some ⟨g, 0, none⟩ ∧ True ∧ cap = cap' := by simpa using he
    refine ⟨g, rfl, fun i hi => ?_⟩
    have hc := World.ownsRow.cells h (g := g) (by first | exact rfl | simp [Value.ownBlock])
    have b1 := hc i (.int .i64 l[i]) (by simp [iV, hi])
    rw [addr_add] at b1
    exact b1
theorem Tryz.infoIntU : (Tryz.prog.info? 3).map (fun i => (i.zero, i.size, i.bytes)) = some (some (.int .i64 0), 1, 8) := by kernel_rfl
end Go.Proofs.Qxb6500417aGreat
