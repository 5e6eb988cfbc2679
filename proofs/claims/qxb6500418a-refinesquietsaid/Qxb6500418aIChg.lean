/-
  OWN WORK. THE INDEX: lists of changes.
-/
import Derived.Test.Qxb6500418aIStatP
namespace Go.Proofs.Qxb6500418a
open Go.RowKit Go.PlainAid
set_option linter.unusedSimpArgs false
set_option linter.unusedVariables false

def cgCells : List Chg → List Value
  | [] => []
  | c :: r => [.string c.path, .int .i64 (c.staged : Int), .int .i64 (c.work : Int)] ++ cgCells r
theorem cgCells_snoc (l : List Chg) (c : Chg) : cgCells (l ++ [c]) = cgCells l ++ [.string c.path, .int .i64 (c.staged : Int), .int .i64 (c.work : Int)] := by
  induction l with
  | nil => rfl
  | cons a r ih => simp [cgCells, ih]
theorem cgCells_at : ∀ (l : List Chg) (i : Nat) (h : i < l.length), (cgCells l)[i * 3]? = some (.string l[i].path) ∧ (cgCells l)[i * 3 + 1]? = some (.int .i64 (l[i].staged : Int)) ∧ (cgCells l)[i * 3 + 2]? = some (.int .i64 (l[i].work : Int))
  | [], i, h => by simp at h
  | f :: r, 0, h => ⟨rfl, rfl, rfl⟩
  | f :: r, i + 1, h => by
    have := cgCells_at r i (by simpa using h)
    have e : (i + 1) * 3 = i * 3 + 3 := by omega
    rw [e]
    exact this
def ChgsIn (w : World) (v : Value) (l : List Chg) : Prop := ∃ a cap, v = .slice a l.length cap ∧ (0 < l.length → ∃ g, a = some ⟨g, 0, none⟩ ∧ ∀ i (h : i < l.length), w.cell? ⟨g, i * 3, none⟩ = some (.string l[i].path) ∧ w.cell? ⟨g, i * 3 + 1, none⟩ = some (.int .i64 (l[i].staged : Int)) ∧ w.cell? ⟨g, i * 3 + 2, none⟩ = some (.int .i64 (l[i].work : Int)))
def OwnC (w : World) (v : Value) (l : List Chg) : Prop := w.ownsRow 0 89 3 v l.length (cgCells l)
theorem OwnC.keep {S : Nat → Prop} {w w' : World} {v : Value} {l : List Chg} (h : OwnC w v l) (ho : Only S w w') (hS : ∀ k, v.ownBlock = some k → ¬ S k) : OwnC w' v l := ownsRow_keep h ho hS
theorem OwnC.nil (w : World) : OwnC w (.slice none 0 0) [] := World.ownsRow_nil _ _ _ _
theorem OwnC.in_ {w : World} {v : Value} {l : List Chg} (h : OwnC w v l) : ChgsIn w v l := by
  obtain ⟨a, cap, rfl⟩ := ownsRow_shape h
  refine ⟨a, cap, rfl, fun hn => ?_⟩
  rcases h.2 with ⟨he, h0⟩ | ⟨g, cap', cur, he, _⟩
  · omega
  · obtain ⟨rfl, _, _⟩ : a = some ⟨g, 0, none⟩ ∧ True ∧ cap = cap' := by simpa using he
    refine ⟨g, rfl, fun i hi => ?_⟩
    have hc := World.ownsRow.cells h (g := g) (by first | exact rfl | simp [Value.ownBlock])
    obtain ⟨a1, a2, a3⟩ := cgCells_at l i hi
    have b1 := hc _ _ a1
    have b2 := hc _ _ a2
    have b3 := hc _ _ a3
    rw [addr_add] at b1 b2 b3
    exact ⟨b1, b2, b3⟩
theorem Try.infoChg : (Try.prog.info? 89).map (fun i => (i.zero, i.size, i.bytes)) = some (some (.agg #[.string ⟨#[]⟩, .int .i64 0, .int .i64 0]), 3, 32) := by kernel_rfl
/-- A list of changes that grows. -/
structure CI (w : World) (ov : Value) (outl : List Chg) (wr : World) : Prop where
  own : OwnC wr ov outl
  hb : ∀ y, ov.ownBlock = some y → w.heap.size ≤ y
  ho : Only (fun _ => False) w wr
theorem CI.nil (w : World) : CI w (.slice none 0 0) [] w := ⟨OwnC.nil _, fun y hy => by simp [Value.ownBlock] at hy, Only.refl _ _⟩
theorem CI.quiet {w : World} {ov : Value} {outl : List Chg} {wr w' : World} (h : CI w ov outl wr) (ho : Only (fun _ => False) wr w') : CI w ov outl w' :=
  ⟨h.own.keep ho (fun _ _ h => h), h.hb, h.ho.trans ho (fun _ _ h => h)⟩
theorem CI.push {w : World} {ov v' : Value} {outl : List Chg} {wr w' : World} {o : Obj} {n : Nat} (h : CI w ov outl wr) (f : Chg) (hown : w'.ownsRow 0 89 3 v' n (cgCells outl ++ [.string f.path, .int .i64 (f.staged : Int), .int .i64 (f.work : Int)])) (hn : n = outl.length + 1)
    (hgrow : (wr.alloc o).grownBy w' ov.ownBlock) (hwhere : ∀ k, v'.ownBlock = some k → ov.ownBlock = some k ∨ k = wr.heap.size + 1) : CI w v' (outl ++ [f]) w' := by
  have hs := h.ho.size
  subst hn
  refine ⟨?_, fun y hy => ?_, (h.ho.alloc _).grown hgrow (fun b hb hlt => by have := h.hb b hb; omega)⟩
  · unfold OwnC
    rw [cgCells_snoc, List.length_append]
    exact hown
  · rcases hwhere y hy with e | e
    · exact h.hb y e
    · omega
end Go.Proofs.Qxb6500418a
