/-
  OWN WORK. THE TREE: the rows of a tree's bytes.
-/
import Derived.Test.Qxb6500417aGreatTRow
import Derived.Laws.IdiomStrings
namespace Go.Proofs.Qxb6500417aGreat
open Go.RowKit Go.PlainAid
set_option linter.unusedSimpArgs false
set_option linter.unusedVariables false

def lnV (r : Rw) : List Value := [.bool r.dir, .int .i64 (r.mode : Int), .int .i64 (r.id : Int), .string (sb r.name)]
def lnCells : List Rw → List Value
  | [] => []
  | f :: r => lnV f ++ lnCells r
theorem lnCells_snoc (l : List Rw) (f : Rw) : lnCells (l ++ [f]) = lnCells l ++ [.bool f.dir, .int .i64 (f.mode : Int), .int .i64 (f.id : Int), .string (sb f.name)] := by
  induction l with
  | nil => rfl
  | cons a r ih => simp [lnCells, ih, lnV]
theorem lnCells_len (l : List Rw) : (lnCells l).length = l.length * 4 := by
  induction l with
  | nil => rfl
  | cons a r ih => simp [lnCells, ih, lnV]; omega
theorem lnCells_at : ∀ (l : List Rw) (i : Nat) (h : i < l.length), (lnCells l)[i * 4]? = some (.bool l[i].dir) ∧ (lnCells l)[i * 4 + 1]? = some (.int .i64 (l[i].mode : Int)) ∧ (lnCells l)[i * 4 + 2]? = some (.int .i64 (l[i].id : Int)) ∧ (lnCells l)[i * 4 + 3]? = some (.string (sb l[i].name))
  | [], i, h => by simp at h
  | f :: r, 0, h => ⟨rfl, rfl, rfl, rfl⟩
  | f :: r, i + 1, h => by
    have := lnCells_at r i (by simpa using h)
    have e : (i + 1) * 4 = i * 4 + 4 := by omega
    rw [e]
    exact this
/-- The rows lie at the slice (to be read). -/
def LinesIn (w : World) (v : Value) (l : List Rw) : Prop := ∃ a cap, v = .slice a l.length cap ∧ (0 < l.length → ∃ g, a = some ⟨g, 0, none⟩ ∧ ∀ i (h : i < l.length), w.cell? ⟨g, i * 4, none⟩ = some (.bool l[i].dir) ∧ w.cell? ⟨g, i * 4 + 1, none⟩ = some (.int .i64 (l[i].mode : Int)) ∧ w.cell? ⟨g, i * 4 + 2, none⟩ = some (.int .i64 (l[i].id : Int)) ∧ w.cell? ⟨g, i * 4 + 3, none⟩ = some (.string (sb l[i].name)))
def OwnR (w : World) (v : Value) (l : List Rw) : Prop := w.ownsRow 0 194 4 v l.length (lnCells l)
theorem OwnR.in_ {w : World} {v : Value} {l : List Rw} (h : OwnR w v l) : LinesIn w v l := by
  obtain ⟨a, cap, rfl⟩ := ownsRow_shape h
  refine ⟨a, cap, rfl, fun hn => ?_⟩
  rcases h.2 with ⟨he, h0⟩ | ⟨g, cap', cur, he, _⟩
  · omega
  · obtain ⟨rfl, _, _⟩ : a = some ⟨g, 0, none⟩ ∧ True ∧ cap = cap' := by simpa using he
    refine ⟨g, rfl, fun i hi => ?_⟩
    have hc := World.ownsRow.cells h (g := g) (by first | exact rfl | simp [Value.ownBlock])
    obtain ⟨a1, a2, a3, a4⟩ := lnCells_at l i hi
    have b1 := hc _ _ a1
    have b2 := hc _ _ a2
    have b3 := hc _ _ a3
    have b4 := hc _ _ a4
    rw [addr_add] at b1 b2 b3 b4
    exact ⟨b1, b2, b3, b4⟩
theorem LinesIn.keep {S : Nat → Prop} {w w' : World} {v : Value} {l : List Rw} (h : LinesIn w v l) (ho : Only S w w') (hS : ∀ k, v.ownBlock = some k → ¬ S k) : LinesIn w' v l := by
  obtain ⟨a, cap, rfl, h2⟩ := h
  refine ⟨a, cap, rfl, fun hn => ?_⟩
  obtain ⟨g, rfl, hc⟩ := h2 hn
  have hgl : g < w.heap.size := World.block_lt_of_cell? w _ (hc 0 hn).1
  have hb := ho.block g hgl (hS g rfl)
  refine ⟨g, rfl, fun i hi => ?_⟩
  obtain ⟨a1, a2, a3, a4⟩ := hc i hi
  exact ⟨(World.cell?_of_block hb).trans a1, (World.cell?_of_block hb).trans a2, (World.cell?_of_block hb).trans a3, (World.cell?_of_block hb).trans a4⟩
theorem Tryz.infoLine : (Tryz.prog.info? 194).map (fun i => (i.zero, i.size, i.bytes)) = some (some (.agg #[.bool false, .int .i64 0, .int .i64 0, .string ⟨#[]⟩]), 4, 40) := by kernel_rfl
structure RI (w : World) (ov : Value) (l : List Rw) (wr : World) : Prop where
  own : OwnR wr ov l
  hb : ∀ y, ov.ownBlock = some y → w.heap.size ≤ y
  ho : Only (fun _ => False) w wr
theorem RI.nil (w : World) : RI w (.slice none 0 0) [] w := ⟨World.ownsRow_nil _ _ _ _, fun y hy => by simp [Value.ownBlock] at hy, Only.refl _ _⟩
theorem RI.quiet {w : World} {ov : Value} {l : List Rw} {wr w' : World} (h : RI w ov l wr) (ho : Only (fun _ => False) wr w') : RI w ov l w' :=
  ⟨ownsRow_keep h.own ho (fun _ _ h => h), h.hb, h.ho.trans ho (fun _ _ h => h)⟩
theorem RI.push {w : World} {ov v' : Value} {l : List Rw} {wr w' : World} {o : Obj} {n : Nat} (h : RI w ov l wr) (f : Rw) (hown : w'.ownsRow 0 194 4 v' n (lnCells l ++ [.bool f.dir, .int .i64 (f.mode : Int), .int .i64 (f.id : Int), .string (sb f.name)])) (hn : n = l.length + 1)
    (hgrow : (wr.alloc o).grownBy w' ov.ownBlock) (hwhere : ∀ k, v'.ownBlock = some k → ov.ownBlock = some k ∨ k = wr.heap.size + 1) : RI w v' (l ++ [f]) w' := by
  have hs := h.ho.size
  subst hn
  refine ⟨?_, fun y hy => ?_, (h.ho.alloc _).grown hgrow (fun b hb hlt => by have := h.hb b hb; omega)⟩
  · unfold OwnR
    rw [lnCells_snoc, List.length_append]
    exact hown
  · rcases hwhere y hy with e | e
    · exact h.hb y e
    · omega
/-- What the next row's bytes are. -/
theorem enc_at {rs : List Rw} {k : Nat} (hk : k < rs.length) : encs rs = encs (rs.take k) ++ (enc rs[k] ++ encs (rs.drop (k + 1))) := by
  conv => lhs; rw [← List.take_append_drop k rs]
  rw [encs_app, List.drop_eq_getElem_cons hk, encs_cons]
theorem dF_app (a b : List Nat) (j : Nat) : dF (a ++ b) (a.length + j) = dF b j := by
  unfold dF
  rw [List.getD_eq_getElem?_getD, List.getD_eq_getElem?_getD, List.getElem?_append_right (by omega), Nat.add_sub_cancel_left]
theorem dF_left {a b : List Nat} {j : Nat} (h : j < a.length) : dF (a ++ b) j = dF a j := by
  unfold dF
  rw [List.getD_eq_getElem?_getD, List.getD_eq_getElem?_getD, List.getElem?_append_left h]
/-- The head of a row. -/
def hdR (r : Rw) : Nat := if r.dir then 1 else r.mode * 2
theorem enc_bytes {rs : List Rw} {k : Nat} (hk : k < rs.length) : dF (encs rs) ((encs (rs.take k)).length) = hdR rs[k] ∧ dF (encs rs) ((encs (rs.take k)).length + 1) = rs[k].id ∧ dF (encs rs) ((encs (rs.take k)).length + 2) = rs[k].name.length ∧ (∀ j (h : j < rs[k].name.length), dF (encs rs) ((encs (rs.take k)).length + (3 + j)) = (rs[k].name[j]).toNat) ∧ (encs rs).length = (encs (rs.take k)).length + (rs[k].name.length + 3) + (encs (rs.drop (k + 1))).length ∧ (encs (rs.take (k + 1))).length = (encs (rs.take k)).length + (3 + rs[k].name.length) := by
  have e := enc_at hk
  refine ⟨?_, ?_, ?_, fun j hj => ?_, ?_, ?_⟩
  · have := dF_app (encs (rs.take k)) (enc rs[k] ++ encs (rs.drop (k + 1))) 0
    rw [← e] at this
    rw [Nat.add_zero] at this
    rw [this]; rfl
  · have := dF_app (encs (rs.take k)) (enc rs[k] ++ encs (rs.drop (k + 1))) 1
    rw [← e] at this
    rw [this]; rfl
  · have := dF_app (encs (rs.take k)) (enc rs[k] ++ encs (rs.drop (k + 1))) 2
    rw [← e] at this
    rw [this]; rfl
  · have := dF_app (encs (rs.take k)) (enc rs[k] ++ encs (rs.drop (k + 1))) (3 + j)
    rw [← e] at this
    rw [this, dF_left (by rw [enc_len]; omega)]
    unfold dF enc
    rw [List.getD_eq_getElem?_getD]
    have e3 : 3 + j = j + 1 + 1 + 1 := by omega
    rw [e3]
    simp [hj]
  · rw [e]
    simp only [List.length_append, enc_len]
    omega
  · rw [List.take_succ_eq_append_getElem hk, encs_snoc, List.length_append, enc_len]
    omega
end Go.Proofs.Qxb6500417aGreat
