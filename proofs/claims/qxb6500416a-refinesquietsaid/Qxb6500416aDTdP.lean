/-
  OWN WORK. THE TREE DIFF, in plain terms; lists of changes.
-/
import Derived.Test.Qxb6500416aDApP
namespace Go.Proofs.Qxb6500416a
open Go.RowKit Go.PlainAid
set_option linter.unusedSimpArgs false
set_option linter.unusedVariables false

structure Chg where
  path : ByteArray
  staged : Nat
  work : Nat
def cgCells : List Chg → List Value
  | [] => []
  | c :: r => [.string c.path, .int .i64 (c.staged : Int), .int .i64 (c.work : Int)] ++ cgCells r
theorem cgCells_snoc (l : List Chg) (c : Chg) : cgCells (l ++ [c]) = cgCells l ++ [.string c.path, .int .i64 (c.staged : Int), .int .i64 (c.work : Int)] := by
  induction l with
  | nil => rfl
  | cons a r ih => simp [cgCells, ih]
theorem cgCells_at : ∀ (l : List Chg) (i : Nat) (h : i < l.length), (cgCells l)[i * 3]? = some (.string l[i].path) ∧ (cgCells l)[i * 3 + 1]? = some (.int .i64 (l[i].staged : Int)) ∧ (cgCells l)[i * 3 + 2]? = some (.int .i64 (l[i].work : Int))
  | [], i, h => by simp at h
  | f :: r, 0, h => ⟨rfl, rfl, rfl⟩
  | f :: r, i + 1, h => by
    have := cgCells_at r i (by simpa using h)
    have e : (i + 1) * 3 = i * 3 + 3 := by omega
    rw [e]
    exact this
def ChgsIn (w : World) (v : Value) (l : List Chg) : Prop := ∃ a cap, v = .slice a l.length cap ∧ (0 < l.length → ∃ g, a = some ⟨g, 0, none⟩ ∧ ∀ i (h : i < l.length), w.cell? ⟨g, i * 3, none⟩ = some (.string l[i].path) ∧ w.cell? ⟨g, i * 3 + 1, none⟩ = some (.int .i64 (l[i].staged : Int)) ∧ w.cell? ⟨g, i * 3 + 2, none⟩ = some (.int .i64 (l[i].work : Int)))
def OwnC (w : World) (v : Value) (l : List Chg) : Prop := w.ownsRow 0 65 3 v l.length (cgCells l)
theorem OwnC.keep {S : Nat → Prop} {w w' : World} {v : Value} {l : List Chg} (h : OwnC w v l) (ho : Only S w w') (hS : ∀ k, v.ownBlock = some k → ¬ S k) : OwnC w' v l := ownsRow_keep h ho hS
theorem OwnC.nil (w : World) : OwnC w (.slice none 0 0) [] := World.ownsRow_nil _ _ _ _
theorem OwnC.in_ {w : World} {v : Value} {l : List Chg} (h : OwnC w v l) : ChgsIn w v l := by
  obtain ⟨a, cap, rfl⟩ := ownsRow_shape h
  refine ⟨a, cap, rfl, fun hn => ?_⟩
  rcases h.2 with ⟨he, h0⟩ | ⟨g, cap', cur, he, _⟩
  · omega
  · obtain ⟨rfl, _, _⟩ : a = some ⟨g, 0, none⟩ ∧ True ∧ cap = cap' := by simpa using he
    refine ⟨g, rfl, fun i hi => ?_⟩
    have hc := World.ownsRow.cells h (g := g) (by first | exact rfl | simp [Value.ownBlock])
    obtain ⟨a1, a2, a3⟩ := cgCells_at l i hi
    have b1 := hc _ _ a1
    have b2 := hc _ _ a2
    have b3 := hc _ _ a3
    rw [addr_add] at b1 b2 b3
    exact ⟨b1, b2, b3⟩
theorem Try.infoChg : (Try.prog.info? 65).map (fun i => (i.zero, i.size, i.bytes)) = some (some (.agg #[.string ⟨#[]⟩, .int .i64 0, .int .i64 0]), 3, 32) := by kernel_rfl
/-- A list of changes that grows. -/
structure CI (w : World) (ov : Value) (outl : List Chg) (wr : World) : Prop where
  own : OwnC wr ov outl
  hb : ∀ y, ov.ownBlock = some y → w.heap.size ≤ y
  ho : Only (fun _ => False) w wr
theorem CI.nil (w : World) : CI w (.slice none 0 0) [] w := ⟨OwnC.nil _, fun y hy => by simp [Value.ownBlock] at hy, Only.refl _ _⟩
theorem CI.quiet {w : World} {ov : Value} {outl : List Chg} {wr w' : World} (h : CI w ov outl wr) (ho : Only (fun _ => False) wr w') : CI w ov outl w' :=
  ⟨h.own.keep ho (fun _ _ h => h), h.hb, h.ho.trans ho (fun _ _ h => h)⟩
theorem CI.push {w : World} {ov v' : Value} {outl : List Chg} {wr w' : World} {o : Obj} {n : Nat} (h : CI w ov outl wr) (f : Chg) (hown : w'.ownsRow 0 65 3 v' n (cgCells outl ++ [.string f.path, .int .i64 (f.staged : Int), .int .i64 (f.work : Int)])) (hn : n = outl.length + 1)
    (hgrow : (wr.alloc o).grownBy w' ov.ownBlock) (hwhere : ∀ k, v'.ownBlock = some k → ov.ownBlock = some k ∨ k = wr.heap.size + 1) : CI w v' (outl ++ [f]) w' := by
  have hs := h.ho.size
  subst hn
  refine ⟨?_, fun y hy => ?_, (h.ho.alloc _).grown hgrow (fun b hb hlt => by have := h.hb b hb; omega)⟩
  · unfold OwnC
    rw [cgCells_snoc, List.length_append]
    exact hown
  · rcases hwhere y hy with e | e
    · exact h.hb y e
    · omega
theorem less_tri : ∀ (a b : List UInt8), Op.bytesLess a b = false → Op.bytesLess b a = false → a = b
  | [], [], _, _ => rfl
  | [], b :: y, h, _ => by simp [Op.bytesLess] at h
  | a :: x, [], _, h => by simp [Op.bytesLess] at h
  | a :: x, b :: y, h1, h2 => by
    simp only [Op.bytesLess, Bool.or_eq_false_iff, Bool.and_eq_false_iff, decide_eq_false_iff_not, beq_eq_false_iff_ne, ne_eq] at h1 h2
    obtain ⟨a1, a2⟩ := h1
    obtain ⟨b1, b2⟩ := h2
    have e : a = b := by
      apply UInt8.toNat_inj.1
      have h1 := mt UInt8.lt_iff_toNat_lt.2 a1
      have h2 := mt UInt8.lt_iff_toNat_lt.2 b1
      omega
    subst e
    rw [less_tri x y (a2.resolve_left (fun h => h rfl)) (b2.resolve_left (fun h => h rfl))]
theorem ltS_tri {a b : ByteArray} (h1 : ltS a b = false) (h2 : ltS b a = false) : a = b := by
  unfold ltS at h1 h2
  rw [ls_toList, ls_toList] at h1 h2
  exact ls_inj (less_tri _ _ h1 h2)
/-- The tree diff. -/
def tdF : List Fl → List Fl → List Chg
  | [], [] => []
  | [], y :: b => ⟨y.path, 1, 0⟩ :: tdF [] b
  | x :: a, [] => ⟨x.path, 3, 0⟩ :: tdF a []
  | x :: a, y :: b => if ltS x.path y.path = true then ⟨x.path, 3, 0⟩ :: tdF a (y :: b) else if ltS y.path x.path = true then ⟨y.path, 1, 0⟩ :: tdF (x :: a) b else
      (if x.data = y.data ∧ x.mode = y.mode then tdF a b else ⟨x.path, 2, 0⟩ :: tdF a b)
termination_by a b => a.length + b.length
theorem tdF_00 : tdF [] [] = [] := by rw [tdF]
theorem tdF_0 (y : Fl) (b : List Fl) : tdF [] (y :: b) = ⟨y.path, 1, 0⟩ :: tdF [] b := by rw [tdF]
theorem tdF_1 (x : Fl) (a : List Fl) : tdF (x :: a) [] = ⟨x.path, 3, 0⟩ :: tdF a [] := by rw [tdF]
theorem tdF_2 (x y : Fl) (a b : List Fl) : tdF (x :: a) (y :: b) = if ltS x.path y.path = true then ⟨x.path, 3, 0⟩ :: tdF a (y :: b) else if ltS y.path x.path = true then ⟨y.path, 1, 0⟩ :: tdF (x :: a) b else
      (if x.data = y.data ∧ x.mode = y.mode then tdF a b else ⟨x.path, 2, 0⟩ :: tdF a b) := by rw [tdF]
/-- How far the tree diff has come. -/
structure TdAt (a b : List Fl) (out : List Chg) (i j : Nat) : Prop where
  il : i ≤ a.length
  jl : j ≤ b.length
  eq : tdF a b = out ++ tdF (a.drop i) (b.drop j)
  len : out.length ≤ i + j
section
variable {a b : List Fl} {out : List Chg} {i j : Nat}
theorem TdAt.start (a b : List Fl) : TdAt a b [] 0 0 := ⟨by omega, by omega, rfl, by simp⟩
theorem TdAt.fin (h : TdAt a b out i j) (hi : i = a.length) (hj : j = b.length) : tdF a b = out := by
  rw [h.eq, List.drop_eq_nil_of_le (by omega), List.drop_eq_nil_of_le (by omega), tdF_00, List.append_nil]
theorem TdAt.rem0 (h : TdAt a b out i j) (hi : i < a.length) (hj : j = b.length) : TdAt a b (out ++ [⟨a[i].path, 3, 0⟩]) (i + 1) j := by
  refine ⟨by omega, h.jl, ?_, by have := h.len; simp; omega⟩
  have hd : b.drop j = [] := List.drop_eq_nil_of_le (by omega)
  rw [h.eq, hd, List.drop_eq_getElem_cons hi, tdF_1]
  simp
theorem TdAt.add0 (h : TdAt a b out i j) (hi : i = a.length) (hj : j < b.length) : TdAt a b (out ++ [⟨b[j].path, 1, 0⟩]) i (j + 1) := by
  refine ⟨h.il, by omega, ?_, by have := h.len; simp; omega⟩
  have hd : a.drop i = [] := List.drop_eq_nil_of_le (by omega)
  rw [h.eq, hd, List.drop_eq_getElem_cons hj, tdF_0]
  simp
theorem TdAt.rem (h : TdAt a b out i j) (hi : i < a.length) (hj : j < b.length) (hl : ltS a[i].path b[j].path = true) : TdAt a b (out ++ [⟨a[i].path, 3, 0⟩]) (i + 1) j := by
  refine ⟨by omega, h.jl, ?_, by have := h.len; simp; omega⟩
  rw [h.eq, List.drop_eq_getElem_cons hi, List.drop_eq_getElem_cons hj, tdF_2, if_pos hl]
  simp
theorem TdAt.add (h : TdAt a b out i j) (hi : i < a.length) (hj : j < b.length) (hn : ltS a[i].path b[j].path = false) (hl : ltS b[j].path a[i].path = true) : TdAt a b (out ++ [⟨b[j].path, 1, 0⟩]) i (j + 1) := by
  refine ⟨h.il, by omega, ?_, by have := h.len; simp; omega⟩
  rw [h.eq, List.drop_eq_getElem_cons hi, List.drop_eq_getElem_cons hj, tdF_2, if_neg (by rw [hn]; simp), if_pos hl]
  simp
theorem TdAt.same (h : TdAt a b out i j) (hi : i < a.length) (hj : j < b.length) (hn : ltS a[i].path b[j].path = false) (hl : ltS b[j].path a[i].path = false) (he : a[i].data = b[j].data ∧ a[i].mode = b[j].mode) : TdAt a b out (i + 1) (j + 1) := by
  refine ⟨by omega, by omega, ?_, by have := h.len; omega⟩
  rw [h.eq, List.drop_eq_getElem_cons hi, List.drop_eq_getElem_cons hj, tdF_2, if_neg (by rw [hn]; simp), if_neg (by rw [hl]; simp), if_pos he]
theorem TdAt.chg (h : TdAt a b out i j) (hi : i < a.length) (hj : j < b.length) (hn : ltS a[i].path b[j].path = false) (hl : ltS b[j].path a[i].path = false) (he : ¬ (a[i].data = b[j].data ∧ a[i].mode = b[j].mode)) : TdAt a b (out ++ [⟨a[i].path, 2, 0⟩]) (i + 1) (j + 1) := by
  refine ⟨by omega, by omega, ?_, by have := h.len; simp; omega⟩
  rw [h.eq, List.drop_eq_getElem_cons hi, List.drop_eq_getElem_cons hj, tdF_2, if_neg (by rw [hn]; simp), if_neg (by rw [hl]; simp), if_neg he]
  simp
end
end Go.Proofs.Qxb6500416a
