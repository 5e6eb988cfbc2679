/-
  OWN WORK. THE INDEX: lists of rows; the tree's height.
-/
import Derived.Test.Qxb6500418aINew
namespace Go.Proofs.Qxb6500418a
open Go.RowKit Go.PlainAid
set_option linter.unusedSimpArgs false
set_option linter.unusedVariables false

def rwV (f : Fl) : List Value := [.string f.path, .string f.data, .int .i64 f.mode, .int .i64 (f.data.size : Int), .int .i64 (hashL (ls f.data) : Int)]
def rwCells : List Fl → List Value
  | [] => []
  | f :: r => rwV f ++ rwCells r
theorem rwCells_snoc (l : List Fl) (f : Fl) : rwCells (l ++ [f]) = rwCells l ++ rwV f := by
  induction l with
  | nil => simp [rwCells]
  | cons a r ih => simp [rwCells, ih]
theorem rwCells_at : ∀ (l : List Fl) (i : Nat) (h : i < l.length), (rwCells l)[i * 5]? = some (.string l[i].path) ∧ (rwCells l)[i * 5 + 1]? = some (.string l[i].data) ∧ (rwCells l)[i * 5 + 2]? = some (.int .i64 l[i].mode) ∧ (rwCells l)[i * 5 + 3]? = some (.int .i64 (l[i].data.size : Int)) ∧ (rwCells l)[i * 5 + 4]? = some (.int .i64 (hashL (ls l[i].data) : Int))
  | [], i, h => by simp at h
  | f :: r, 0, h => ⟨rfl, rfl, rfl, rfl, rfl⟩
  | f :: r, i + 1, h => by
    have := rwCells_at r i (by simpa using h)
    have e : (i + 1) * 5 = i * 5 + 5 := by omega
    rw [e]
    exact this
def RowsIn (w : World) (v : Value) (l : List Fl) : Prop := ∃ a cap, v = .slice a l.length cap ∧ (0 < l.length → ∃ g, a = some ⟨g, 0, none⟩ ∧ ∀ i (h : i < l.length), w.cell? ⟨g, i * 5, none⟩ = some (.string l[i].path) ∧ w.cell? ⟨g, i * 5 + 1, none⟩ = some (.string l[i].data) ∧ w.cell? ⟨g, i * 5 + 2, none⟩ = some (.int .i64 l[i].mode) ∧ w.cell? ⟨g, i * 5 + 3, none⟩ = some (.int .i64 (l[i].data.size : Int)) ∧ w.cell? ⟨g, i * 5 + 4, none⟩ = some (.int .i64 (hashL (ls l[i].data) : Int)))
def OwnR (w : World) (v : Value) (l : List Fl) : Prop := w.ownsRow 0 86 5 v l.length (rwCells l)
theorem OwnR.keep {S : Nat → Prop} {w w' : World} {v : Value} {l : List Fl} (h : OwnR w v l) (ho : Only S w w') (hS : ∀ k, v.ownBlock = some k → ¬ S k) : OwnR w' v l := ownsRow_keep h ho hS
theorem OwnR.nil (w : World) : OwnR w (.slice none 0 0) [] := World.ownsRow_nil _ _ _ _
theorem OwnR.in_ {w : World} {v : Value} {l : List Fl} (h : OwnR w v l) : RowsIn w v l := by
  obtain ⟨a, cap, rfl⟩ := ownsRow_shape h
  refine ⟨a, cap, rfl, fun hn => ?_⟩
  rcases h.2 with ⟨he, h0⟩ | ⟨g, cap', cur, he, _⟩
  · omega
  · obtain ⟨rfl, _, _⟩ : a = some ⟨g, 0, none⟩ ∧ True ∧ cap = cap' := by simpa using he
    refine ⟨g, rfl, fun i hi => ?_⟩
    have hc := World.ownsRow.cells h (g := g) (by first | exact rfl | simp [Value.ownBlock])
    obtain ⟨a1, a2, a3, a4, a5⟩ := rwCells_at l i hi
    have b1 := hc _ _ a1
    have b2 := hc _ _ a2
    have b3 := hc _ _ a3
    have b4 := hc _ _ a4
    have b5 := hc _ _ a5
    rw [addr_add] at b1 b2 b3 b4 b5
    exact ⟨b1, b2, b3, b4, b5⟩
theorem Try.infoRow : (Try.prog.info? 86).map (fun i => (i.zero, i.size, i.bytes)) = some (some (.agg #[.string ⟨#[]⟩, .string ⟨#[]⟩, .int .i64 0, .int .i64 0, .int .i64 0]), 5, 56) := by kernel_rfl

/-- A list of rows that grows. -/
structure RI (S : Nat → Prop) (w : World) (ov : Value) (outl : List Fl) (wr : World) : Prop where
  own : OwnR wr ov outl
  hb : ∀ y, ov.ownBlock = some y → S y ∨ w.heap.size ≤ y
  ho : Only S w wr
theorem RI.quiet {S : Nat → Prop} {w : World} {ov : Value} {outl : List Fl} {wr w' : World} (h : RI S w ov outl wr) (ho : Only (fun _ => False) wr w') : RI S w ov outl w' :=
  ⟨h.own.keep ho (fun _ _ h => h), h.hb, h.ho.trans ho (fun _ _ h => h.elim)⟩
theorem RI.push {S : Nat → Prop} {w : World} {ov v' : Value} {outl : List Fl} {wr w' : World} {o : Obj} {n : Nat} (h : RI S w ov outl wr) (f : Fl) (hown : w'.ownsRow 0 86 5 v' n (rwCells outl ++ [.string f.path, .string f.data, .int .i64 f.mode, .int .i64 (f.data.size : Int), .int .i64 (hashL (ls f.data) : Int)])) (hn : n = outl.length + 1)
    (hgrow : (wr.alloc o).grownBy w' ov.ownBlock) (hwhere : ∀ k, v'.ownBlock = some k → ov.ownBlock = some k ∨ k = wr.heap.size + 1) : RI S w v' (outl ++ [f]) w' := by
  have hs := h.ho.size
  subst hn
  refine ⟨?_, fun y hy => ?_, (h.ho.alloc _).grown hgrow (fun b hb hlt => (h.hb b hb).resolve_right (by omega))⟩
  · unfold OwnR
    rw [rwCells_snoc, List.length_append]
    exact hown
  · rcases hwhere y hy with e | e
    · exact h.hb y e
    · exact .inr (by omega)

def Fo.hgt : Fo → Nat
  | .nil => 0
  | .file c n d m r => max 1 r.hgt
  | .dir c n k r => max (k.hgt + 1) r.hgt
theorem hgt_zero {F : Fo} (h : F.hgt = 0) : F = .nil := by
  cases F with
  | nil => rfl
  | file c n d m r => simp only [Fo.hgt] at h; omega
  | dir c n k r => simp only [Fo.hgt] at h; omega
theorem hgt_leaf {F : Fo} (hw : F.Wf) (hf : F.Full) (hne : F ≠ .nil) : ∃ ps d m, leaf ps F = some (d, m) ∧ ps.length = F.hgt := by
  induction F with
  | nil => exact absurd rfl hne
  | file c n d m r ih =>
    by_cases hr : r = .nil
    · subst hr
      exact ⟨[n], d, m, by rw [leaf_cons]; simp [Fo.hit], by simp [Fo.hgt]⟩
    · obtain ⟨ps, d', m', h1, h2⟩ := ih hw.2.2.2 hf hr
      by_cases hc : r.hgt ≤ 1
      · exact ⟨[n], d, m, by rw [leaf_cons]; simp [Fo.hit], by simp [Fo.hgt]; omega⟩
      · refine ⟨ps, d', m', ?_, by simp [Fo.hgt]; omega⟩
        cases ps with
        | nil => cases h1
        | cons p ps =>
          have hp : n ≠ p := by
            intro e
            have hx : r.hit p ≠ .none := fun e2 => by rw [leaf_cons, e2] at h1; cases h1
            exact hw.2.2.1 (e ▸ hit_name hx)
          rw [leaf_cons]
          rw [leaf_cons] at h1
          simp only [Fo.hit]
          rw [if_neg hp]
          exact h1
  | dir c n k r ihk ih =>
    have hdir : ∀ ps d m, leaf ps k = some (d, m) → leaf (n :: ps) (.dir c n k r) = some (d, m) := by
      intro ps d m h
      have hne : ps ≠ [] := fun e => by rw [e] at h; cases h
      rw [leaf_cons]
      simp [Fo.hit, hne, h]
    obtain ⟨ps, d, m, h1, h2⟩ := ihk hw.2.2.2.1 hf.2.1 hf.1
    by_cases hc : r.hgt ≤ k.hgt + 1
    · exact ⟨n :: ps, d, m, hdir ps d m h1, by simp [Fo.hgt]; omega⟩
    · have hr : r ≠ .nil := fun e => by rw [e] at hc; simp [Fo.hgt] at hc
      obtain ⟨qs, d', m', h3, h4⟩ := ih hw.2.2.2.2 hf.2.2 hr
      refine ⟨qs, d', m', ?_, by simp [Fo.hgt]; omega⟩
      cases qs with
      | nil => cases h3
      | cons p qs =>
        have hp : n ≠ p := by
          intro e
          have hx : r.hit p ≠ .none := fun e2 => by rw [leaf_cons, e2] at h3; cases h3
          exact hw.2.2.1 (e ▸ hit_name hx)
        rw [leaf_cons]
        rw [leaf_cons] at h3
        simp only [Fo.hit]
        rw [if_neg hp]
        exact h3
end Go.Proofs.Qxb6500418a
