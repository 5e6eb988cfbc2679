/-
  OWN WORK. TABLE: rows, columns and keys out of a raw string.
-/
import Derived.Test.Qxb6500412aGreatEFld
import Derived.Test.Qxb6500412aGreatBPut
namespace Go.Proofs.Qxb6500412aGreat
open Go.RowKit Go.PlainAid
set_option linter.unusedSimpArgs false
set_option linter.unusedVariables false

def rowP (t : ByteArray) : List Vl := fieldsP t 4 0
def fstP (t : ByteArray) : Vl := ((fieldsP t 1 0)[0]?).getD (vI 0)
def sndP (t : ByteArray) : Vl := ((fieldsP t 2 0)[1]?).getD (vI 0)
theorem vI0_wf : (vI 0).wf := .inl ⟨rfl, rfl, by unfold In64; decide⟩
theorem rowP_wf (t : ByteArray) : ∀ v ∈ rowP t, v.wf := fieldsP_wf t 4 0
theorem fstP_wf (t : ByteArray) : (fstP t).wf := by
  unfold fstP
  cases h : (fieldsP t 1 0)[0]? with
  | none => exact vI0_wf
  | some v => exact fieldsP_wf t 1 0 v (List.mem_of_getElem? h)
theorem sndP_wf (t : ByteArray) : (sndP t).wf := by
  unfold sndP
  cases h : (fieldsP t 2 0)[1]? with
  | none => exact vI0_wf
  | some v => exact fieldsP_wf t 2 0 v (List.mem_of_getElem? h)
theorem getv_at {w : World} {v : Value} {l : List Vl} (h : OwnV w v l) {i : Nat} {x : Vl} (hx : l[i]? = some x) : ∃ g cap, v = .slice (some ⟨g, 0, none⟩) l.length cap ∧ w.cell? ⟨g, i * 3, none⟩ = some (.bool x.str) ∧ w.cell? ⟨g, i * 3 + 1, none⟩ = some (.int .i64 x.i) ∧ w.cell? ⟨g, i * 3 + 2, none⟩ = some (.string x.s) := by
  obtain ⟨a, cap, rfl⟩ := h.shape
  obtain ⟨g, rfl, h1, h2, h3⟩ := h.at_ hx
  exact ⟨g, cap, rfl, h1, h2, h3⟩
def oddB (i : Int) : Bool := bits .and .i64 i 1 == 1
def colsF : List Vl → Bool → Nat → List Cl
  | [], _, _ => []
  | _ :: _, _, 0 => []
  | v :: r, b, k + 1 => if v.str then (v.s, b) :: colsF r false k else colsF r (oddB v.i) (k + 1)
def colsP (t : ByteArray) : List Cl := colsF (fieldsP t 8 0) false 4
theorem colsF_len : ∀ (l : List Vl) (b : Bool) (k : Nat), (colsF l b k).length ≤ k
  | [], _, _ => by simp [colsF]
  | _ :: _, _, 0 => by simp [colsF]
  | v :: r, b, k + 1 => by
    unfold colsF
    split
    · simp; exact colsF_len r false k
    · exact colsF_len r _ (k + 1)
theorem Tryz.infoECol : (Tryz.prog.info? 149).map (fun i => (i.zero, i.size, i.bytes)) = some (some (.agg #[.string ⟨#[]⟩, .bool false]), 2, 24) := by kernel_rfl
/-- A row of columns that grows. -/
def GC (w : World) (ov : Value) (l : List Cl) (wr : World) : Prop := GR 149 2 w ov l.length (ccs l) wr
theorem GC.push {w : World} {ov v' : Value} {l : List Cl} {wr w' : World} {o : Obj} {n : Nat} (h : GC w ov l wr) (x : Cl) (hown : w'.ownsRow 0 149 2 v' n (ccs l ++ [.string x.1, .bool x.2])) (hn : n = l.length + 1)
    (hgrow : (wr.alloc o).grownBy w' ov.ownBlock) (hwhere : ∀ k, v'.ownBlock = some k → ov.ownBlock = some k ∨ k = wr.heap.size + 1) : GC w v' (l ++ [x]) w' := by
  subst hn
  have := GR.push h hown hgrow hwhere
  unfold GC
  rw [ccs_app, List.length_append]
  exact this
theorem GR.trans {ty ty2 : TypeId} {k k2 : Nat} {w w1 wr : World} {ov ov2 : Value} {n n2 : Nat} {cs cs2 : List Value} (h : GR ty k w ov n cs w1) (h2 : GR ty2 k2 w1 ov2 n2 cs2 wr) : GR ty2 k2 w ov2 n2 cs2 wr :=
  ⟨h2.own, fun y hy => Nat.le_trans h.ho.size (h2.hb y hy), h.ho.trans h2.ho (fun _ _ e => e)⟩
end Go.Proofs.Qxb6500412aGreat
