/-
  OWN WORK. TABLE: the fields of a raw string.
-/
import Derived.Test.Qxb6500412aGreatEVal
import Derived.Laws.AppendOwn
namespace Go.Proofs.Qxb6500412aGreat
open Go.RowKit Go.PlainAid
set_option linter.unusedSimpArgs false
set_option linter.unusedVariables false

/-- n bytes behind place i, big end first. -/
def beF (t : ByteArray) (i : Nat) : Nat → Nat
  | 0 => 0
  | j + 1 => beF t i j * 256 + byteAt t (i + (j + 1))
theorem beF_lt (t : ByteArray) (i : Nat) : ∀ j, beF t i j < 256 ^ j
  | 0 => by simp [beF]
  | j + 1 => by
    have h1 := beF_lt t i j
    have h2 := byteAt_lt t (i + (j + 1))
    rw [Nat.pow_succ]
    unfold beF
    omega
/-- The field at place i, and where it ends. -/
def fstep (t : ByteArray) (i : Nat) : Option (Vl × Nat) :=
  if byteAt t i = 105 ∧ i + 9 ≤ t.size then some (vI (wrap64 (beF t i 8)), i + 9)
  else if byteAt t i = 115 ∧ i + 2 ≤ t.size ∧ i + 2 + byteAt t (i + 1) ≤ t.size then some (vS (t.extract (i + 2) (i + 2 + byteAt t (i + 1))), i + 2 + byteAt t (i + 1))
  else if byteAt t i = 83 ∧ i + 9 ≤ t.size ∧ i + 9 + beF t i 8 ≤ t.size then some (vS (t.extract (i + 9) (i + 9 + beF t i 8)), i + 9 + beF t i 8)
  else none
def fieldsP (t : ByteArray) : Nat → Nat → List Vl
  | 0, _ => []
  | m + 1, i => if i < t.size then (match fstep t i with | some x => x.1 :: fieldsP t m x.2 | none => []) else []
theorem fieldsP_len (t : ByteArray) : ∀ m i, (fieldsP t m i).length ≤ m
  | 0, i => by simp [fieldsP]
  | m + 1, i => by
    unfold fieldsP
    split
    · cases h : fstep t i with
      | none => simp
      | some x => simp; exact fieldsP_len t m x.2
    · simp
theorem wrap64_in (x : Int) : In64 (wrap64 x) := by unfold In64 wrap64; omega
theorem fstep_wf {t : ByteArray} {i : Nat} {x : Vl × Nat} (h : fstep t i = some x) : x.1.wf := by
  unfold fstep at h
  split at h
  · cases h
    exact .inl ⟨rfl, rfl, wrap64_in _⟩
  · split at h
    · cases h
      exact .inr ⟨rfl, rfl⟩
    · split at h
      · cases h
        exact .inr ⟨rfl, rfl⟩
      · cases h
theorem fieldsP_wf (t : ByteArray) : ∀ m i, ∀ v ∈ fieldsP t m i, v.wf
  | 0, i => by simp [fieldsP]
  | m + 1, i => by
    unfold fieldsP
    split
    · cases h : fstep t i with
      | none => simp
      | some x =>
        intro v hv
        simp at hv
        rcases hv with rfl | hv
        · exact fstep_wf h
        · exact fieldsP_wf t m x.2 v hv
    · simp
/-- A row that grows. -/
structure GR (ty : TypeId) (k : Nat) (w : World) (ov : Value) (n : Nat) (cs : List Value) (wr : World) : Prop where
  own : wr.ownsRow 0 ty k ov n cs
  hb : ∀ y, ov.ownBlock = some y → w.heap.size ≤ y
  ho : Only (fun _ => False) w wr
theorem GR.nil (ty : TypeId) (k : Nat) (w : World) : GR ty k w (.slice none 0 0) 0 [] w := ⟨World.ownsRow_nil _ _ _ _, fun y hy => by simp [Value.ownBlock] at hy, Only.refl _ _⟩
theorem GR.far {ty : TypeId} {k : Nat} {w wr w2 : World} {ov : Value} {n : Nat} {cs : List Value} (h : GR ty k w ov n cs wr) (o : Only (fun _ => False) wr w2) : GR ty k w ov n cs w2 :=
  ⟨ownsRow_keep h.own o (fun _ _ e => e), h.hb, h.ho.trans o (fun _ _ e => e)⟩
theorem GR.push {ty : TypeId} {k : Nat} {w : World} {ov v' : Value} {m : Nat} {cs es : List Value} {wr w' : World} {o : Obj} {n : Nat} (h : GR ty k w ov m cs wr) (hown : w'.ownsRow 0 ty k v' n (cs ++ es)) 
    (hgrow : (wr.alloc o).grownBy w' ov.ownBlock) (hwhere : ∀ k, v'.ownBlock = some k → ov.ownBlock = some k ∨ k = wr.heap.size + 1) : GR ty k w v' n (cs ++ es) w' := by
  have hs := h.ho.size
  refine ⟨hown, fun y hy => ?_, (h.ho.alloc _).grown hgrow (fun b hb hlt => by have := h.hb b hb; omega)⟩
  rcases hwhere y hy with e | e
  · exact h.hb y e
  · omega
theorem Tryz.infoEVal : (Tryz.prog.info? 152).map (fun i => (i.zero, i.size, i.bytes)) = some (some (.agg #[.bool false, .int .i64 0, .string ⟨#[]⟩]), 3, 32) := by kernel_rfl
/-- A row of values that grows. -/
def GV (w : World) (ov : Value) (l : List Vl) (wr : World) : Prop := GR 152 3 w ov l.length (vcs l) wr
theorem beF_step {t : ByteArray} {i n : Nat} : beF t i (n + 1) = beF t i n * 256 + byteAt t (i + (n + 1)) := rfl
theorem fieldsP_stop {t : ByteArray} {m i : Nat} (h : i < t.size → fstep t i = none) : fieldsP t m i = [] := by
  cases m with
  | zero => rfl
  | succ k =>
    unfold fieldsP
    split
    · rename_i c
      rw [h c]
    · rfl
theorem fieldsP_go {t : ByteArray} {m i : Nat} {x : Vl × Nat} (hm : 0 < m) (hi : i < t.size) (h : fstep t i = some x) : fieldsP t m i = x.1 :: fieldsP t (m - 1) x.2 := by
  cases m with
  | zero => omega
  | succ k =>
    have : fieldsP t (k + 1) i = if i < t.size then (match fstep t i with | some x => x.1 :: fieldsP t k x.2 | none => []) else [] := rfl
    rw [this, if_pos hi, h]
    rfl
theorem fields_next {t : ByteArray} {m i : Nat} {l : List Vl} {x : Vl × Nat} (hF : fieldsP t m 0 = l ++ fieldsP t (m - l.length) i) (hl : l.length < m) (hi : i < t.size) (h : fstep t i = some x) : fieldsP t m 0 = (l ++ [x.1]) ++ fieldsP t (m - (l ++ [x.1]).length) x.2 := by
  rw [hF, fieldsP_go (by omega) hi h]
  simp only [List.append_assoc, List.cons_append, List.nil_append, List.length_append, List.length_cons, List.length_nil]
  rw [show m - (l.length + (0 + 1)) = m - l.length - 1 by omega]
theorem GV.push {w : World} {ov v' : Value} {l : List Vl} {wr w' : World} {o : Obj} {n : Nat} (h : GV w ov l wr) (x : Vl) (hown : w'.ownsRow 0 152 3 v' n (vcs l ++ [.bool x.str, .int .i64 x.i, .string x.s])) (hn : n = l.length + 1)
    (hgrow : (wr.alloc o).grownBy w' ov.ownBlock) (hwhere : ∀ k, v'.ownBlock = some k → ov.ownBlock = some k ∨ k = wr.heap.size + 1) : GV w v' (l ++ [x]) w' := by
  subst hn
  have := GR.push h hown hgrow hwhere
  unfold GV
  rw [vcs_app, List.length_append]
  exact this
end Go.Proofs.Qxb6500412aGreat
