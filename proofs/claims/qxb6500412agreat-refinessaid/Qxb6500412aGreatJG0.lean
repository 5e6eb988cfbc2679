/-
  OWN WORK. THE TABLE LAW's GHOST in memory; GFind.
-/
import Derived.Test.Qxb6500412aGreatJW
namespace Go.Proofs.Qxb6500412aGreat
open Go.RowKit Go.PlainAid
set_option linter.unusedSimpArgs false
set_option linter.unusedVariables false

/-- One table of the ghost: what it holds (rows in any order), its columns' slice, its rows' slice, the rows' own slices. -/
structure GE where
  t : Tb
  cv : Value
  rv : Value
  us : List Value
def gcs : List GE → List Value
  | [] => []
  | e :: r => [.string e.t.nm, e.cv, .int .i64 (e.t.pk : Int), .int .i64 (ixI e.t.ix), e.rv] ++ gcs r
theorem gcs_len (l : List GE) : (gcs l).length = l.length * 5 := by
  induction l with
  | nil => rfl
  | cons a r ih => simp [gcs, ih]; omega
theorem gcs_app (l r : List GE) : gcs (l ++ r) = gcs l ++ gcs r := by
  induction l with
  | nil => rfl
  | cons a t ih => simp [gcs, ih]
theorem gcs_at : ∀ (l : List GE) (i : Nat) {e : GE}, l[i]? = some e → (gcs l)[i * 5]? = some (.string e.t.nm) ∧ (gcs l)[i * 5 + 1]? = some e.cv ∧ (gcs l)[i * 5 + 2]? = some (.int .i64 (e.t.pk : Int)) ∧ (gcs l)[i * 5 + 3]? = some (.int .i64 (ixI e.t.ix)) ∧ (gcs l)[i * 5 + 4]? = some e.rv
  | [], i, e, h => by simp at h
  | f :: r, 0, e, h => by
    obtain rfl : f = e := by simpa using h
    exact ⟨rfl, rfl, rfl, rfl, rfl⟩
  | f :: r, i + 1, e, h => by
    have := gcs_at r i (e := e) (by simpa using h)
    have e : (i + 1) * 5 = i * 5 + 5 := by omega
    rw [e]
    exact this
theorem gcs_set : ∀ (l : List GE) (i : Nat) (e : GE), gcs (l.set i e) = (((((gcs l).set (i * 5) (.string e.t.nm)).set (i * 5 + 1) e.cv).set (i * 5 + 2) (.int .i64 (e.t.pk : Int))).set (i * 5 + 3) (.int .i64 (ixI e.t.ix))).set (i * 5 + 4) e.rv
  | [], i, e => by simp [gcs]
  | f :: r, 0, e => rfl
  | f :: r, i + 1, e => by
    have ih := gcs_set r i e
    have e : (i + 1) * 5 = i * 5 + 5 := by omega
    rw [e, List.set_cons_succ]
    simp only [gcs, ih, List.cons_append, List.nil_append, List.set_cons_succ, show i * 5 + 5 + 1 = (i * 5 + 1) + 5 by omega, show i * 5 + 5 + 2 = (i * 5 + 2) + 5 by omega, show i * 5 + 5 + 3 = (i * 5 + 3) + 5 by omega, show i * 5 + 5 + 4 = (i * 5 + 4) + 5 by omega]
/-- What a table of the ghost keeps to. -/
structure GOk (t : Tb) : Prop where
  nm : gdN t.nm
  cols : GdC t.cols (t.pk : Int)
  ix : ∀ c, t.ix = some c → c < t.cols.length ∧ c ≠ t.pk
  row : ∀ r ∈ t.rows, RowOk t.cols r
  one : (t.rows.map (kyR t.pk)).Nodup
  len : t.rows.length ≤ 8
theorem GOk.n3 {t : Tb} (h : GOk t) : t.cols.length ≤ 3 := h.cols.1.2.1
theorem GOk.pkn {t : Tb} (h : GOk t) : t.pk < t.cols.length := by have := h.cols.1.2.2.2; omega
/-- One table of the ghost in memory. -/
structure GEl (w : World) (e : GE) : Prop where
  ok : GOk e.t
  col : OwnC w e.cv e.t.cols
  rs : w.ownsRow 0 95 1 e.rv e.us.length e.us
  n : e.us.length = e.t.rows.length
  row : ∀ (j : Nat) (u : Value) (r : List Vl), e.us[j]? = some u → e.t.rows[j]? = some r → OwnV w u r
/-- The blocks of one table: the lists that are turned in place; those that never are. -/
def GEm (e : GE) (k : Nat) : Prop := e.rv.ownBlock = some k
def GEi (e : GE) (k : Nat) : Prop := e.cv.ownBlock = some k ∨ ∃ u ∈ e.us, u.ownBlock = some k
theorem GEl.keep {B : Nat → Prop} {w w' : World} {e : GE} (h : GEl w e) (ho : Only B w w') (hm : ∀ k, GEm e k → ¬ B k) (hi : ∀ k, GEi e k → ¬ B k) : GEl w' e :=
  ⟨h.ok, h.col.keep ho (fun k hk => hi k (.inl hk)), ownsRow_keep h.rs ho (fun k hk => hm k hk), h.n, fun j u r hu hr => (h.row j u r hu hr).keep ho (fun k hk => hi k (.inr ⟨u, List.mem_of_getElem? hu, hk⟩))⟩
theorem GEl.lt {w : World} {e : GE} (h : GEl w e) : ∀ k, GEm e k ∨ GEi e k → k < w.heap.size := by
  rintro k (hk | hk | ⟨u, hu, hk⟩)
  · exact ownsRow_lt h.rs k hk
  · exact h.col.lt k hk
  · obtain ⟨j, hj⟩ := List.getElem?_of_mem hu
    obtain ⟨r, hr⟩ := getE (l := e.t.rows) (i := j) (by rw [← h.n]; exact (List.getElem?_eq_some_iff.mp hj).1)
    exact (h.row j u r hj hr).lt k hk
/-- No immutable block is a block of another type. -/
theorem GEl.imm {w : World} {e : GE} (h : GEl w e) {k : Nat} (hk : GEi e k) {c : Array Value} {t : TypeId} (hh : Has w k c t) (h1 : 149 ≠ t) (h2 : 152 ≠ t) : False := by
  rcases hk with hk | ⟨u, hu, hk⟩
  · exact ownsRow_ne h.col hh h1 k hk rfl
  · obtain ⟨j, hj⟩ := List.getElem?_of_mem hu
    obtain ⟨r, hr⟩ := getE (l := e.t.rows) (i := j) (by rw [← h.n]; exact (List.getElem?_eq_some_iff.mp hj).1)
    exact ownsRow_ne (h.row j u r hj hr) hh h2 k hk rfl
theorem ownsRow_has {w : World} {base e size n : Nat} {v : Value} {xs : List Value} (h : w.ownsRow base e size v n xs) {k : Nat} (hk : v.ownBlock = some k) : ∃ c, Has w k c e := by
  rcases h.2 with ⟨he, h0⟩ | ⟨g, cap', cur, he, _, hh, _⟩
  · rw [he] at hk; cases hk
  · rw [he] at hk
    cases hk
    exact ⟨cur, hh⟩
def GLm (v : Value) (l : List GE) (k : Nat) : Prop := v.ownBlock = some k ∨ ∃ e ∈ l, GEm e k
def GLi (l : List GE) (k : Nat) : Prop := ∃ e ∈ l, GEi e k
section
variable {w w' : World} {v : Value} {l : List GE}
/-- The place of a table, or -1. -/
def GFR (l : List GE) (nm : ByteArray) (r : Int) : Prop := (r = -1 ∧ ∀ x ∈ l, x.t.nm ≠ nm) ∨ ∃ (i : Nat) (x : GE), l[i]? = some x ∧ r = i ∧ x.t.nm = nm
end
end Go.Proofs.Qxb6500412aGreat
