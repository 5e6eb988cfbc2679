/-
  OWN WORK. THE TABLE LAW's GHOST: GClone.
-/
import Derived.Test.Qxb6500412aGreatJG1
namespace Go.Proofs.Qxb6500412aGreat
open Go.RowKit Go.PlainAid
set_option linter.unusedSimpArgs false
set_option linter.unusedVariables false

/-- copy of a table's rows. -/
theorem run_copy_rows {w : World} {e : GE} (E : GEl w e) {z : Nat} {cur : Array Value} (Z : Has w z cur 95) (hc : cur.size = e.us.length) : ∃ w4, (∀ ty, (Builtin.copy_ #[50, 50] ty #[.slice (some ⟨z, 0, none⟩) e.us.length e.us.length, e.rv]).run Tryz.prog w = .ok (goInt e.us.length) w4) ∧ Has w4 z e.us.toArray 95 ∧ Only (fun k => k = z) w w4 := by
  obtain ⟨i, hi, hzr, hs, hb⟩ := info_parts Tryz.infoEVals
  rcases E.rs.2 with ⟨he, h0⟩ | ⟨ib, cap', cur', he, _⟩
  · have hn : e.us = [] := List.eq_nil_of_length_eq_zero h0
    rw [he]
    refine ⟨w, fun ty => ?_, ?_, Only.refl _ _⟩
    · rw [hn]
      exact run_copy_nil Tryz.prog w 50 50 ty 95 _ 0 0 Tryz.underlying50 (by rw [hi]; rfl)
    · have : cur = #[] := Array.eq_empty_of_size_eq_zero (by rw [hc, h0])
      rw [this] at Z
      rw [hn]
      exact Z
  · have hc3 := World.ownsRow.cells E.rs (g := ib) (by rw [he]; rfl)
    rw [he]
    have h1 : ∀ v ∈ e.us, v.oneCell' = true := fun v hv => by
      obtain ⟨j, hj⟩ := List.getElem?_of_mem hv
      obtain ⟨r, hr⟩ := getE (l := e.t.rows) (i := j) (by rw [← E.n]; exact (List.getElem?_eq_some_iff.mp hj).1)
      obtain ⟨a, cap, rfl⟩ := (E.row j v r hj hr).shape
      rfl
    refine ⟨_, fun ty => run_copy_row (P := Tryz.prog) w 50 50 ty 95 z 0 e.us.length e.us.length ⟨ib, 0, none⟩ e.us.length cap' cur 95 e.us Tryz.underlying50 (by rw [hi]; simp [hs]) Z (by simp) (fun j v hv => hc3 j v hv) (by omega) h1, ?_, setRow_only⟩
    rw [List.take_zero, List.nil_append, Nat.zero_add, List.drop_of_length_le (by simp [hc]), List.append_nil]
    exact setRow_heap w z cur _ _ _ Z
def ce (e : GE) (z : Nat) : GE := ⟨e.t, e.cv, .slice (some ⟨z, 0, none⟩) e.us.length e.us.length, e.us⟩
def cln (l : List GE) (zs : List Nat) : List GE := List.zipWith ce l zs
theorem cln_snoc : ∀ {l : List GE} {zs : List Nat} {e : GE} {z : Nat}, l[zs.length]? = some e → cln l (zs ++ [z]) = cln l zs ++ [ce e z]
  | [], zs, e, z, h => by simp at h
  | a :: r, [], e, z, h => by
    obtain rfl : a = e := by simpa using h
    simp [cln]
  | a :: r, y :: ys, e, z, h => by
    have := cln_snoc (l := r) (zs := ys) (e := e) (z := z) (by simpa using h)
    unfold cln at this ⊢
    simp [this]
theorem cln_len {l : List GE} {zs : List Nat} (h : zs.length ≤ l.length) : (cln l zs).length = zs.length := by unfold cln; rw [List.length_zipWith]; omega
theorem cln_t : ∀ {l : List GE} {zs : List Nat}, zs.length = l.length → (cln l zs).map (·.t) = l.map (·.t)
  | [], zs, h => by simp [cln]
  | a :: r, [], h => by simp at h
  | a :: r, y :: ys, h => by
    have := cln_t (l := r) (zs := ys) (by simpa using h)
    unfold cln at this ⊢
    simp [this, ce]
theorem cln_mem : ∀ {l : List GE} {zs : List Nat} {x : GE}, x ∈ cln l zs → ∃ e ∈ l, ∃ z ∈ zs, x = ce e z
  | [], zs, x, h => by simp [cln] at h
  | a :: r, [], x, h => by simp [cln] at h
  | a :: r, y :: ys, x, h => by
    unfold cln at h
    rw [List.zipWith_cons_cons, List.mem_cons] at h
    rcases h with rfl | h
    · exact ⟨a, List.mem_cons_self, y, List.mem_cons_self, rfl⟩
    · obtain ⟨e, he, z, hz, hx⟩ := cln_mem (l := r) (zs := ys) h
      exact ⟨e, List.mem_cons_of_mem _ he, z, List.mem_cons_of_mem _ hz, hx⟩
theorem cln_sep : ∀ {l : List GE} {zs : List Nat}, zs.Nodup → (cln l zs).Pairwise (fun a b => ∀ k, GEm a k → ¬ GEm b k)
  | [], zs, h => by simp [cln]
  | a :: r, [], h => by simp [cln]
  | a :: r, y :: ys, h => by
    have := cln_sep (l := r) (zs := ys) (List.nodup_cons.mp h).2
    unfold cln
    rw [List.zipWith_cons_cons]
    refine List.Pairwise.cons (fun x hx k h1 h2 => ?_) this
    obtain ⟨e, _, z, hz, rfl⟩ := cln_mem (l := r) (zs := ys) hx
    unfold GEm ce at h1 h2
    simp [Value.ownBlock] at h1 h2
    subst h1
    subst h2
    exact (List.nodup_cons.mp h).1 hz
def st5 (w : World) (g i : Nat) (e : GE) : World := ((((w.setCell ⟨g, i * 5, none⟩ (.string e.t.nm)).setCell ⟨g, i * 5 + 1, none⟩ e.cv).setCell ⟨g, i * 5 + 2, none⟩ (.int .i64 (e.t.pk : Int))).setCell ⟨g, i * 5 + 3, none⟩ (.int .i64 (ixI e.t.ix))).setCell ⟨g, i * 5 + 4, none⟩ e.rv
theorem st5_only (w : World) (g i : Nat) (e : GE) : Only (fun k => k = g) w (st5 w g i e) := ((((only1 (p := g) _ _).trans (only1 (p := g) _ _) (fun _ _ h => h)).trans (only1 (p := g) _ _) (fun _ _ h => h)).trans (only1 (p := g) _ _) (fun _ _ h => h)).trans (only1 (p := g) _ _) (fun _ _ h => h)
end Go.Proofs.Qxb6500412aGreat
