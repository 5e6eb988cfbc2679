/-
  OWN WORK. THE TABLE LAW's GHOST in memory; GFind.
-/
import Derived.Test.Qxb6500413aGreatJW
namespace Go.Proofs.Qxb6500413aGreat
open Go.RowKit Go.PlainAid
set_option linter.unusedSimpArgs false
set_option linter.unusedVariables false

/-- One table of the ghost: what it holds (rows in any order), its columns' slice, its rows' slice, the rows' own slices. -/
structure GE where
  t : Tb
  cv : Value
  rv : Value
  us : List Value
def gcs : List GE → List Value
  | [] => []
  | e :: r => [.string e.t.nm, e.cv, .int .i64 (e.t.pk : Int), .int .i64 (ixI e.t.ix), e.rv] ++ gcs r
theorem gcs_len (l : List GE) : (gcs l).length = l.length * 5 := by
  induction l with
  | nil => rfl
  | cons a r ih => simp [gcs, ih]; omega
theorem gcs_app (l r : List GE) : gcs (l ++ r) = gcs l ++ gcs r := by
  induction l with
  | nil => rfl
  | cons a t ih => simp [gcs, ih]
theorem gcs_at : ∀ (l : List GE) (i : Nat) {e : GE}, l[i]? = some e → (gcs l)[i * 5]? = some (.string e.t.nm) ∧ (gcs l)[i * 5 + 1]? = some e.cv ∧ (gcs l)[i * 5 + 2]? = some (.int .i64 (e.t.pk : Int)) ∧ (gcs l)[i * 5 + 3]? = some (.int .i64 (ixI e.t.ix)) ∧ (gcs l)[i * 5 + 4]? = some e.rv
  | [], i, e, h => by simp at h
  | f :: r, 0, e, h => by
    obtain rfl : f = e := by simpa using h
    exact ⟨rfl, rfl, rfl, rfl, rfl⟩
  | f :: r, i + 1, e, h => by
    have := gcs_at r i (e := e) (by simpa using h)
    have e : (i + 1) * 5 = i * 5 + 5 := by omega
    rw [e]
    exact this
theorem gcs_set : ∀ (l : List GE) (i : Nat) (e : GE), gcs (l.set i e) = (((((gcs l).set (i * 5) (.string e.t.nm)).set (i * 5 + 1) e.cv).set (i * 5 + 2) (.int .i64 (e.t.pk : Int))).set (i * 5 + 3) (.int .i64 (ixI e.t.ix))).set (i * 5 + 4) e.rv
  | [], i, e => by simp [gcs]
  | f :: r, 0, e => rfl
  | f :: r, i + 1, e => by
    have ih := gcs_set r i e
    have e : (i + 1) * 5 = i * 5 + 5 := by omega
    rw [e, List.set_cons_succ]
    simp only [gcs, ih, List.cons_append, List.nil_append, List.set_cons_succ, show i * 5 + 5 + 1 = (i * 5 + 1) + 5 by omega, show i * 5 + 5 + 2 = (i * 5 + 2) + 5 by omega, show i * 5 + 5 + 3 = (i * 5 + 3) + 5 by omega, show i * 5 + 5 + 4 = (i * 5 + 4) + 5 by omega]
/-- What a table of the ghost keeps to. -/
structure GOk (t : Tb) : Prop where
  nm : gdN t.nm
  cols : GdC t.cols (t.pk : Int)
  ix : ∀ c, t.ix = some c → c < t.cols.length ∧ c ≠ t.pk
  row : ∀ r ∈ t.rows, RowOk t.cols r
  one : (t.rows.map (kyR t.pk)).Nodup
  len : t.rows.length ≤ 8
theorem GOk.n3 {t : Tb} (h : GOk t) : t.cols.length ≤ 3 := h.cols.1.2.1
theorem GOk.pkn {t : Tb} (h : GOk t) : t.pk < t.cols.length := by have := h.cols.1.2.2.2; omega
/-- One table of the ghost in memory. -/
structure GEl (w : World) (e : GE) : Prop where
  ok : GOk e.t
  col : OwnC w e.cv e.t.cols
  rs : w.ownsRow 0 76 1 e.rv e.us.length e.us
  n : e.us.length = e.t.rows.length
  row : ∀ (j : Nat) (u : Value) (r : List Vl), e.us[j]? = some u → e.t.rows[j]? = some r → OwnV w u r
/-- The blocks of one table: the lists that are turned in place; those that never are. -/
def GEm (e : GE) (k : Nat) : Prop := e.rv.ownBlock = some k
def GEi (e : GE) (k : Nat) : Prop := e.cv.ownBlock = some k ∨ ∃ u ∈ e.us, u.ownBlock = some k
theorem GEl.keep {B : Nat → Prop} {w w' : World} {e : GE} (h : GEl w e) (ho : Only B w w') (hm : ∀ k, GEm e k → ¬ B k) (hi : ∀ k, GEi e k → ¬ B k) : GEl w' e :=
  ⟨h.ok, h.col.keep ho (fun k hk => hi k (.inl hk)), ownsRow_keep h.rs ho (fun k hk => hm k hk), h.n, fun j u r hu hr => (h.row j u r hu hr).keep ho (fun k hk => hi k (.inr ⟨u, List.mem_of_getElem? hu, hk⟩))⟩
theorem GEl.lt {w : World} {e : GE} (h : GEl w e) : ∀ k, GEm e k ∨ GEi e k → k < w.heap.size := by
  rintro k (hk | hk | ⟨u, hu, hk⟩)
  · exact ownsRow_lt h.rs k hk
  · exact h.col.lt k hk
  · obtain ⟨j, hj⟩ := List.getElem?_of_mem hu
    obtain ⟨r, hr⟩ := getE (l := e.t.rows) (i := j) (by rw [← h.n]; exact (List.getElem?_eq_some_iff.mp hj).1)
    exact (h.row j u r hj hr).lt k hk
/-- No immutable block is a block of another type. -/
theorem GEl.imm {w : World} {e : GE} (h : GEl w e) {k : Nat} (hk : GEi e k) {c : Array Value} {t : TypeId} (hh : Has w k c t) (h1 : 176 ≠ t) (h2 : 72 ≠ t) : False := by
  rcases hk with hk | ⟨u, hu, hk⟩
  · exact ownsRow_ne h.col hh h1 k hk rfl
  · obtain ⟨j, hj⟩ := List.getElem?_of_mem hu
    obtain ⟨r, hr⟩ := getE (l := e.t.rows) (i := j) (by rw [← h.n]; exact (List.getElem?_eq_some_iff.mp hj).1)
    exact ownsRow_ne (h.row j u r hj hr) hh h2 k hk rfl
theorem ownsRow_has {w : World} {base e size n : Nat} {v : Value} {xs : List Value} (h : w.ownsRow base e size v n xs) {k : Nat} (hk : v.ownBlock = some k) : ∃ c, Has w k c e := by
  rcases h.2 with ⟨he, h0⟩ | ⟨g, cap', cur, he, _, hh, _⟩
  · rw [he] at hk; cases hk
  · rw [he] at hk
    cases hk
    exact ⟨cur, hh⟩
/-- A list of the ghost's tables. -/
structure GL (w : World) (v : Value) (l : List GE) : Prop where
  own : w.ownsRow 0 68 5 v l.length (gcs l)
  el : ∀ e ∈ l, GEl w e
  nd : (l.map (·.t.nm)).Nodup
  len : l.length ≤ 3
  sep : l.Pairwise (fun a b => ∀ k, GEm a k → ¬ GEm b k)
def GLm (v : Value) (l : List GE) (k : Nat) : Prop := v.ownBlock = some k ∨ ∃ e ∈ l, GEm e k
def GLi (l : List GE) (k : Nat) : Prop := ∃ e ∈ l, GEi e k
section
variable {w w' : World} {v : Value} {l : List GE}
theorem GL.keep {B : Nat → Prop} (h : GL w v l) (ho : Only B w w') (hm : ∀ k, GLm v l k → ¬ B k) (hi : ∀ k, GLi l k → ¬ B k) : GL w' v l :=
  ⟨ownsRow_keep h.own ho (fun k hk => hm k (.inl hk)), fun e he => (h.el e he).keep ho (fun k hk => hm k (.inr ⟨e, he, hk⟩)) (fun k hk => hi k ⟨e, he, hk⟩), h.nd, h.len, h.sep⟩
theorem GL.quiet (h : GL w v l) (ho : Only (fun _ => False) w w') : GL w' v l := h.keep ho (fun _ _ e => e) (fun _ _ e => e)
theorem GL.lt (h : GL w v l) : ∀ k, GLm v l k ∨ GLi l k → k < w.heap.size := by
  rintro k ((hk | ⟨e, he, hk⟩) | ⟨e, he, hk⟩)
  · exact ownsRow_lt h.own k hk
  · exact (h.el e he).lt k (.inl hk)
  · exact (h.el e he).lt k (.inr hk)
theorem GL.nil (w : World) : GL w (.slice none 0 0) [] := ⟨World.ownsRow_nil _ _ _ _, fun _ h => (by simp at h), List.nodup_nil, Nat.zero_le _, List.Pairwise.nil⟩
theorem GL.shape (h : GL w v l) : ∃ a cap, v = .slice a l.length cap := ownsRow_shape h.own
theorem GL.at_ {a : Option Addr} {n cap : Nat} (h : GL w (.slice a n cap) l) {i : Nat} {x : GE} (hx : l[i]? = some x) : ∃ g, a = some ⟨g, 0, none⟩ ∧ w.cell? ⟨g, i * 5, none⟩ = some (.string x.t.nm) ∧ w.cell? ⟨g, i * 5 + 1, none⟩ = some x.cv ∧ w.cell? ⟨g, i * 5 + 2, none⟩ = some (.int .i64 (x.t.pk : Int)) ∧ w.cell? ⟨g, i * 5 + 3, none⟩ = some (.int .i64 (ixI x.t.ix)) ∧ w.cell? ⟨g, i * 5 + 4, none⟩ = some x.rv := by
  have hi := (List.getElem?_eq_some_iff.mp hx).1
  rcases h.own.2 with ⟨he, h0⟩ | ⟨g, cap', cur, he, _⟩
  · omega
  · obtain ⟨rfl, _⟩ : a = some ⟨g, 0, none⟩ ∧ True := by
      have := he
      simp at this
      exact ⟨this.1, trivial⟩
    refine ⟨g, rfl, ?_⟩
    have hc := World.ownsRow.cells h.own (g := g) (by first | exact rfl | simp [Value.ownBlock])
    obtain ⟨a1, a2, a3, a4, a5⟩ := gcs_at l i hx
    have b1 := hc _ _ a1
    have b2 := hc _ _ a2
    have b3 := hc _ _ a3
    have b4 := hc _ _ a4
    have b5 := hc _ _ a5
    rw [addr_add] at b1 b2 b3 b4 b5
    exact ⟨b1, b2, b3, b4, b5⟩
/-- A mutable block of a list is no immutable block of another. -/
theorem GL.mi {v2 : Value} {l2 : List GE} (h : GL w v l) (h2 : GL w v2 l2) {k : Nat} (hm : GLm v l k) (hi : GLi l2 k) : False := by
  obtain ⟨e, he, hi⟩ := hi
  rcases hm with hm | ⟨e', he', hm⟩
  · obtain ⟨c, hc⟩ := ownsRow_has h.own hm
    exact (h2.el e he).imm hi hc (by decide) (by decide)
  · obtain ⟨c, hc⟩ := ownsRow_has (h.el e' he').rs hm
    exact (h2.el e he).imm hi hc (by decide) (by decide)
/-- The place of a table, or -1. -/
def GFR (l : List GE) (nm : ByteArray) (r : Int) : Prop := (r = -1 ∧ ∀ x ∈ l, x.t.nm ≠ nm) ∨ ∃ (i : Nat) (x : GE), l[i]? = some x ∧ r = i ∧ x.t.nm = nm
set_option maxRecDepth 100000 in
theorem jgfind_any (G : GL w v l) (nm : ByteArray) : Calls Tryz.prog 94 #[v, .string nm] w fun e w' => ∃ r, e = .returned (.int .i64 r) ∧ GFR l nm r ∧ w = w' := by
  obtain ⟨a, cap, rfl⟩ := G.shape
  have hl := G.len
  have HG := hide G
  clear G
  go_enter Tryz.func94, Tryz.ntmps94
  go_upto_region 2 with fail
  go_loop [5] (fun jv => ∃ i : Nat, jv = .int .i64 i ∧ i ≤ l.length ∧ ∀ (j : Nat) (x : GE), l[j]? = some x → j < i → x.t.nm ≠ nm) (fun jv => 4 - (intOf jv).toNat)
  case atStart => exact ⟨0, rfl, Nat.zero_le _, fun j _ _ hj => by omega⟩
  case round =>
    obtain ⟨i, rfl, hi, hne⟩ := hrel
    have HN := hide hne
    clear hne
    by_cases hs : i < l.length
    · have a1 : decide ((i : Int) < (l.length : Int)) = true := decide_eq_true (by omega)
      have a1p : (i : Int) < (l.length : Int) := by omega
      obtain ⟨x, hx⟩ := getE hs
      obtain ⟨ib, ha, d0, _⟩ := (unhide HG).at_ hx
      subst ha
      have HX := hide hx
      by_cases h2 : x.t.nm = nm
      · have b2 := seq_t h2
        have RR := hide (show GFR l nm i from .inr ⟨i, x, hx, rfl, h2⟩)
        clear h2 hx
        go_wp2_with fail
        go_ret
        exact ⟨_, rfl, unhide RR, rfl⟩
      · have b2 := seq_f h2
        have HN2 := hide (show ∀ (j : Nat) (y : GE), l[j]? = some y → j < i + 1 → y.t.nm ≠ nm from fun j y hy hji => by
          by_cases e : j = i
          · subst e
            rw [hx] at hy
            cases hy
            exact h2
          · exact unhide HN j y hy (by omega))
        clear h2 hx
        go_wp2_with fail
        go_round
        case rel => exact ⟨i + 1, by go_num, by omega, unhide HN2⟩
        case measure => simp [intOf]; omega
    · obtain rfl : i = l.length := by omega
      have a1 : decide ((l.length : Int) < (l.length : Int)) = false := by simp
      have RR := hide (show GFR l nm (-1) from .inl ⟨rfl, fun x hx => by
        obtain ⟨j, hj⟩ := List.getElem?_of_mem hx
        exact unhide HN j x hj (List.getElem?_eq_some_iff.mp hj).1⟩)
      go_wp2_with fail
      go_ret
      exact ⟨_, rfl, unhide RR, rfl⟩
end
end Go.Proofs.Qxb6500413aGreat
