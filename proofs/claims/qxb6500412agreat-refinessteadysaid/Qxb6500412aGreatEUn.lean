/-
  OWN WORK. TABLE: the trees settle the database.
-/
import Derived.Test.Qxb6500412aGreatEBe
import Derived.Test.Qxb6500412aGreatBUn
namespace Go.Proofs.Qxb6500412aGreat
open Go.RowKit Go.PlainAid
set_option linter.unusedSimpArgs false
set_option linter.unusedVariables false

theorem hdT_inj {h g : Hd} (a : HdOk h) (b : HdOk g) (e : hdT h = hdT g) : h = g := by
  have f : ∀ j, j < 5 → hdF h j = hdF g j := fun j hj => by
    have h1 : byteAt (hdT h) j = hdF h j := mkB_at hj (a.lt j)
    have h2 : byteAt (hdT g) j = hdF g j := mkB_at hj (b.lt j)
    rw [← h1, ← h2, e]
  have f0 := f 0 (by omega)
  have f1 := f 1 (by omega)
  have f2 := f 2 (by omega)
  have f3 := f 3 (by omega)
  have f4 := f 4 (by omega)
  simp [hdF] at f0 f1 f2 f3 f4
  obtain ⟨n, pk, ix, rows, idx⟩ := h
  obtain ⟨n', pk', ix', rows', idx'⟩ := g
  simp only at *
  have hix : ix = ix' := by
    cases ix <;> cases ix' <;> simp [ixN] at f2
    · rfl
    · rw [f2]
  have hid : idx = idx' := by
    cases h1 : idx with
    | none =>
      cases h2 : idx' with
      | none => rfl
      | some d => rw [h1, h2] at f4; have := (b.idx d h2).2.1; simp [idN] at f4; omega
    | some c =>
      cases h2 : idx' with
      | none => rw [h1, h2] at f4; have := (a.idx c h1).2.1; simp [idN] at f4; omega
      | some d => rw [h1, h2] at f4; simp [idN] at f4; rw [f4]
  rw [f0, f1, f3, hix, hid]
theorem colT_inj {c d : Cl} (hc : c.1.size ≤ 6) (hd : d.1.size ≤ 6) (e : colT c = colT d) : c = d := by
  obtain ⟨a1, a2⟩ := colT_at hc
  obtain ⟨b1, b2⟩ := colT_at hd
  have s : c.1.size = d.1.size := by rw [← a2, ← b2, e]
  have n : c.1 = d.1 := by rw [← colT_cut c, ← colT_cut d, e, s]
  have b : c.2 = d.2 := by
    rw [e, b1] at a1
    cases h1 : c.2 <;> cases h2 : d.2 <;> simp [h1, h2] at a1 ⊢
  cases c
  cases d
  simp at n b
  rw [n, b]
theorem codes_inj : ∀ {a b : List Vl}, a.length = b.length → codes a = codes b → a.map cV = b.map cV := by
  intro a b hl e
  apply List.ext_getElem?
  intro i
  rw [List.getElem?_map, List.getElem?_map]
  by_cases h : i < a.length
  · obtain ⟨x, hx⟩ := getE h
    obtain ⟨y, hy⟩ := getE (l := b) (i := i) (by omega)
    rw [hx, hy]
    have h1 := codes_cut hx
    have h2 := codes_cut hy
    rw [e] at h1
    rw [h1] at h2
    simp [h2]
  · rw [List.getElem?_eq_none (by omega), List.getElem?_eq_none (by omega)]
theorem row_inj {c : List Cl} {pk : Nat} {r s : List Vl} (hr : RowOk c r) (hs : RowOk c s) (hpk : pk < c.length) (e1 : pkK pk r = pkK pk s) (e2 : restP r pk = restP s pk) : r = s := by
  have l1 := hr.len
  have l2 := hs.len
  have hm : ∀ i, i < c.length → (r[i]?).map cV = (s[i]?).map cV := by
    intro i hi
    obtain ⟨x, hx⟩ := getE (l := r) (i := i) (by omega)
    obtain ⟨y, hy⟩ := getE (l := s) (i := i) (by omega)
    rw [hx, hy]
    by_cases d : i = pk
    · subst d
      unfold pkK kyR at e1
      rw [hx, hy] at e1
      simpa using e1
    · unfold restP at e2
      have := codes_inj (by rw [List.length_eraseIdx, List.length_eraseIdx, if_pos (by omega), if_pos (by omega)]; omega) e2
      have h1 := erase_at hx d
      have h2 := erase_at hy d
      have := congrArg (fun l => l[if i ≤ pk then i else i - 1]?) this
      simp only [List.getElem?_map, h1, h2] at this
      exact this
  apply List.ext_getElem?
  intro i
  by_cases hi : i < c.length
  · obtain ⟨x, hx⟩ := getE (l := r) (i := i) (by omega)
    obtain ⟨y, hy⟩ := getE (l := s) (i := i) (by omega)
    have := hm i hi
    rw [hx, hy] at this ⊢
    congr 1
    have hst : x.str = y.str := by
      have := congrArg (fun l => l[i]?) (hr.1.trans hs.1.symm)
      simp only [List.getElem?_map, hx, hy, Option.map_some] at this
      exact Option.some.inj this
    exact cV_inj (hr.2 x (List.mem_of_getElem? hx)) (hs.2 y (List.mem_of_getElem? hy)) hst (by simpa using this)
  · rw [List.getElem?_eq_none (by omega), List.getElem?_eq_none (by omega)]
theorem rows_inj {c : List Cl} {pk : Nat} {a b : List (List Vl)} (ha : ∀ r ∈ a, RowOk c r) (hb : ∀ r ∈ b, RowOk c r) (hpk : pk < c.length) (e : rowsL pk a = rowsL pk b) : a = b := by
  have hl := congrArg List.length e
  simp only [rowsL, kvsOf, List.length_map] at hl
  apply List.ext_getElem?
  intro i
  by_cases h : i < a.length
  · obtain ⟨r, hr⟩ := getE h
    obtain ⟨s, hs⟩ := getE (l := b) (i := i) (by omega)
    have := congrArg (fun l => l[i]?) e
    simp only [rowsL, kvsOf, List.getElem?_map, hr, hs, Option.map_some, Option.some.injEq, Prod.mk.injEq] at this
    rw [hr, hs, row_inj (ha r (List.mem_of_getElem? hr)) (hb s (List.mem_of_getElem? hs)) hpk this.1 this.2]
  · rw [List.getElem?_eq_none (by omega), List.getElem?_eq_none (by omega)]
theorem Lay.uniq {S : Vu} {T U : List (Tb × Hd)} (L : Lay S T) (M : Lay S U) : T = U := by
  have hc : catL T = catL U := Option.some.inj (L.cat.symm.trans M.cat)
  have hn : T.map (fun x => x.1.nm) = U.map (fun x => x.1.nm) := by rw [← hn_all L.small, ← hn_all M.small, hc]
  have hl : T.length = U.length := by simpa using congrArg List.length hn
  apply List.ext_getElem?
  intro i
  by_cases h : i < T.length
  · obtain ⟨x, hx⟩ := getE h
    obtain ⟨y, hy⟩ := getE (l := U) (i := i) (by omega)
    rw [hx, hy]
    have hxm := List.mem_of_getElem? hx
    have hym := List.mem_of_getElem? hy
    have enm : x.1.nm = y.1.nm := by
      have := congrArg (fun l => l[i]?) hn
      simp only [List.getElem?_map, hx, hy, Option.map_some] at this
      exact Option.some.inj this
    have okx := L.tb x hxm
    have oky := M.tb y hym
    have hfx := L.hd x hxm
    have hfy := M.hd y hym
    have part_eq : ∀ j, j ≤ x.1.cols.length → j ≤ y.1.cols.length → part x j = part y j := fun j h1 h2 => by
      have e1 : getL (catK x.1.nm j) (catL T) = some (part x j) := L.csrt.get.mpr (catL_mem.mpr ⟨x, hxm, j, h1, rfl⟩)
      have e2 : getL (catK x.1.nm j) (catL T) = some (part y j) := by rw [hc, enm]; exact M.csrt.get.mpr (catL_mem.mpr ⟨y, hym, j, h2, rfl⟩)
      rw [e1] at e2
      exact Option.some.inj e2
    have ehd : x.2 = y.2 := hdT_inj hfx.ok hfy.ok (part_eq 0 (Nat.zero_le _) (Nat.zero_le _))
    have elen : x.1.cols.length = y.1.cols.length := by rw [← hfx.n, ← hfy.n, ehd]
    have ecols : x.1.cols = y.1.cols := by
      apply List.ext_getElem?
      intro j
      by_cases hj : j < x.1.cols.length
      · obtain ⟨c, hc1⟩ := getE hj
        obtain ⟨d, hd1⟩ := getE (l := y.1.cols) (i := j) (by omega)
        have := part_eq (1 + j) (by omega) (by omega)
        unfold part at this
        rw [if_neg (by omega), if_neg (by omega), show 1 + j - 1 = j by omega, hc1, hd1] at this
        rw [hc1, hd1, colT_inj (okx.cols.2.1 c (List.mem_of_getElem? hc1)).2 (oky.cols.2.1 d (List.mem_of_getElem? hd1)).2 this]
      · rw [List.getElem?_eq_none (by omega), List.getElem?_eq_none (by omega)]
    have epk : x.1.pk = y.1.pk := by rw [← hfx.pk, ← hfy.pk, ehd]
    have eix : x.1.ix = y.1.ix := by rw [← hfx.ix, ← hfy.ix, ehd]
    have erows : x.1.rows = y.1.rows := by
      have e1 := L.rows x hxm
      have e2 := M.rows y hym
      rw [ehd, e2] at e1
      have e3 := Option.some.inj e1
      rw [epk] at e3
      exact (rows_inj (c := x.1.cols) (fun r hr => by rw [ecols]; exact oky.row r hr) okx.row (by rw [← epk]; exact okx.pkn) e3).symm
    obtain ⟨⟨xn, xc, xp, xi, xr⟩, xh⟩ := x
    obtain ⟨⟨yn, yc, yp, yi, yr⟩, yh⟩ := y
    simp only at enm ehd ecols epk eix erows
    rw [enm, ehd, ecols, epk, eix, erows]
  · rw [List.getElem?_eq_none (by omega), List.getElem?_eq_none (by omega)]
/-- The committed image X shows the database D. -/
def ComD (X : List ByteArray) (D : Db) : Prop := ∃ S, ComS X S ∧ ((∃ T, Lay S T ∧ dbOf T = D) ∨ (S = (fun _ => none) ∧ D = []))
theorem ComD.uniq {X : List ByteArray} {D E : Db} (h : ComD X D) (g : ComD X E) : D = E := by
  obtain ⟨S, h1, h2⟩ := h
  obtain ⟨R, g1, g2⟩ := g
  obtain rfl := ComS.uniq h1 g1
  rcases h2 with ⟨T, a, b⟩ | ⟨a, b⟩
  · rcases g2 with ⟨U, c, d⟩ | ⟨c, d⟩
    · rw [← b, ← d, a.uniq c]
    · have := a.cat
      rw [c] at this
      cases this
  · rcases g2 with ⟨U, c, d⟩ | ⟨c, d⟩
    · have := c.cat
      rw [a] at this
      cases this
    · rw [b, d]
end Go.Proofs.Qxb6500412aGreat
