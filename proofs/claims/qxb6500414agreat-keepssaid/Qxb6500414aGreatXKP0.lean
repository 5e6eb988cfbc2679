/-
  OWN WORK. TXN, Keeps, plain: rows put, set, erased; the bounds of a sound state. No program in sight.
-/
import Derived.Test.Qxb6500414aGreatXK15
namespace Go.Proofs.Qxb6500414aGreat
open Go.RowKit Go.PlainAid
set_option linter.unusedSimpArgs false
set_option linter.unusedVariables false

section
variable {α : Type} {f : α → ByteArray}
theorem putBy_new (r : α) : ∀ {l : List α}, (∀ e ∈ l, f e ≠ f r) → ∃ j, j ≤ l.length ∧ putBy f r l = l.take j ++ r :: l.drop j
  | [], _ => ⟨0, Nat.le_refl _, rfl⟩
  | e :: l, h => by
    have hne : f e ≠ f r := h e (by simp)
    by_cases c : lt (f e) (f r) = true
    · obtain ⟨j, hj, ej⟩ := putBy_new r (l := l) (fun x hx => h x (List.mem_cons_of_mem _ hx))
      refine ⟨j + 1, by simp; omega, ?_⟩
      show (if lt (f e) (f r) = true then e :: putBy f r l else if f e = f r then r :: l else r :: e :: l) = _
      rw [if_pos c, ej]
      rfl
    · refine ⟨0, by simp, ?_⟩
      show (if lt (f e) (f r) = true then e :: putBy f r l else if f e = f r then r :: l else r :: e :: l) = _
      rw [if_neg c, if_neg hne]
      rfl
theorem putBy_old (r : α) : ∀ {l : List α} {i : Nat} {o : α}, l.Pairwise (fun a b => lt (f a) (f b) = true) → l[i]? = some o → f o = f r → putBy f r l = l.set i r
  | [], i, o, _, h, _ => by simp at h
  | e :: l, 0, o, hs, h, hk => by
    have e1 : e = o := by simpa using h
    subst e1
    show (if lt (f e) (f r) = true then e :: putBy f r l else if f e = f r then r :: l else r :: e :: l) = _
    rw [if_neg (by rw [hk, lt_irr]; simp), if_pos hk]
    rfl
  | e :: l, i + 1, o, hs, h, hk => by
    have h' : l[i]? = some o := by simpa using h
    have hs' := List.pairwise_cons.mp hs
    have hl := hs'.1 o (List.mem_of_getElem? h')
    show (if lt (f e) (f r) = true then e :: putBy f r l else if f e = f r then r :: l else r :: e :: l) = _
    rw [if_pos (by rw [← hk]; exact hl), putBy_old r hs'.2 h' hk]
    rfl
theorem srt_inj {l : List α} (hs : l.Pairwise (fun a b => lt (f a) (f b) = true)) {i j : Nat} {a b : α} (ha : l[i]? = some a) (hb : l[j]? = some b) (e : f a = f b) : i = j := by
  obtain ⟨hi, ei⟩ := List.getElem?_eq_some_iff.mp ha
  obtain ⟨hj, ej⟩ := List.getElem?_eq_some_iff.mp hb
  rcases Nat.lt_trichotomy i j with c | c | c
  · have := List.pairwise_iff_getElem.mp hs i j hi hj c
    rw [ei, ej, e, lt_irr] at this
    cases this
  · exact c
  · have := List.pairwise_iff_getElem.mp hs j i hj hi c
    rw [ei, ej, e, lt_irr] at this
    cases this
theorem filter_one : ∀ {l : List α} {i : Nat} {o : α}, l.Pairwise (fun a b => lt (f a) (f b) = true) → l[i]? = some o → l.filter (fun e => decide (f e ≠ f o)) = l.eraseIdx i
  | [], i, o, _, h => by simp at h
  | e :: l, 0, o, hs, h => by
    have e1 : e = o := by simpa using h
    subst e1
    have hs' := List.pairwise_cons.mp hs
    rw [List.filter_cons_of_neg (by simp)]
    show _ = l
    rw [List.filter_eq_self]
    intro x hx
    have := hs'.1 x hx
    exact decide_eq_true (fun c => lt_ne this c.symm)
  | e :: l, i + 1, o, hs, h => by
    have h' : l[i]? = some o := by simpa using h
    have hs' := List.pairwise_cons.mp hs
    have hl := hs'.1 o (List.mem_of_getElem? h')
    rw [List.filter_cons_of_pos (by exact decide_eq_true (lt_ne hl)), filter_one hs'.2 h']
    rfl
theorem ins_erase (l : List α) (r : α) (j : Nat) (hj : j ≤ l.length) : (l.take j ++ r :: l.drop j).eraseIdx j = l ∧ (l.take j ++ r :: l.drop j)[j]? = some r := by
  have hl : (l.take j).length = j := by rw [List.length_take]; omega
  constructor
  · rw [List.eraseIdx_append_of_length_le (by omega), hl, Nat.sub_self]
    show l.take j ++ l.drop j = l
    rw [List.take_append_drop]
  · rw [List.getElem?_append_right (by omega), hl, Nat.sub_self]
    rfl
end
section
variable {M N : Mu} {a : Int} {nm os ot : ByteArray} {s t : Nat} {T u : Tb} {mode z z' : Int}
theorem tkz_det (h : M.TkZ a nm mode z) (h' : M.TkZ a nm mode z') : z = z' := by
  rcases h with ⟨h1, h2⟩ | ⟨h1, h2, h3⟩ | ⟨h1, h2, h3, h4⟩ | ⟨h1, h2, h3, h4⟩ <;> rcases h' with ⟨k1, k2⟩ | ⟨k1, k2, k3⟩ | ⟨k1, k2, k3, k4⟩ | ⟨k1, k2, k3, k4⟩ <;> first | omega | contradiction
theorem Mu.rows_some (h : findD (M.see s) nm = some u) : M.rows s nm = u.rows := by unfold Mu.rows; rw [h]; rfl
theorem Mu.rows_none (h : findD (M.see s) nm = none) : M.rows s nm = [] := by unfold Mu.rows; rw [h]; rfl
theorem MuOk.mub (ok : MuOk M) : MuB M := by
  refine ⟨ok.g.len, ok.g.srt, fun s hs nm => ?_⟩
  cases h : findD (M.see s) nm with
  | none => rw [Mu.rows_none h]; simp
  | some u =>
    rw [Mu.rows_some h]
    have tb := (ok.gs s hs).tb u (findD_mem h).1
    exact ⟨tb.len, fun r hr => by rw [(tb.row r hr).len]; exact tb.n3⟩
/-- What a session sees of a table has the committed table's form. -/
def MuK (M : Mu) : Prop := ∀ s nm u, s < 4 → findD (M.see s) nm = some u → ∃ T, findD M.com nm = some T ∧ u.pk = T.pk ∧ u.cols = T.cols
def MuG (M : Mu) : Prop := ∀ s nm, s < 4 → 0 ≤ M.lk s nm
theorem RX.muk {q : Gnd} {w : World} {g x : Nat} {K : Nat → Prop} (R : RX q w g x M K) : MuK M ∧ MuG M := by
  obtain ⟨X, S, T, hx, la, cf, ok, sh, hk⟩ := R.ex
  refine ⟨fun s nm u hs h => ?_, fun s nm hs => ?_⟩
  · rw [sh.see s hs, seeD_find] at h
    rw [sh.com]
    cases hf : findD (dbOf T) nm with
    | none => rw [hf] at h; cases h
    | some T' =>
      rw [hf] at h
      have : seeT (X.ws s) T' = u := by simpa using h
      subst this
      exact ⟨T', rfl, rfl, rfl⟩
  · rw [sh.lk s nm hs]; exact (ok.lk.rg hs nm).1
theorem MuOk.at_ (ok : MuOk M) (hs : s < 4) (hT : M.com[t]? = some T) (k : MuK M) : ∃ u, findD (M.see s) T.nm = some u ∧ u.pk = T.pk ∧ u.cols = T.cols ∧ TbOk u ∧ M.rows s T.nm = u.rows := by
  have hm := List.mem_of_getElem? hT
  have hf := ok.g.find hm
  have hn := find_nms (ok.nms s hs) T.nm
  rw [hf] at hn
  obtain ⟨u, hu⟩ := Option.isSome_iff_exists.mp hn
  obtain ⟨T', hT', e1, e2⟩ := k s T.nm u hs hu
  rw [hf] at hT'
  cases hT'
  exact ⟨u, hu, e1, e2, (ok.gs s hs).tb u (findD_mem hu).1, Mu.rows_some hu⟩
theorem TbOk.pkl (tb : TbOk u) {r : List Vl} (hr : r ∈ u.rows) : u.pk < r.length := by rw [(tb.row r hr).len]; exact tb.pkn
theorem MuOk.mus (ok : MuOk M) (k : MuK M) (g : MuG M) : MuS M := by
  refine ⟨fun s t T r hs hT hr => ?_, fun s t T hs hT i a b x y ha hb hx hy => ?_, fun s nm hs => ⟨g s nm hs, ok.rg s nm hs⟩, fun s nm hs h => ?_, ok.ex⟩
  · obtain ⟨u, hu, e1, e2, tb, er⟩ := ok.at_ hs hT k
    rw [er] at hr
    rw [← e1]
    exact tb.pkl hr
  · obtain ⟨u, hu, e1, e2, tb, er⟩ := ok.at_ hs hT k
    rw [er] at ha hb
    rw [← e1] at hx hy
    obtain ⟨hi, ei⟩ := List.getElem?_eq_some_iff.mp ha
    obtain ⟨hj, ej⟩ := List.getElem?_eq_some_iff.mp hb
    have hl := List.pairwise_iff_getElem.mp tb.srt i (i + 1) hi hj (by omega)
    rw [ei, ej] at hl
    have ra := RowOk.pk tb (tb.row a (List.mem_of_getElem? ha))
    have rb := RowOk.pk tb (tb.row b (List.mem_of_getElem? hb))
    have ea : kyR u.pk a = x := kyR_at hx
    have eb : kyR u.pk b = y := kyR_at hy
    unfold pkK at hl
    rw [cV_lt ra.1 rb.1 (by rw [ra.2.1, rb.2.1]), ea, eb] at hl
    exact of_decide_eq_true hl
  · cases c : M.act s with
    | true => rfl
    | false => exact absurd (ok.idle s nm hs c) h
theorem row_key (tb : TbOk u) {r : List Vl} (hr : r ∈ u.rows) {y : Vl} : r[u.pk]? = some y ↔ kyR u.pk r = y := by
  have := (RowOk.pk tb (tb.row r hr)).2.2
  constructor
  · exact kyR_at
  · intro e; rw [this, e]
/-- The row under a sound key. -/
theorem key_code (tb : TbOk u) {r : List Vl} (hr : r ∈ u.rows) {y : Vl} (hf : y.fit) (hs : y.str = ((u.cols[u.pk]?).getD (eB, false)).2) : r[u.pk]? = some y ↔ pkK u.pk r = cV y := by
  rw [row_key tb hr]
  have rk := RowOk.pk tb (tb.row r hr)
  constructor
  · intro e; unfold pkK; rw [e]
  · intro e
    exact cV_inj rk.1 hf (by rw [rk.2.1, hs]) e
theorem fnd_row (tb : TbOk u) {y : Vl} (hf : y.fit) (hs : y.str = ((u.cols[u.pk]?).getD (eB, false)).2) {r : List Vl} (h : fndK u (cV y) = some r) : r ∈ u.rows ∧ r[u.pk]? = some y := by
  have := (fnd_iff' tb.srt (cV y) r).mp h
  exact ⟨this.1, (key_code tb this.1 hf hs).mpr this.2⟩
theorem fnd_no (tb : TbOk u) {y : Vl} (h : fndK u (cV y) = none) : ∀ r ∈ u.rows, r[u.pk]? ≠ some y := by
  intro r hr e
  have := List.find?_eq_none.mp h r hr
  have e2 := (row_key tb hr).mp e
  exact this (decide_eq_true (by unfold pkK; rw [e2]))
end
end Go.Proofs.Qxb6500414aGreat
