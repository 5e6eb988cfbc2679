/-
  OWN WORK. QUERY, plain: the changes of an UPDATE, a DELETE, row by row: none of them is refused. No program in sight.
-/
import Derived.Test.Qxb6500412aGreatS31
namespace Go.Proofs.Qxb6500412aGreat
open Go.RowKit Go.PlainAid
set_option linter.unusedSimpArgs false
set_option linter.unusedVariables false

theorem putBy_twice {α : Type} (f : α → ByteArray) {a b : α} (h : f a = f b) : ∀ l : List α, putBy f a (putBy f b l) = putBy f a l
  | [] => by
    show putBy f a [b] = [a]
    unfold putBy
    rw [if_neg (by rw [h, lt_irr]; decide), if_pos h.symm]
  | e :: l => by
    have e1 : putBy f b (e :: l) = if lt (f e) (f b) = true then e :: putBy f b l else if f e = f b then b :: l else b :: e :: l := rfl
    have e2 : putBy f a (e :: l) = if lt (f e) (f a) = true then e :: putBy f a l else if f e = f a then a :: l else a :: e :: l := rfl
    rw [e1, e2, h]
    by_cases c1 : lt (f e) (f b) = true
    · rw [if_pos c1, if_pos c1]
      show (if lt (f e) (f a) = true then e :: putBy f a (putBy f b l) else _) = _
      rw [if_pos (by rw [h]; exact c1), putBy_twice f h l]
    · rw [if_neg c1, if_neg c1]
      by_cases c2 : f e = f b
      · rw [if_pos c2, if_pos c2]
        show (if lt (f b) (f a) = true then _ else if f b = f a then a :: l else _) = _
        rw [if_neg (by rw [h, lt_irr]; decide), if_pos h.symm]
      · rw [if_neg c2, if_neg c2]
        show (if lt (f b) (f a) = true then _ else if f b = f a then a :: e :: l else _) = _
        rw [if_neg (by rw [h, lt_irr]; decide), if_pos h.symm]
theorem DGd.putT_find {D : Db} (G : DGd D) (t : Tb) : findD (putT t D) t.nm = some t := by
  have hs : (putT t D).Pairwise (fun a b => lt a.nm b.nm = true) := putBy_srt (fun t : Tb => t.nm) G.srt
  have hm : t ∈ putT t D := putBy_in (fun t : Tb => t.nm) t D
  unfold findD
  cases h : (putT t D).find? (fun x => decide (x.nm = t.nm)) with
  | none =>
    have := List.find?_eq_none.mp h t hm
    simp at this
  | some y =>
    have h1 := List.mem_of_find?_eq_some h
    have h2 : y.nm = t.nm := by simpa using List.find?_some h
    rw [by_key (fun t : Tb => t.nm) hs h1 hm h2]
theorem DGd.putT_same {D : Db} (G : DGd D) {t : Tb} (h : t ∈ D) : putT t D = D := by
  have hs : (putT t D).Pairwise (fun a b => lt a.nm b.nm = true) := putBy_srt (fun t : Tb => t.nm) G.srt
  have nd : ∀ {l : Db}, l.Pairwise (fun a b => lt a.nm b.nm = true) → l.Nodup := fun h => h.imp (fun {a b} h e => by rw [e, lt_irr] at h; cases h)
  refine srt_perm_eq (g := fun t : Tb => t.nm) ((List.perm_ext_iff_of_nodup (nd hs) (nd G.srt)).mpr (fun x => ?_)) hs G.srt
  rw [show putT t D = putBy (fun t : Tb => t.nm) t D from rfl, putBy_iff (fun t : Tb => t.nm) G.srt]
  constructor
  · rintro (rfl | ⟨h1, _⟩)
    · exact h
    · exact h1
  · intro hx
    by_cases c : x.nm = t.nm
    · exact .inl (G.one hx h c)
    · exact .inr ⟨hx, c⟩
/-- What is set fits the schema and is no key. -/
def SetOk (cols : List Cl) (pk : Nat) (sets : List Cm) : Prop := ∀ c ∈ sets, c.lit.fit ∧ 0 ≤ qcol cols c.col ∧ qcol cols c.col ≠ (pk : Int) ∧ c.lit.str = colS cols (qcol cols c.col)
theorem setR_ok {cols : List Cl} {pk : Nat} : ∀ (sets : List Cm) (r : List Vl), SetOk cols pk sets → RowOk cols r → RowOk cols (setR cols sets r) ∧ kyR pk (setR cols sets r) = kyR pk r
  | [], r, _, hr => ⟨hr, rfl⟩
  | c :: l, r, hs, hr => by
    obtain ⟨h1, h2, h3, h4⟩ := hs c (by simp)
    have hq := qcol_rng cols c.col
    obtain ⟨m, hm⟩ : ∃ m : Nat, qcol cols c.col = (m : Int) := ⟨(qcol cols c.col).toNat, by omega⟩
    have hml : m < cols.length := by omega
    obtain ⟨cl, hcl⟩ := getE (l := cols) (i := m) hml
    rw [hm, colS_get hcl] at h4
    have hr' : RowOk cols (r.set m c.lit) := by
      refine ⟨?_, fun v hv => ?_⟩
      · rw [List.map_set, hr.1]
        have e : (cols.map (·.2))[m]? = some c.lit.str := by rw [List.getElem?_map, hcl, h4]; rfl
        obtain ⟨hl, he⟩ := List.getElem?_eq_some_iff.mp e
        rw [← he, List.set_getElem_self]
      · rcases List.mem_or_eq_of_mem_set hv with d | d
        · exact hr.2 v d
        · rw [d]; exact h1
    have hk : kyR pk (r.set m c.lit) = kyR pk r := by
      unfold kyR
      rw [List.getElem?_set_ne (by omega)]
    have e : setR cols (c :: l) r = setR cols l (r.set m c.lit) := by
      show l.foldl _ (r.set (qcol cols c.col).toNat c.lit) = _
      rw [hm]
      rfl
    rw [e]
    obtain ⟨i1, i2⟩ := setR_ok l (r.set m c.lit) (fun x hx => hs x (by simp [hx])) hr'
    exact ⟨i1, i2.trans hk⟩
/-- A table's rows, one of them changed. -/
def chgR (cols : List Cl) (pk : Nat) (st : St) (R : List (List Vl)) (r : List Vl) : List (List Vl) := if st.kind = 10 then R.filter (fun x => decide (pkK pk x ≠ pkK pk r)) else putBy (pkK pk) (setR cols st.sets r) R
theorem withR_self (v : Tb) : withR v v.rows = v := rfl
section
variable {D : Db} {st : St} {u v : Tb} {r : List Vl}
theorem chg1_ok (G : DGd D) (hf : findD D st.table = some v) (hc : u.cols = v.cols) (hp : u.pk = v.pk) (hs : SetOk u.cols u.pk st.sets) (hr : r ∈ v.rows) : chg1 u st D r = (putT (withR v (chgR u.cols u.pk st v.rows r)) D, 0) ∧ TbOk (withR v (chgR u.cols u.pk st v.rows r)) := by
  obtain ⟨hv, hn⟩ := findD_mem hf
  have ok := G.tb v hv
  have hfk := fnd_own ok hr
  unfold chg1 chgR
  rw [hp]
  by_cases hk : st.kind = 10
  · rw [if_pos hk, if_pos hk]
    have hck : chkKey v (kyR v.pk r) = 0 := by
      obtain ⟨cl, hcl⟩ := getE (l := v.cols) (i := v.pk) ok.pkn
      obtain ⟨a1, a2, _⟩ := row_col ok hr hcl
      unfold chkKey
      rw [hcl]
      show chkVal cl (kyR v.pk r) = 0
      unfold chkVal
      rw [if_pos a2, if_pos a1.2]
    have e : delR v (kyR v.pk r) = (withR v (v.rows.filter (fun x => decide (pkK v.pk x ≠ pkK v.pk r))), 0) := by
      unfold delR
      rw [if_neg (fun c => c hck), show cV (kyR v.pk r) = pkK v.pk r from rfl, hfk]
    refine ⟨?_, ok.del _⟩
    unfold delD onT
    rw [hf]
    show (if (delR v (kyR v.pk r)).2 = 0 then putT (delR v (kyR v.pk r)).1 D else D, (delR v (kyR v.pk r)).2) = _
    rw [e, if_pos rfl]
  · rw [if_neg hk, if_neg hk]
    rw [hc, hp] at hs
    obtain ⟨s1, s2⟩ := setR_ok st.sets r hs (ok.row r hr)
    have hkk : pkK v.pk (setR v.cols st.sets r) = pkK v.pk r := by unfold pkK; rw [s2]
    have hck : chkRow v.cols (setR v.cols st.sets r) = 0 := by
      unfold chkRow
      rw [if_pos s1.1, if_pos (fun x hx => (s1.2 x hx).2)]
    have e : updR v (setR v.cols st.sets r) = (withR v (putBy (pkK v.pk) (setR v.cols st.sets r) v.rows), 0) := by
      unfold updR
      rw [if_neg (fun c => c hck), hkk, hfk]
    rw [hc]
    refine ⟨?_, ok.put s1 ?_⟩
    · unfold updD onT
      rw [hf]
      show (if (updR v (setR v.cols st.sets r)).2 = 0 then putT (updR v (setR v.cols st.sets r)).1 D else D, (updR v (setR v.cols st.sets r)).2) = _
      rw [e, if_pos rfl]
    · rw [putBy_len_old (pkK v.pk) ok.srt ⟨r, hr, hkk.symm⟩]
      exact ok.len
theorem chgR_keep {cols : List Cl} {pk : Nat} {R : List (List Vl)} {x : List Vl} (hx : x ∈ R) (hk : pkK pk x ≠ pkK pk r) (hs : st.kind ≠ 10 → pkK pk (setR cols st.sets r) = pkK pk r) : x ∈ chgR cols pk st R r := by
  unfold chgR
  by_cases c : st.kind = 10
  · rw [if_pos c]
    exact List.mem_filter.mpr ⟨hx, decide_eq_true hk⟩
  · rw [if_neg c]
    exact putBy_keep (pkK pk) hx (by rw [hs c]; exact hk)
theorem DGd.put_same (G : DGd D) {t : Tb} (ok : TbOk t) (hl : ∃ y ∈ D, y.nm = t.nm) : DGd (putT t D) := by
  refine ⟨fun x hx => ?_, putBy_srt (fun t : Tb => t.nm) G.srt, ?_⟩
  · rcases putBy_mem (fun t : Tb => t.nm) hx with e | e
    · rw [e]; exact ok
    · exact G.tb x e
  · rw [show putT t D = putBy (fun t : Tb => t.nm) t D from rfl, putBy_len_old (fun t : Tb => t.nm) G.srt hl]
    exact G.len
/-- The rows behind the first i changes. -/
def chgT (u : Tb) (st : St) (v : Tb) (l : List (List Vl)) : Tb := withR v (l.foldl (chgR u.cols u.pk st) v.rows)
theorem chg_inv (G : DGd D) (hf : findD D st.table = some v) (hc : u.cols = v.cols) (hp : u.pk = v.pk) (hs : SetOk u.cols u.pk st.sets) {hit : List (List Vl)} (hh : hit.Sublist v.rows) : ∀ i, i ≤ hit.length → chgD u st D (hit.take i) = putT (chgT u st v (hit.take i)) D ∧ TbOk (chgT u st v (hit.take i)) ∧ ∀ r ∈ hit.drop i, r ∈ (chgT u st v (hit.take i)).rows
  | 0, _ => by
    obtain ⟨hv, hn⟩ := findD_mem hf
    refine ⟨?_, G.tb v hv, fun r hr => hh.subset (by simpa using hr)⟩
    show D = putT (withR v v.rows) D
    rw [withR_self, G.putT_same hv]
  | i + 1, hi => by
    obtain ⟨h1, h2, h3⟩ := chg_inv G hf hc hp hs hh i (by omega)
    obtain ⟨hv, hn⟩ := findD_mem hf
    have ok := G.tb v hv
    obtain ⟨r, hr⟩ := getE (l := hit) (i := i) (by omega)
    have htk : hit.take (i + 1) = hit.take i ++ [r] := by rw [List.take_add_one, hr]; rfl
    have hd : hit.drop i = r :: hit.drop (i + 1) := by
      obtain ⟨hl, rfl⟩ := List.getElem?_eq_some_iff.mp hr
      exact List.drop_eq_getElem_cons hl
    obtain ⟨vi, hvi⟩ : ∃ x, chgT u st v (hit.take i) = x := ⟨_, rfl⟩
    rw [hvi] at h1 h2 h3
    have e1 : vi.cols = v.cols := by rw [← hvi]; rfl
    have e2 : vi.pk = v.pk := by rw [← hvi]; rfl
    have e3 : vi.nm = v.nm := by rw [← hvi]; rfl
    have G1 : DGd (putT vi D) := G.put_same h2 ⟨v, hv, e3.symm⟩
    have hf1 : findD (putT vi D) st.table = some vi := by
      rw [← hn, ← e3]
      exact G.putT_find vi
    have hri : r ∈ vi.rows := h3 r (by rw [hd]; simp)
    obtain ⟨k1, k2⟩ := chg1_ok G1 hf1 (hc.trans e1.symm) (hp.trans e2.symm) hs hri
    have enew : chgT u st v (hit.take (i + 1)) = withR vi (chgR u.cols u.pk st vi.rows r) := by
      rw [htk]
      unfold chgT
      rw [List.foldl_append, ← hvi]
      rfl
    have hD : chgD u st D (hit.take (i + 1)) = (chg1 u st (chgD u st D (hit.take i)) r).1 := by
      rw [htk]
      unfold chgD
      rw [List.foldl_append]
      rfl
    refine ⟨?_, ?_, fun x hx => ?_⟩
    · rw [hD, h1, k1, enew]
      exact putBy_twice (fun t : Tb => t.nm) (by rfl) D
    · rw [enew]; exact k2
    · rw [enew]
      show x ∈ chgR u.cols u.pk st vi.rows r
      refine chgR_keep (h3 x (by rw [hd]; simp [hx])) (fun e => ?_) (fun _ => ?_)
      · have hp2 : (hit.drop i).Pairwise (fun a b => lt (pkK v.pk a) (pkK v.pk b) = true) := (ok.srt.sublist hh).sublist (List.drop_sublist _ _)
        rw [hd, List.pairwise_cons] at hp2
        have := hp2.1 x hx
        rw [← hp, e, lt_irr] at this
        cases this
      · have := (setR_ok st.sets r hs (by rw [hc]; exact ok.row r (hh.subset (List.mem_of_getElem? hr)))).2
        unfold pkK
        rw [this]
/-- No change is refused. -/
theorem chg_at (G : DGd D) (hf : findD D st.table = some v) (hc : u.cols = v.cols) (hp : u.pk = v.pk) (hs : SetOk u.cols u.pk st.sets) {hit : List (List Vl)} (hh : hit.Sublist v.rows) {i : Nat} {r : List Vl} (hr : hit[i]? = some r) : (chg1 u st (chgD u st D (hit.take i)) r).2 = 0 ∧ (chg1 u st (chgD u st D (hit.take i)) r).1 = chgD u st D (hit.take (i + 1)) := by
  obtain ⟨h1, h2, h3⟩ := chg_inv G hf hc hp hs hh i (by have := (List.getElem?_eq_some_iff.mp hr).1; omega)
  obtain ⟨hv, hn⟩ := findD_mem hf
  have htk : hit.take (i + 1) = hit.take i ++ [r] := by rw [List.take_add_one, hr]; rfl
  constructor
  · obtain ⟨vi, hvi⟩ : ∃ x, chgT u st v (hit.take i) = x := ⟨_, rfl⟩
    rw [hvi] at h1 h2 h3
    have e1 : vi.cols = v.cols := by rw [← hvi]; rfl
    have e2 : vi.pk = v.pk := by rw [← hvi]; rfl
    have e3 : vi.nm = v.nm := by rw [← hvi]; rfl
    have hf1 : findD (putT vi D) st.table = some vi := by
      rw [← hn, ← e3]
      exact G.putT_find vi
    have hd : hit.drop i = r :: hit.drop (i + 1) := by
      obtain ⟨hl, rfl⟩ := List.getElem?_eq_some_iff.mp hr
      exact List.drop_eq_getElem_cons hl
    rw [h1, (chg1_ok (G.put_same h2 ⟨v, hv, e3.symm⟩) hf1 (hc.trans e1.symm) (hp.trans e2.symm) hs (h3 r (by rw [hd]; simp))).1]
  · rw [htk]
    unfold chgD
    rw [List.foldl_append]
    rfl
end
section
variable {M : Mu} {s : Nat} {nm : ByteArray} {D : Db} {mode m' : Int} {z : Int}
theorem setL_bars (o : ByteArray) : (M.setL s nm m').bars s o mode ↔ M.bars s o mode := by
  unfold Mu.bars Mu.setL
  constructor
  · rintro ⟨x, h1, h2, h3⟩
    refine ⟨x, h1, h2, ?_⟩
    simp only [h2, false_and, if_false] at h3
    exact h3
  · rintro ⟨x, h1, h2, h3⟩
    refine ⟨x, h1, h2, ?_⟩
    simp only [h2, false_and, if_false]
    exact h3
theorem setL_tkE (s : Int) (o : ByteArray) : (M.setL s.toNat nm m').tkE s o mode = M.tkE s o mode := by
  have e := setL_bars (M := M) (s := s.toNat) (nm := nm) (m' := m') (mode := mode) o
  by_cases h1 : M.inT s ≠ 0
  · unfold Mu.tkE
    rw [if_pos (show (M.setL s.toNat nm m').inT s ≠ 0 from h1), if_pos h1]
    rfl
  · unfold Mu.tkE
    rw [if_neg (show ¬ (M.setL s.toNat nm m').inT s ≠ 0 from h1), if_neg h1]
    by_cases h2 : findD M.com o = none
    · rw [if_pos (show findD (M.setL s.toNat nm m').com o = none from h2), if_pos h2]
    · rw [if_neg (show ¬ findD (M.setL s.toNat nm m').com o = none from h2), if_neg h2]
      by_cases h3 : M.bars s.toNat o mode
      · rw [if_pos (e.mpr h3), if_pos h3]
      · rw [if_neg (fun c => h3 (e.mp c)), if_neg h3]
theorem setV_tkE (s : Int) (o : ByteArray) : (M.setV s.toNat D).tkE s o mode = M.tkE s o mode := rfl
theorem setL_twice : ((M.setL s nm m').setL s nm m') = M.setL s nm m' := by
  unfold Mu.setL
  congr 1
  funext o n
  by_cases c : o = s ∧ n = nm
  · obtain ⟨rfl, rfl⟩ := c
    by_cases d : M.lk o n < m'
    · simp [d]
    · simp [d]
  · have h1 : ∀ (P : Prop), ¬ (o = s ∧ n = nm ∧ P) := fun P h => c ⟨h.1, h.2.1⟩
    rw [if_neg (h1 _)]
theorem setV_setL {D : Db} : (M.setV s D).setL s nm m' = (M.setL s nm m').setV s D := rfl
theorem setV_setV {D D' : Db} : (M.setV s D).setV s D' = M.setV s D' := by
  unfold Mu.setV
  congr 1
  funext o
  by_cases c : o = s
  · rw [if_pos c, if_pos c]
  · rw [if_neg c, if_neg c]
    exact if_neg c
theorem setV_see {D : Db} : (M.setV s D).see s = D := if_pos rfl
end
end Go.Proofs.Qxb6500412aGreat
