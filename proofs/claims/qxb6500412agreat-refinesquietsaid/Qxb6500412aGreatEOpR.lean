/-
  OWN WORK. TABLE: a row put, turned, taken away: rows' tree and index together. No program in sight.
-/
import Derived.Test.Qxb6500412aGreatEOpQ
namespace Go.Proofs.Qxb6500412aGreat
open Go.RowKit Go.PlainAid
set_option linter.unusedSimpArgs false
set_option linter.unusedVariables false

theorem codes_size : ∀ l : List Vl, (codes l).size = 8 * l.length := by
  intro l
  unfold codes
  have : ∀ (l : List Vl) (a : ByteArray), (l.foldl (fun s v => s ++ cV v) a).size = a.size + 8 * l.length := by
    intro l
    induction l with
    | nil => intro a; simp
    | cons x r ih => intro a; rw [List.foldl_cons, ih, ByteArray.size_append, cV_size, List.length_cons]; omega
  rw [this]
  show 0 + _ = _
  omega
theorem restP_size {r : List Vl} {pk : Nat} (h : pk < r.length) : (restP r pk).size = 8 * (r.length - 1) := by
  unfold restP
  rw [codes_size, List.length_eraseIdx, if_pos h]
section
variable {pk c : Nat} {rows : List (List Vl)} {r o : List Vl}
theorem rowsL_srt (hs : rows.Pairwise (fun a b => lt (pkK pk a) (pkK pk b) = true)) : Srt (rowsL pk rows) := (kvs_srt _ _).mpr hs
theorem rowsL_put : rowsL pk (putBy (pkK pk) r rows) = putL (pkK pk r) (restP r pk) (rowsL pk rows) := putBy_kvs _ _ r rows
theorem rowsL_del (k : ByteArray) : rowsL pk (rows.filter (fun r => decide (pkK pk r ≠ k))) = delL k (rowsL pk rows) := by
  unfold rowsL kvsOf delL
  rw [List.filter_map]
  rfl
theorem getL_rows (k : ByteArray) : getL k (rowsL pk rows) = (rows.find? (fun r => decide (pkK pk r = k))).map (fun r => restP r pk) := by
  unfold getL rowsL kvsOf
  rw [List.find?_map, Option.map_map]
  rfl
theorem idx_pk {a b : List Vl} (e : idxK a c pk = idxK b c pk) : pkK pk a = pkK pk b := (idxK_inj e).2
theorem idx_ins (hs : rows.Pairwise (fun a b => lt (pkK pk a) (pkK pk b) = true)) (hno : ∀ a ∈ rows, pkK pk a ≠ pkK pk r) : idxL pk c (putBy (pkK pk) r rows) = putL (idxK r c pk) eB (idxL pk c rows) := by
  refine Srt.ext (idxL_srt _ _ _) (putL_srt (idxL_srt _ _ _)) (fun e => ?_)
  rw [(idxL_srt pk c rows).put_iff, idxL_mem, idxL_mem]
  constructor
  · rintro ⟨a, ha, rfl⟩
    rcases (putBy_iff _ hs).mp ha with d | ⟨d, _⟩
    · rw [d]; exact .inl rfl
    · exact .inr ⟨⟨a, d, rfl⟩, fun f => hno a d (idx_pk f)⟩
  · rintro (d | ⟨⟨a, ha, rfl⟩, _⟩)
    · exact ⟨r, putBy_in _ _ _, d⟩
    · exact ⟨a, putBy_keep _ ha (hno a ha), rfl⟩
theorem idx_same (hs : rows.Pairwise (fun a b => lt (pkK pk a) (pkK pk b) = true)) (ho : o ∈ rows) (hk : pkK pk o = pkK pk r) (hi : idxK o c pk = idxK r c pk) : idxL pk c (putBy (pkK pk) r rows) = idxL pk c rows := by
  refine Srt.ext (idxL_srt _ _ _) (idxL_srt _ _ _) (fun e => ?_)
  rw [idxL_mem, idxL_mem]
  constructor
  · rintro ⟨a, ha, rfl⟩
    rcases (putBy_iff _ hs).mp ha with d | ⟨d, _⟩
    · exact ⟨o, ho, by rw [d, hi]⟩
    · exact ⟨a, d, rfl⟩
  · rintro ⟨a, ha, rfl⟩
    by_cases d : pkK pk a = pkK pk r
    · have : a = o := by_key (pkK pk) hs ha ho (d.trans hk.symm)
      exact ⟨r, putBy_in _ _ _, by rw [this, hi]⟩
    · exact ⟨a, putBy_keep _ ha d, rfl⟩
theorem idx_turn (hs : rows.Pairwise (fun a b => lt (pkK pk a) (pkK pk b) = true)) (ho : o ∈ rows) (hk : pkK pk o = pkK pk r) (hi : idxK o c pk ≠ idxK r c pk) : idxL pk c (putBy (pkK pk) r rows) = putL (idxK r c pk) eB (delL (idxK o c pk) (idxL pk c rows)) := by
  refine Srt.ext (idxL_srt _ _ _) (putL_srt (delL_srt (idxL_srt _ _ _))) (fun e => ?_)
  rw [(delL_srt (idxL_srt pk c rows)).put_iff, delL_iff, idxL_mem, idxL_mem]
  constructor
  · rintro ⟨a, ha, rfl⟩
    rcases (putBy_iff _ hs).mp ha with d | ⟨d, d2⟩
    · rw [d]; exact .inl rfl
    · refine .inr ⟨⟨⟨a, d, rfl⟩, fun f => d2 ((idx_pk f).trans hk)⟩, fun f => d2 (idx_pk f)⟩
  · rintro (d | ⟨⟨⟨a, ha, rfl⟩, h1⟩, h2⟩)
    · exact ⟨r, putBy_in _ _ _, d⟩
    · refine ⟨a, putBy_keep _ ha (fun f => h1 ?_), rfl⟩
      have : a = o := by_key (pkK pk) hs ha ho (f.trans hk.symm)
      rw [this]
theorem idx_del (hs : rows.Pairwise (fun a b => lt (pkK pk a) (pkK pk b) = true)) (ho : o ∈ rows) : idxL pk c (rows.filter (fun r => decide (pkK pk r ≠ pkK pk o))) = delL (idxK o c pk) (idxL pk c rows) := by
  refine Srt.ext (idxL_srt _ _ _) (delL_srt (idxL_srt _ _ _)) (fun e => ?_)
  rw [delL_iff, idxL_mem, idxL_mem]
  constructor
  · rintro ⟨a, ha, rfl⟩
    obtain ⟨h1, h2⟩ := List.mem_filter.mp ha
    have h2 : pkK pk a ≠ pkK pk o := by simpa using h2
    exact ⟨⟨a, h1, rfl⟩, fun f => h2 (idx_pk f)⟩
  · rintro ⟨⟨a, ha, rfl⟩, h1⟩
    refine ⟨a, List.mem_filter.mpr ⟨ha, decide_eq_true (fun f => ?_)⟩, rfl⟩
    have : a = o := by_key (pkK pk) hs ha ho f
    exact h1 (by rw [this])
end
section
variable {S : Vu} {T : List (Tb × Hd)} {t : Tb} {h : Hd} {r o : List Vl}
theorem Lay.c60 (L : Lay S T) : (al8 S).length ≤ 60 := by
  have h1 := L.cnt
  have h2 := L.clen
  have h3 := hands_len (T := T)
  have h4 := L.len
  omega
def withR (t : Tb) (rows : List (List Vl)) : Tb := { t with rows := rows }
theorem TbOk.put (ok : TbOk t) (hr : RowOk t.cols r) (hl : (putBy (pkK t.pk) r t.rows).length ≤ 8) : TbOk (withR t (putBy (pkK t.pk) r t.rows)) :=
  ⟨ok.nm, ok.cols, ok.ix, fun a ha => by rcases putBy_mem _ ha with rfl | d; exact hr; exact ok.row a d, putBy_srt _ ok.srt, hl⟩
theorem TbOk.del (ok : TbOk t) (k : ByteArray) : TbOk (withR t (t.rows.filter (fun r => decide (pkK t.pk r ≠ k)))) :=
  ⟨ok.nm, ok.cols, ok.ix, fun a ha => ok.row a (List.mem_filter.mp ha).1, List.Pairwise.filter _ ok.srt, Nat.le_trans (List.length_filter_le _ _) ok.len⟩
theorem pkK_size (pk : Nat) (r : List Vl) : (pkK pk r).size = 8 := cV_size _
theorem rest16 (ok : TbOk t) (hr : RowOk t.cols r) : (restP r t.pk).size ≤ 16 := by
  have h1 := ok.pkn
  have h2 := ok.n3
  have h3 := hr.len
  rw [restP_size (by omega)]
  omega
theorem Lay.both (L : Lay S T) (hx : (t, h) ∈ T) {i : Nat} (hi : h.idx = some i) : ∃ c, t.ix = some c ∧ h.ix = some c ∧ c < t.cols.length ∧ i < 8 ∧ i ≠ h.rows ∧ 1 ≤ i := by
  have hf := L.hd _ hx
  have e1 : h.ix = t.ix := hf.ix
  cases hc : t.ix with
  | none =>
    have := hf.ok.both.mp (e1.trans hc)
    have this : h.idx = none := this
    rw [this] at hi; cases hi
  | some c =>
    have h1 := hf.ok.idx i hi
    exact ⟨c, rfl, e1.trans hc, ((L.tb _ hx).ix c hc).1, h1.2.1, h1.2.2, h1.1⟩
/-- A new row. -/
theorem Lay.ins (L : Lay S T) (hx : (t, h) ∈ T) (hr : RowOk t.cols r) (hno : ∀ a ∈ t.rows, pkK t.pk a ≠ pkK t.pk r) (hl : t.rows.length < 8) :
    ∃ S1, putS S (h.rows : Int) (pkK t.pk r) (restP r t.pk) = (S1, 0) ∧ (h.idx = none → Lay S1 (putBy (fun x : Tb × Hd => x.1.nm) (withR t (putBy (pkK t.pk) r t.rows), h) T)) ∧
      ∀ i c, h.idx = some i → t.ix = some c → ∃ S2, putS S1 (i : Int) (idxK r c t.pk) eB = (S2, 0) ∧ Lay S2 (putBy (fun x : Tb × Hd => x.1.nm) (withR t (putBy (pkK t.pk) r t.rows), h) T) := by
  have ok := L.tb _ hx
  have hf := L.hd _ hx
  have hrw : S h.rows = some (rowsL t.pk t.rows) := L.rows _ hx
  have c60 := L.c60
  have ok' := ok.put hr (by rw [putBy_len_new _ hno]; exact hl)
  have hp1 := put_ok hf.ok.r8 hrw (k := pkK t.pk r) (v := restP r t.pk) (by rw [pkK_size]; omega) (rest16 ok hr) (.inl (by omega))
  rw [← rowsL_put] at hp1
  refine ⟨_, hp1, fun hn => ?_, fun i c hi hc => ?_⟩
  · exact L.turn hx ok' rfl rfl rfl rfl (updV_at _ _ _) (fun c i _ e => by rw [hn] at e; cases e) (fun j hj _ => updV_ne _ _ hj)
  · obtain ⟨c', e1, e2, e3, i8, ir, i1⟩ := L.both hx hi
    have hS1 : updV S h.rows (some (rowsL t.pk (putBy (pkK t.pk) r t.rows))) i = some (idxL t.pk c t.rows) := by
      rw [updV_ne _ _ ir]
      exact L.idx _ hx c i hc hi
    have hct : (al8 (updV S h.rows (some (rowsL t.pk (putBy (pkK t.pk) r t.rows))))).length < 64 := by
      have := al8_upd S hf.ok.r8 (some (rowsL t.pk (putBy (pkK t.pk) r t.rows)))
      rw [hrw] at this
      simp only [Option.getD_some] at this
      have e4 : (rowsL t.pk (putBy (pkK t.pk) r t.rows)).length = (rowsL t.pk t.rows).length + 1 := by
        simp only [rowsL, kvsOf, List.length_map]
        rw [putBy_len_new _ hno]
      omega
    have hp2 := put_ok i8 hS1 (k := idxK r c t.pk) (v := eB) (by rw [idxK_size]; omega) (by show 0 ≤ 16; omega) (.inl hct)
    rw [← idx_ins ok.srt hno] at hp2
    refine ⟨_, hp2, L.turn hx ok' rfl rfl rfl rfl ?_ (fun c2 i2 h1 h2 => ?_) (fun j hj hji => ?_)⟩
    · rw [updV_ne _ _ (fun e => ir e.symm)]
      exact updV_at _ _ _
    · rw [hc] at h1; cases h1
      rw [hi] at h2; cases h2
      exact updV_at _ _ _
    · rw [updV_ne _ _ (fun e => hji (by rw [e]; exact hi)), updV_ne _ _ hj]
/-- A row in the place of the one of its key. -/
theorem Lay.upd (L : Lay S T) (hx : (t, h) ∈ T) (hr : RowOk t.cols r) (ho : o ∈ t.rows) (hk : pkK t.pk o = pkK t.pk r) :
    ∃ S1, putS S (h.rows : Int) (pkK t.pk r) (restP r t.pk) = (S1, 0) ∧ (h.idx = none → Lay S1 (putBy (fun x : Tb × Hd => x.1.nm) (withR t (putBy (pkK t.pk) r t.rows), h) T)) ∧
      ∀ i c, h.idx = some i → t.ix = some c → (idxK o c t.pk = idxK r c t.pk → Lay S1 (putBy (fun x : Tb × Hd => x.1.nm) (withR t (putBy (pkK t.pk) r t.rows), h) T)) ∧
        (idxK o c t.pk ≠ idxK r c t.pk → ∃ S2 S3, delS S1 (i : Int) (idxK o c t.pk) = (S2, 0) ∧ putS S2 (i : Int) (idxK r c t.pk) eB = (S3, 0) ∧ Lay S3 (putBy (fun x : Tb × Hd => x.1.nm) (withR t (putBy (pkK t.pk) r t.rows), h) T)) := by
  have ok := L.tb _ hx
  have hf := L.hd _ hx
  have hrw : S h.rows = some (rowsL t.pk t.rows) := L.rows _ hx
  have c60 := L.c60
  have hlen := putBy_len_old (pkK t.pk) ok.srt ⟨o, ho, hk⟩
  have ok' := ok.put hr (by rw [hlen]; exact ok.len)
  have hp1 := put_ok hf.ok.r8 hrw (k := pkK t.pk r) (v := restP r t.pk) (by rw [pkK_size]; omega) (rest16 ok hr) (.inl (by omega))
  rw [← rowsL_put] at hp1
  refine ⟨_, hp1, fun hn => ?_, fun i c hi hc => ?_⟩
  · exact L.turn hx ok' rfl rfl rfl rfl (updV_at _ _ _) (fun c i _ e => by rw [hn] at e; cases e) (fun j hj _ => updV_ne _ _ hj)
  · obtain ⟨c', e1, e2, e3, i8, ir, i1⟩ := L.both hx hi
    have hS1 : updV S h.rows (some (rowsL t.pk (putBy (pkK t.pk) r t.rows))) i = some (idxL t.pk c t.rows) := by
      rw [updV_ne _ _ ir]
      exact L.idx _ hx c i hc hi
    refine ⟨fun hsame => ?_, fun hne => ?_⟩
    · refine L.turn hx ok' rfl rfl rfl rfl (updV_at _ _ _) (fun c2 i2 h1 h2 => ?_) (fun j hj hji => updV_ne _ _ hj)
      rw [hc] at h1; cases h1
      rw [hi] at h2; cases h2
      rw [hS1, show (withR t (putBy (pkK t.pk) r t.rows)).rows = putBy (pkK t.pk) r t.rows from rfl, show (withR t (putBy (pkK t.pk) r t.rows)).pk = t.pk from rfl, idx_same ok.srt ho hk hsame]
    · have hin : (idxK o c t.pk, eB) ∈ idxL t.pk c t.rows := (idxL_mem _ _ _ _).mpr ⟨o, ho, rfl⟩
      have hp2 := del_ok i8 hS1 (k := idxK o c t.pk) (fun f => getN_iff.mp f _ hin rfl)
      have hct : (al8 (updV (updV S h.rows (some (rowsL t.pk (putBy (pkK t.pk) r t.rows)))) i (some (delL (idxK o c t.pk) (idxL t.pk c t.rows))))).length < 64 := by
        have a1 := al8_upd S hf.ok.r8 (some (rowsL t.pk (putBy (pkK t.pk) r t.rows)))
        rw [hrw] at a1
        simp only [Option.getD_some] at a1
        have e4 : (rowsL t.pk (putBy (pkK t.pk) r t.rows)).length = (rowsL t.pk t.rows).length := by
          simp only [rowsL, kvsOf, List.length_map]
          rw [hlen]
        have a2 := al8_upd (updV S h.rows (some (rowsL t.pk (putBy (pkK t.pk) r t.rows)))) i8 (some (delL (idxK o c t.pk) (idxL t.pk c t.rows)))
        rw [hS1] at a2
        simp only [Option.getD_some] at a2
        have e5 : (delL (idxK o c t.pk) (idxL t.pk c t.rows)).length ≤ (idxL t.pk c t.rows).length := List.length_filter_le _ _
        omega
      have hp3 := put_ok i8 (updV_at (updV S h.rows (some (rowsL t.pk (putBy (pkK t.pk) r t.rows)))) i (some (delL (idxK o c t.pk) (idxL t.pk c t.rows)))) (k := idxK r c t.pk) (v := eB) (by rw [idxK_size]; omega) (by show 0 ≤ 16; omega) (.inl hct)
      rw [← idx_turn ok.srt ho hk hne] at hp3
      refine ⟨_, _, hp2, hp3, L.turn hx ok' rfl rfl rfl rfl ?_ (fun c2 i2 h1 h2 => ?_) (fun j hj hji => ?_)⟩
      · rw [updV_ne _ _ (fun e => ir e.symm), updV_ne _ _ (fun e => ir e.symm)]
        exact updV_at _ _ _
      · rw [hc] at h1; cases h1
        rw [hi] at h2; cases h2
        exact updV_at _ _ _
      · have : j ≠ i := fun e => hji (by rw [e]; exact hi)
        rw [updV_ne _ _ this, updV_ne _ _ this, updV_ne _ _ hj]
/-- A row is taken away. -/
theorem Lay.del (L : Lay S T) (hx : (t, h) ∈ T) (ho : o ∈ t.rows) :
    ∃ S1, delS S (h.rows : Int) (pkK t.pk o) = (S1, 0) ∧ (h.idx = none → Lay S1 (putBy (fun x : Tb × Hd => x.1.nm) (withR t (t.rows.filter (fun r => decide (pkK t.pk r ≠ pkK t.pk o))), h) T)) ∧
      ∀ i c, h.idx = some i → t.ix = some c → ∃ S2, delS S1 (i : Int) (idxK o c t.pk) = (S2, 0) ∧ Lay S2 (putBy (fun x : Tb × Hd => x.1.nm) (withR t (t.rows.filter (fun r => decide (pkK t.pk r ≠ pkK t.pk o))), h) T) := by
  have ok := L.tb _ hx
  have hf := L.hd _ hx
  have hrw : S h.rows = some (rowsL t.pk t.rows) := L.rows _ hx
  have ok' := ok.del (pkK t.pk o)
  have hin : (pkK t.pk o, restP o t.pk) ∈ rowsL t.pk t.rows := (kvs_mem _ _).mpr ⟨o, ho, rfl⟩
  have hp1 := del_ok hf.ok.r8 hrw (k := pkK t.pk o) (fun f => getN_iff.mp f _ hin rfl)
  rw [← rowsL_del] at hp1
  refine ⟨_, hp1, fun hn => ?_, fun i c hi hc => ?_⟩
  · exact L.turn hx ok' rfl rfl rfl rfl (updV_at _ _ _) (fun c i _ e => by rw [hn] at e; cases e) (fun j hj _ => updV_ne _ _ hj)
  · obtain ⟨c', e1, e2, e3, i8, ir, i1⟩ := L.both hx hi
    have hS1 : updV S h.rows (some (rowsL t.pk (t.rows.filter (fun r => decide (pkK t.pk r ≠ pkK t.pk o))))) i = some (idxL t.pk c t.rows) := by
      rw [updV_ne _ _ ir]
      exact L.idx _ hx c i hc hi
    have hin2 : (idxK o c t.pk, eB) ∈ idxL t.pk c t.rows := (idxL_mem _ _ _ _).mpr ⟨o, ho, rfl⟩
    have hp2 := del_ok i8 hS1 (k := idxK o c t.pk) (fun f => getN_iff.mp f _ hin2 rfl)
    rw [← idx_del ok.srt ho] at hp2
    refine ⟨_, hp2, L.turn hx ok' rfl rfl rfl rfl ?_ (fun c2 i2 h1 h2 => ?_) (fun j hj hji => ?_)⟩
    · rw [updV_ne _ _ (fun e => ir e.symm)]
      exact updV_at _ _ _
    · rw [hc] at h1; cases h1
      rw [hi] at h2; cases h2
      exact updV_at _ _ _
    · rw [updV_ne _ _ (fun e => hji (by rw [e]; exact hi)), updV_ne _ _ hj]
end
end Go.Proofs.Qxb6500412aGreat
