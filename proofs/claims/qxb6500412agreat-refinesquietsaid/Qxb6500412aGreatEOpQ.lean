/-
  OWN WORK. TABLE: steps on the trees that lay a table, drop it, index it, turn its rows. No program in sight.
-/
import Derived.Test.Qxb6500412aGreatEOpP
namespace Go.Proofs.Qxb6500412aGreat
open Go.RowKit Go.PlainAid
set_option linter.unusedSimpArgs false
set_option linter.unusedVariables false

theorem hdT_size (h : Hd) : (hdT h).size = 5 := mkB_size _ _
theorem colT_size (c : Cl) : (colT c).size = 2 + c.1.size := by unfold colT; rw [ByteArray.size_append, mkB_size]
theorem part_size {x : Tb × Hd} (ok : TbOk x.1) (i : Nat) : (part x i).size ≤ 8 := by
  unfold part
  split
  · rw [hdT_size]; omega
  · rw [colT_size]
    cases hc : x.1.cols[i - 1]? with
    | none => show 2 + 0 ≤ 8; omega
    | some c =>
      have := (ok.cols.2.1 c (List.mem_of_getElem? hc)).2
      simp only [Option.getD_some]
      omega
theorem putBy_map {α β : Type} (f : α → ByteArray) (g : β → ByteArray) (h : α → β) (hg : ∀ a, g (h a) = f a) (r : α) (l : List α) : (putBy f r l).map h = putBy g (h r) (l.map h) := by
  induction l with
  | nil => rfl
  | cons e l ih =>
    rw [List.map_cons, putBy, putBy, hg, hg]
    split
    · rw [List.map_cons, ih]
    · split <;> simp
section
variable {S S' R : Vu} {T : List (Tb × Hd)} {x : Tb × Hd}
/-- n parts of the new table x are laid; its tree is i. -/
structure CMid (S : Vu) (T : List (Tb × Hd)) (x : Tb × Hd) (i n : Nat) (R : Vu) : Prop where
  cat : ∃ l, R 0 = some l ∧ Srt l ∧ ∀ e, e ∈ l ↔ e ∈ catL T ∨ ∃ j, j < n ∧ e = catE x j
  row : R i = some []
  oth : ∀ j, j ≠ 0 → j ≠ i → R j = S j
  ct : (al8 R).length ≤ (al8 S).length + n
theorem CMid.start (L : Lay S T) {i : Nat} (h1 : 1 ≤ i) (h8 : i < 8) (h0 : S i = none) : CMid S T x i 0 (updV S i (some [])) := by
  refine ⟨⟨catL T, by rw [updV_ne _ _ (by omega)]; exact L.cat, L.csrt, fun e => ?_⟩, updV_at _ _ _, fun j _ hj => updV_ne _ _ hj, ?_⟩
  · constructor
    · exact fun h => .inl h
    · rintro (h | ⟨j, hj, _⟩)
      · exact h
      · omega
  · have := al8_upd S h8 (some [])
    rw [h0] at this
    simp at this
    omega
theorem CMid.step {i n : Nat} (M : CMid S T x i n R) (L : Lay S T) (ok : TbOk x.1) (hnew : ∀ y ∈ T, y.1.nm ≠ x.1.nm) (hn : n ≤ x.1.cols.length) (hct : (al8 S).length ≤ 50) (hi : 1 ≤ i) : ∃ R', putS R (0 : Int) (catK x.1.nm n) (part x n) = (R', 0) ∧ CMid S T x i (n + 1) R' := by
  obtain ⟨l, h1, h2, h3⟩ := M.cat
  have n3 := ok.n3
  have hk : ∀ e ∈ l, e.1 ≠ catK x.1.nm n := by
    intro e he hc
    rcases (h3 e).mp he with c | ⟨j, hj, rfl⟩
    · obtain ⟨y, hy, j, hj, rfl⟩ := catL_mem.mp c
      have hs := L.small y hy
      exact hnew y hy (catK_inj hs.1 ok.nm.2 (by omega) (by omega) hc).1
    · have := (catK_inj ok.nm.2 ok.nm.2 (by omega) (by omega) hc).2
      omega
  have hct2 := M.ct
  have hput := put_ok (i := 0) (by omega) h1 (k := catK x.1.nm n) (v := part x n) (by rw [catK_size]; omega) (by have := part_size ok n; omega) (.inl (by omega))
  refine ⟨_, hput, ⟨⟨_, updV_at _ _ _, putL_srt h2, fun e => ?_⟩, by rw [updV_ne _ _ (by omega)]; exact M.row, fun j hj hji => by rw [updV_ne _ _ hj]; exact M.oth j hj hji, ?_⟩⟩
  · rw [h2.put_iff]
    constructor
    · rintro (c | ⟨c, d⟩)
      · exact .inr ⟨n, by omega, c⟩
      · rcases (h3 e).mp c with c | ⟨j, hj, rfl⟩
        · exact .inl c
        · exact .inr ⟨j, by omega, rfl⟩
    · rintro (c | ⟨j, hj, rfl⟩)
      · have := (h3 e).mpr (.inl c)
        exact .inr ⟨this, hk e this⟩
      · by_cases c : j = n
        · subst c; exact .inl rfl
        · have := (h3 (catE x j)).mpr (.inr ⟨j, by omega, rfl⟩)
          exact .inr ⟨this, hk _ this⟩
  · have h4 := al8_upd R (i := 0) (by omega) (some (putL (catK x.1.nm n) (part x n) l))
    rw [h1] at h4
    simp only [Option.getD_some] at h4
    rw [putL_len_new hk] at h4
    omega
theorem CMid.done {i : Nat} (M : CMid S T x i (1 + x.1.cols.length) R) (L : Lay S T) (ok : TbOk x.1) (hf : HdFor x) (hnew : ∀ y ∈ T, y.1.nm ≠ x.1.nm) (hlen : T.length < 3) (h0 : S i = none) (hi1 : 1 ≤ i) (hr : x.2.rows = i) (hix : x.1.ix = none) (hrows : x.1.rows = []) : Lay R (putBy (fun x : Tb × Hd => x.1.nm) x T) := by
  have hm : ∀ {e : Tb × Hd}, e ∈ putBy (fun x : Tb × Hd => x.1.nm) x T ↔ e = x ∨ (e ∈ T ∧ e.1.nm ≠ x.1.nm) := putBy_iff _ L.srt
  have hidx : x.2.idx = none := hf.ok.both.mp (by rw [hf.ix]; exact hix)
  have hh : hnd x = [i] := by unfold hnd; rw [hidx, hr]; rfl
  have hfree := L.free h0
  refine L.put ok hf (by rw [putBy_len_new _ hnew]; omega) ?_ ?_ (fun c j h1 h2 => by rw [hix] at h1; cases h1) (fun y hy hne j hj c => ?_) (fun y hy hne j hj => ?_) (fun j h1 h2 => ?_)
  · obtain ⟨l, h1, h2, h3⟩ := M.cat
    rw [h1]
    congr 1
    refine Srt.ext h2 (catL_srt (fun y hy => ?_) (putBy_srt _ L.srt)) (fun e => ?_)
    · rcases hm.mp hy with rfl | h
      · exact ⟨ok.nm.2, ok.n3⟩
      · exact L.small y h.1
    · rw [h3, catL_mem, catL_mem]
      constructor
      · rintro (⟨y, hy, j, hj, rfl⟩ | ⟨j, hj, rfl⟩)
        · exact ⟨y, hm.mpr (.inr ⟨hy, hnew y hy⟩), j, hj, rfl⟩
        · exact ⟨x, hm.mpr (.inl rfl), j, by omega, rfl⟩
      · rintro ⟨y, hy, j, hj, rfl⟩
        rcases hm.mp hy with rfl | h
        · exact .inr ⟨j, by omega, rfl⟩
        · exact .inl ⟨y, h.1, j, hj, rfl⟩
  · rw [hr, M.row, hrows]; rfl
  · rw [hh] at c
    have : j = i := by simpa using c
    exact hfree (mem_hands.mpr ⟨y, hy, by rw [← this]; exact hj⟩)
  · have hji : j ≠ i := fun e => hfree (mem_hands.mpr ⟨y, hy, by rw [← e]; exact hj⟩)
    have := (hnd_pos (L.hd y hy) j hj).1
    exact M.oth j (by omega) hji
  · by_cases c : j = i
    · exact .inl (by rw [hh, c]; simp)
    · rw [M.oth j h1 c] at h2
      obtain ⟨y, hy, hj⟩ := mem_hands.mp (L.used j h1 h2)
      exact .inr ⟨y, hy, hnew y hy, hj⟩
/-- The trees of x are gone, and n of its parts. -/
structure DMid (S : Vu) (T : List (Tb × Hd)) (x : Tb × Hd) (n : Nat) (R : Vu) : Prop where
  cat : ∃ l, R 0 = some l ∧ Srt l ∧ ∀ e, e ∈ l ↔ ∃ y ∈ T, ∃ j, j ≤ y.1.cols.length ∧ e = catE y j ∧ (y.1.nm = x.1.nm → n ≤ j)
  gone : ∀ j ∈ hnd x, R j = none
  oth : ∀ j, j ≠ 0 → j ∉ hnd x → R j = S j
theorem DMid.start (L : Lay S T) (hx : x ∈ T) (h0 : R 0 = S 0) (hg : ∀ j ∈ hnd x, R j = none) (ho : ∀ j, j ∉ hnd x → R j = S j) : DMid S T x 0 R := by
  refine ⟨⟨catL T, by rw [h0]; exact L.cat, L.csrt, fun e => ?_⟩, hg, fun j _ hj => ho j hj⟩
  rw [catL_mem]
  constructor
  · rintro ⟨y, hy, j, hj, rfl⟩
    exact ⟨y, hy, j, hj, rfl, fun _ => Nat.zero_le _⟩
  · rintro ⟨y, hy, j, hj, rfl, _⟩
    exact ⟨y, hy, j, hj, rfl⟩
theorem DMid.step {n : Nat} (M : DMid S T x n R) (L : Lay S T) (hx : x ∈ T) (hn : n ≤ x.1.cols.length) : ∃ R', delS R (0 : Int) (catK x.1.nm n) = (R', 0) ∧ DMid S T x (n + 1) R' := by
  obtain ⟨l, h1, h2, h3⟩ := M.cat
  have hs := L.small x hx
  have hin : catE x n ∈ l := (h3 _).mpr ⟨x, hx, n, hn, rfl, fun _ => Nat.le_refl _⟩
  have hdel := del_ok (i := 0) (by omega) h1 (k := catK x.1.nm n) (fun c => getN_iff.mp c _ hin rfl)
  refine ⟨_, hdel, ⟨⟨_, updV_at _ _ _, delL_srt h2, fun e => ?_⟩, fun j hj => ?_, fun j h0 hj => by rw [updV_ne _ _ h0]; exact M.oth j h0 hj⟩⟩
  · rw [delL_iff, h3]
    constructor
    · rintro ⟨⟨y, hy, j, hj, rfl, hc⟩, hne⟩
      refine ⟨y, hy, j, hj, rfl, fun e => ?_⟩
      have := hc e
      have : j ≠ n := fun d => hne (by show catK y.1.nm j = _; rw [e, d])
      omega
    · rintro ⟨y, hy, j, hj, rfl, hc⟩
      refine ⟨⟨y, hy, j, hj, rfl, fun e => by have := hc e; omega⟩, fun e => ?_⟩
      have hsy := L.small y hy
      obtain ⟨e1, e2⟩ := catK_inj hsy.1 hs.1 (by omega) (by omega) e
      have := hc e1
      omega
  · have := (hnd_pos (L.hd x hx) j hj).1
    rw [updV_ne _ _ (by omega)]
    exact M.gone j hj
theorem DMid.done (M : DMid S T x (1 + x.1.cols.length) R) (L : Lay S T) (hx : x ∈ T) : Lay R (T.filter (fun y => decide (y.1.nm ≠ x.1.nm))) := by
  have hm : ∀ {e : Tb × Hd}, e ∈ T.filter (fun y => decide (y.1.nm ≠ x.1.nm)) ↔ e ∈ T ∧ e.1.nm ≠ x.1.nm := by intro e; simp
  have hap : ∀ y ∈ T, y.1.nm ≠ x.1.nm → ∀ j ∈ hnd y, R j = S j := fun y hy hne j hj => M.oth j (by have := (hnd_pos (L.hd y hy) j hj).1; omega) (fun c => L.apart hy hx hne j hj j c rfl)
  refine ⟨fun y hy => L.tb y (hm.mp hy).1, List.Pairwise.filter _ L.srt, Nat.le_trans (List.length_filter_le _ _) L.len, fun y hy => L.hd y (hm.mp hy).1, ?_, fun y hy => ?_, fun y hy c i h1 h2 => ?_, List.Pairwise.filter _ L.nod, fun j h0 hn => ?_⟩
  · obtain ⟨l, h1, h2, h3⟩ := M.cat
    rw [h1]
    congr 1
    refine Srt.ext h2 (catL_srt (fun y hy => L.small y (hm.mp hy).1) (List.Pairwise.filter _ L.srt)) (fun e => ?_)
    rw [h3, catL_mem]
    constructor
    · rintro ⟨y, hy, j, hj, rfl, hc⟩
      refine ⟨y, hm.mpr ⟨hy, fun e => ?_⟩, j, hj, rfl⟩
      have := hc e
      obtain rfl := L.one hy hx e
      omega
    · rintro ⟨y, hy, j, hj, rfl⟩
      exact ⟨y, (hm.mp hy).1, j, hj, rfl, fun e => absurd e (hm.mp hy).2⟩
  · rw [hap y (hm.mp hy).1 (hm.mp hy).2 _ (by simp [hnd])]
    exact L.rows y (hm.mp hy).1
  · rw [hap y (hm.mp hy).1 (hm.mp hy).2 _ (by simp [hnd, h2])]
    exact L.idx y (hm.mp hy).1 c i h1 h2
  · have hnx : j ∉ hnd x := fun c => hn (M.gone j c)
    rw [M.oth j h0 hnx] at hn
    obtain ⟨y, hy, hj⟩ := mem_hands.mp (L.used j h0 hn)
    refine mem_hands.mpr ⟨y, hm.mpr ⟨hy, fun e => hnx ?_⟩, hj⟩
    obtain rfl := L.one hy hx e
    exact hj
/- The index's list. -/
theorem idxL_fold (pk c : Nat) (rows : List (List Vl)) : idxL pk c rows = rows.foldl (fun l r => putL (idxK r c pk) eB l) [] := by
  unfold idxL idxR
  have : ∀ (l : List (List Vl)) (a : List (List Vl)), kvsOf (fun r => idxK r c pk) (fun _ => eB) (l.foldl (fun l r => putBy (fun r => idxK r c pk) r l) a) = l.foldl (fun l r => putL (idxK r c pk) eB l) (kvsOf (fun r => idxK r c pk) (fun _ => eB) a) := by
    intro l
    induction l with
    | nil => intro a; rfl
    | cons x r ih => intro a; rw [List.foldl_cons, List.foldl_cons, ih, putBy_kvs]
  exact this rows []
theorem idxL_snoc (pk c : Nat) (rows : List (List Vl)) (r : List Vl) : idxL pk c (rows ++ [r]) = putL (idxK r c pk) eB (idxL pk c rows) := by
  rw [idxL_fold, idxL_fold, List.foldl_append]
  rfl
theorem idxR_srt (pk c : Nat) (rows : List (List Vl)) : (idxR pk c rows).Pairwise (fun a b => lt (idxK a c pk) (idxK b c pk) = true) := by
  unfold idxR
  have : ∀ (l : List (List Vl)) (a : List (List Vl)), a.Pairwise (fun a b => lt (idxK a c pk) (idxK b c pk) = true) → (l.foldl (fun l r => putBy (fun r => idxK r c pk) r l) a).Pairwise (fun a b => lt (idxK a c pk) (idxK b c pk) = true) := by
    intro l
    induction l with
    | nil => intro a h; exact h
    | cons x r ih => intro a h; exact ih _ (putBy_srt _ h)
  exact this rows [] List.Pairwise.nil
theorem idxL_srt (pk c : Nat) (rows : List (List Vl)) : Srt (idxL pk c rows) := (kvs_srt _ _).mpr (idxR_srt pk c rows)
theorem idxL_mem (pk c : Nat) (rows : List (List Vl)) (e : KV) : e ∈ idxL pk c rows ↔ ∃ r ∈ rows, e = (idxK r c pk, eB) := by
  rw [idxL_fold]
  have : ∀ (l : List (List Vl)) (a : List KV), Srt a → (∀ x ∈ a, x.2 = eB) → (e ∈ l.foldl (fun l r => putL (idxK r c pk) eB l) a ↔ e ∈ a ∨ ∃ r ∈ l, e = (idxK r c pk, eB)) := by
    intro l
    induction l with
    | nil => intro a _ _; simp
    | cons x r ih =>
      intro a ha hb
      rw [List.foldl_cons, ih _ (putL_srt ha) (fun y hy => by rcases putL_mem hy with c | c; rw [c]; exact hb y c), ha.put_iff]
      constructor
      · rintro ((c | c) | ⟨s, hs, c⟩)
        · exact .inr ⟨x, by simp, c⟩
        · exact .inl c.1
        · exact .inr ⟨s, by simp [hs], c⟩
      · rintro (d | ⟨s, hs, d⟩)
        · by_cases f : e.1 = idxK x c pk
          · refine .inl (.inl ?_)
            have := hb e d
            cases e
            simp at f this
            rw [f, this]
          · exact .inl (.inr ⟨d, f⟩)
        · rcases List.mem_cons.mp hs with g | g
          · subst g; exact .inl (.inl d)
          · exact .inr ⟨s, g, d⟩
  rw [this rows [] List.Pairwise.nil (by simp)]
  simp
/-- n rows of the table are in the new index's tree i. -/
structure IMid (S : Vu) (t : Tb) (i c n : Nat) (R : Vu) : Prop where
  idx : R i = some (idxL t.pk c (t.rows.take n))
  oth : ∀ j, j ≠ i → R j = S j
  ct : (al8 R).length ≤ (al8 S).length + n
theorem IMid.start {t : Tb} {i c : Nat} (h8 : i < 8) (h0 : S i = none) : IMid S t i c 0 (updV S i (some [])) := by
  refine ⟨by rw [updV_at]; rfl, fun j hj => updV_ne _ _ hj, ?_⟩
  have := al8_upd S h8 (some [])
  rw [h0] at this
  simp at this
  omega
theorem IMid.step {t : Tb} {i c n : Nat} (M : IMid S t i c n R) {r : List Vl} (hr : t.rows[n]? = some r) (h8 : i < 8) (hct : (al8 S).length ≤ 55) (hn : n < 8) : ∃ R', putS R (i : Int) (idxK r c t.pk) eB = (R', 0) ∧ IMid S t i c (n + 1) R' := by
  have hput := put_ok h8 M.idx (k := idxK r c t.pk) (v := eB) (by rw [idxK_size]; omega) (by show 0 ≤ 16; omega) (.inl (by have := M.ct; omega))
  have hlt : n < t.rows.length := by
    rcases Nat.lt_or_ge n t.rows.length with c | c
    · exact c
    · rw [List.getElem?_eq_none c] at hr; cases hr
  have htk : t.rows.take (n + 1) = t.rows.take n ++ [r] := by
    rw [List.take_succ_eq_append_getElem hlt]
    rw [List.getElem?_eq_getElem hlt] at hr
    rw [Option.some.inj hr]
  refine ⟨_, hput, ⟨by rw [updV_at, htk, idxL_snoc], fun j hj => by rw [updV_ne _ _ hj]; exact M.oth j hj, ?_⟩⟩
  have h4 := al8_upd R h8 (some (putL (idxK r c t.pk) eB (idxL t.pk c (t.rows.take n))))
  rw [M.idx] at h4
  simp only [Option.getD_some] at h4
  have h5 : ∀ (k v : ByteArray) (l : List KV), (putL k v l).length ≤ l.length + 1 := by
    intro k v l
    induction l with
    | nil => simp [putL]
    | cons e t ih2 => rw [putL]; split; simpa using ih2; split <;> simp
  have := h5 (idxK r c t.pk) eB (idxL t.pk c (t.rows.take n))
  have := M.ct
  omega
theorem IMid.done {t : Tb} {h : Hd} {i c : Nat} (M : IMid S t i c t.rows.length R) (L : Lay S T) (hx : (t, h) ∈ T) (h0 : S i = none) (hi1 : 1 ≤ i) (hi8 : i < 8) (hc : c < t.cols.length) (hcp : c ≠ t.pk) (hix : t.ix = none) :
    putS R (0 : Int) (catK t.nm 0) (hdT { h with ix := some c, idx := some i }) = (updV R 0 (some (catL (putBy (fun x : Tb × Hd => x.1.nm) ({ t with ix := some c }, { h with ix := some c, idx := some i }) T))), 0) ∧
    Lay (updV R 0 (some (catL (putBy (fun x : Tb × Hd => x.1.nm) ({ t with ix := some c }, { h with ix := some c, idx := some i }) T)))) (putBy (fun x : Tb × Hd => x.1.nm) ({ t with ix := some c }, { h with ix := some c, idx := some i }) T) ∧ HdOk { h with ix := some c, idx := some i } := by
  have ok := L.tb _ hx
  have hf := L.hd _ hx
  have hidx : h.idx = none := hf.ok.both.mp (by rw [hf.ix]; exact hix)
  have hfree := L.free h0
  have hR0 : R 0 = some (catL T) := by rw [M.oth 0 (by omega)]; exact L.cat
  have hhr : h.rows ≠ i := fun e => hfree (mem_hands.mpr ⟨_, hx, by simp [hnd, e]⟩)
  have hn : h.n = t.cols.length := hf.n
  have hpk : h.pk = t.pk := hf.pk
  have hok' : HdOk { h with ix := some c, idx := some i } := ⟨hf.ok.n1, hf.ok.n3, hf.ok.pk, fun c' e => by cases e; exact ⟨by rw [hn]; exact hc, by rw [hpk]; exact hcp⟩, hf.ok.r1, hf.ok.r8, fun c' e => by cases e; exact ⟨hi1, hi8, fun e => hhr e.symm⟩, by simp⟩
  have ok' : TbOk { t with ix := some c } := ⟨ok.nm, ok.cols, fun c' e => by cases e; exact ⟨hc, hcp⟩, ok.row, ok.srt, ok.len⟩
  have hm : ∀ {e : Tb × Hd}, e ∈ putBy (fun x : Tb × Hd => x.1.nm) ({ t with ix := some c }, { h with ix := some c, idx := some i }) T ↔ e = ({ t with ix := some c }, { h with ix := some c, idx := some i }) ∨ (e ∈ T ∧ e.1.nm ≠ t.nm) := putBy_iff _ L.srt
  have hcat : catL (putBy (fun x : Tb × Hd => x.1.nm) ({ t with ix := some c }, { h with ix := some c, idx := some i }) T) = putL (catK t.nm 0) (hdT { h with ix := some c, idx := some i }) (catL T) := by
    refine Srt.ext (catL_srt (fun y hy => ?_) (putBy_srt _ L.srt)) (putL_srt L.csrt) (fun e => ?_)
    · rcases hm.mp hy with rfl | h
      · exact ⟨ok.nm.2, ok.n3⟩
      · exact L.small y h.1
    · rw [L.csrt.put_iff, catL_mem, catL_mem]
      constructor
      · rintro ⟨y, hy, j, hj, rfl⟩
        rcases hm.mp hy with rfl | h
        · by_cases c0 : j = 0
          · subst c0; exact .inl rfl
          · refine .inr ⟨⟨(t, _), hx, j, hj, ?_⟩, fun e => ?_⟩
            · unfold catE part
              rw [if_neg c0, if_neg c0]
            · have hj3 : j ≤ t.cols.length := hj
              have n3 : t.cols.length ≤ 3 := ok.n3
              have := (catK_inj ok.nm.2 ok.nm.2 (by omega) (by omega) e).2
              omega
        · refine .inr ⟨⟨y, h.1, j, hj, rfl⟩, fun e => h.2 ?_⟩
          have hs := L.small y h.1
          exact (catK_inj hs.1 ok.nm.2 (by omega) (by omega) e).1
      · rintro (rfl | ⟨⟨y, hy, j, hj, rfl⟩, hne⟩)
        · exact ⟨_, hm.mpr (.inl rfl), 0, Nat.zero_le _, rfl⟩
        · by_cases d : y.1.nm = t.nm
          · obtain rfl := L.one hy hx d
            have c0 : j ≠ 0 := fun e => hne (by rw [e]; rfl)
            refine ⟨_, hm.mpr (.inl rfl), j, hj, ?_⟩
            unfold catE part
            rw [if_neg c0, if_neg c0]
          · exact ⟨y, hm.mpr (.inr ⟨hy, d⟩), j, hj, rfl⟩
  have hin : getL (catK t.nm 0) (catL T) ≠ none := fun c => getN_iff.mp c (catE (t, h) 0) (catL_mem.mpr ⟨_, hx, 0, Nat.zero_le _, rfl⟩) rfl
  refine ⟨?_, ?_, hok'⟩
  · rw [hcat]
    exact put_ok (i := 0) (by omega) hR0 (by rw [catK_size]; omega) (by rw [hdT_size]; omega) (.inr hin)
  · refine L.put ok' ⟨hn, hpk, rfl, hok'⟩ (by have := putBy_len_old (fun x : Tb × Hd => x.1.nm) (r := (({ t with ix := some c }, { h with ix := some c, idx := some i }) : Tb × Hd)) L.srt ⟨_, hx, rfl⟩; have := L.len; omega) (updV_at _ _ _) ?_ (fun c' j h1 h2 => ?_) (fun y hy hne j hj d => ?_) (fun y hy hne j hj => ?_) (fun j h1 h2 => ?_)
    · rw [updV_ne _ _ (by have : 1 ≤ h.rows := hf.ok.r1; show h.rows ≠ 0; omega), M.oth _ hhr]
      exact L.rows _ hx
    · cases h1
      cases h2
      rw [updV_ne _ _ (by omega), M.idx, List.take_of_length_le (Nat.le_refl _)]
    · unfold hnd at d
      rcases List.mem_cons.mp d with e | e
      · exact L.apart hy hx hne j hj h.rows (by simp [hnd]) e
      · have e : j = i := by simpa using e
        exact hfree (mem_hands.mpr ⟨y, hy, by rw [← e]; exact hj⟩)
    · have h1 := (hnd_pos (L.hd y hy) j hj).1
      have h2 : j ≠ i := fun e => hfree (mem_hands.mpr ⟨y, hy, by rw [← e]; exact hj⟩)
      rw [updV_ne _ _ (by omega), M.oth j h2]
    · rw [updV_ne _ _ h1] at h2
      by_cases d : j = i
      · exact .inl (by simp [hnd, d])
      · rw [M.oth j d] at h2
        obtain ⟨y, hy, hj⟩ := mem_hands.mp (L.used j h1 h2)
        by_cases e : y.1.nm = t.nm
        · obtain rfl := L.one hy hx e
          refine .inl ?_
          unfold hnd at hj ⊢
          rcases List.mem_cons.mp hj with f | f
          · simp [f]
          · simp [hidx] at f
        · exact .inr ⟨y, hy, e, hj⟩
end
end Go.Proofs.Qxb6500412aGreat
