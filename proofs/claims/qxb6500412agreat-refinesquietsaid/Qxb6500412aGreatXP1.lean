/-
  OWN WORK. TXN, plain: the order of the words; a table as a session sees it. No program in sight.
-/
import Derived.Test.Qxb6500412aGreatX18
namespace Go.Proofs.Qxb6500412aGreat
open Go.RowKit Go.PlainAid
set_option linter.unusedSimpArgs false
set_option linter.unusedVariables false

theorem vcmp_neg (a b : Vl) : vcmp b a = - vcmp a b := by
  unfold vcmp
  cases ha : a.str <;> cases hb : b.str <;> simp
  · by_cases c : a.i < b.i
    · rw [if_neg (by omega), if_pos c, if_pos c]; rfl
    · by_cases d : b.i < a.i
      · rw [if_pos d, if_neg c, if_pos d]
      · rw [if_neg d, if_neg c, if_neg c, if_neg d]; rfl
  · cases c : lt a.s b.s <;> cases d : lt b.s a.s <;> simp
    rw [lt_asymm c] at d
    cases d
theorem vcmp_refl (a : Vl) : vcmp a a = 0 := by have := vcmp_neg a a; omega
theorem vcmp_eq0 {a b : Vl} (ha : a.wf) (hb : b.wf) (h : vcmp a b = 0) : a = b := by
  obtain ⟨s, i, t⟩ := a
  obtain ⟨s', i', t'⟩ := b
  unfold vcmp at h
  unfold Vl.wf at ha hb
  cases s <;> cases s' <;> simp at h ha hb
  · by_cases c : i < i'
    · rw [if_pos c] at h; cases h
    · rw [if_neg c] at h
      by_cases d : i' < i
      · rw [if_pos d] at h; cases h
      · obtain rfl : i = i' := by omega
        rw [ha.1, hb.1]
  · rw [ha, hb]
    cases c : lt t t' <;> rw [c] at h <;> simp at h
    rcases lt_total t t' with e | e | e
    · rw [c] at e; cases e
    · rw [e]
    · rw [e] at h; simp at h
theorem vcmp_tr {a b c : Vl} (h1 : vcmp a b < 0) (h2 : vcmp b c < 0) : vcmp a c < 0 := by
  unfold vcmp at *
  cases ha : a.str <;> cases hb : b.str <;> cases hc : c.str <;> simp [ha, hb, hc] at h1 h2 ⊢
  · have e1 : a.i < b.i := by
      by_cases x : a.i < b.i
      · exact x
      · rw [if_neg x] at h1
        split at h1 <;> simp at h1
    have e2 : b.i < c.i := by
      by_cases x : b.i < c.i
      · exact x
      · rw [if_neg x] at h2
        split at h2 <;> simp at h2
    rw [if_pos (by omega)]; omega
  · have e1 : lt a.s b.s = true := by
      cases x : lt a.s b.s with
      | true => rfl
      | false => rw [x] at h1; simp at h1; split at h1 <;> simp at h1
    have e2 : lt b.s c.s = true := by
      cases x : lt b.s c.s with
      | true => rfl
      | false => rw [x] at h2; simp at h2; split at h2 <;> simp at h2
    rw [if_pos (lt_trans e1 e2)]; omega
theorem side_neg (a b : Wd) : sideP b.tab b.key a = - sideP a.tab a.key b := by
  unfold sideP
  cases c : lt a.tab b.tab with
  | true =>
    rw [lt_asymm c]
    simp
  | false =>
    cases d : lt b.tab a.tab with
    | true => simp
    | false =>
      simp
      exact vcmp_neg _ _
theorem side_zero {tab : ByteArray} {key : Vl} {d : Wd} (hk : key.wf) (hd : d.key.wf) : sideP tab key d = 0 ↔ tab = d.tab ∧ key = d.key := by
  unfold sideP
  constructor
  · intro h
    cases c : lt tab d.tab with
    | true => rw [c] at h; simp at h
    | false =>
      rw [c] at h
      cases e : lt d.tab tab with
      | true => rw [e] at h; simp at h
      | false =>
        rw [e] at h
        simp at h
        refine ⟨?_, vcmp_eq0 hk hd h⟩
        rcases lt_total tab d.tab with x | x | x
        · rw [c] at x; cases x
        · exact x
        · rw [e] at x; cases x
  · rintro ⟨rfl, rfl⟩
    rw [lt_irr]
    simp
    exact vcmp_refl _
theorem side_cmp {a b : Wd} (h : sideP a.tab a.key b < 0) : lt a.tab b.tab = true ∨ (a.tab = b.tab ∧ vcmp a.key b.key < 0) := by
  unfold sideP at h
  cases c : lt a.tab b.tab with
  | true => exact .inl rfl
  | false =>
    rw [c] at h
    cases d : lt b.tab a.tab with
    | true => rw [d] at h; simp at h
    | false =>
      rw [d] at h
      simp at h
      refine .inr ⟨?_, h⟩
      rcases lt_total a.tab b.tab with x | x | x
      · rw [c] at x; cases x
      · exact x
      · rw [d] at x; cases x
theorem side_of {a b : Wd} (h : lt a.tab b.tab = true ∨ (a.tab = b.tab ∧ vcmp a.key b.key < 0)) : sideP a.tab a.key b < 0 := by
  unfold sideP
  rcases h with h | ⟨h, h2⟩
  · rw [if_pos h]; omega
  · rw [h, lt_irr]
    simpa using h2
theorem side_tr {a b c : Wd} (h1 : sideP a.tab a.key b < 0) (h2 : sideP b.tab b.key c < 0) : sideP a.tab a.key c < 0 := by
  apply side_of
  rcases side_cmp h1 with e1 | ⟨e1, f1⟩ <;> rcases side_cmp h2 with e2 | ⟨e2, f2⟩
  · exact .inl (lt_trans e1 e2)
  · rw [← e2]; exact .inl e1
  · rw [e1]; exact .inl e2
  · exact .inr ⟨e1.trans e2, vcmp_tr f1 f2⟩
/-- The words rise. -/
def WUp (l : List WCh) : Prop := l.Pairwise (fun a b => sideP a.d.tab a.d.key b.d < 0)
/-- A word that is sound against its table. -/
structure WdOk (t : Tb) (d : Wd) : Prop where
  wf : d.key.wf
  key : chkKey t d.key = 0
  gone : d.gone = true → d.row = [] ∧ ∃ r ∈ t.rows, pkK t.pk r = cV d.key
  row : d.gone = false → RowOk t.cols d.row ∧ kyR t.pk d.row = d.key
/-- A database as the store shows it. -/
structure DGd (D : Db) : Prop where
  tb : ∀ t ∈ D, TbOk t
  srt : D.Pairwise (fun a b => lt a.nm b.nm = true)
  len : D.length ≤ 3
theorem DGd.one {D : Db} (G : DGd D) {a b : Tb} (ha : a ∈ D) (hb : b ∈ D) (e : a.nm = b.nm) : a = b := by_key (fun t : Tb => t.nm) G.srt ha hb e
theorem DGd.find {D : Db} (G : DGd D) {t : Tb} (ht : t ∈ D) : findD D t.nm = some t := by
  unfold findD
  cases c : D.find? (fun x => decide (x.nm = t.nm)) with
  | none =>
    have := List.find?_eq_none.mp c t ht
    simp at this
  | some y =>
    have h1 := List.mem_of_find?_eq_some c
    have h2 := List.find?_some c
    rw [G.one h1 ht (by simpa using h2)]
theorem findD_mem {D : Db} {nm : ByteArray} {t : Tb} (h : findD D nm = some t) : t ∈ D ∧ t.nm = nm := by
  unfold findD at h
  exact ⟨List.mem_of_find?_eq_some h, by simpa using List.find?_some h⟩
theorem findD_none {D : Db} {nm : ByteArray} (h : findD D nm = none) {t : Tb} (ht : t ∈ D) : t.nm ≠ nm := by
  unfold findD at h
  simpa using List.find?_eq_none.mp h t ht
structure WsOk (l : List WCh) (D : Db) : Prop where
  up : WUp l
  ok : ∀ c ∈ l, ∃ t ∈ D, t.nm = c.d.tab ∧ WdOk t c.d
theorem WsOk.at {l : List WCh} {D : Db} (h : WsOk l D) (G : DGd D) {t : Tb} (ht : t ∈ D) {c : WCh} (hc : c ∈ l) (hn : c.d.tab = t.nm) : WdOk t c.d := by
  obtain ⟨u, hu, e, k⟩ := h.ok c hc
  rw [G.one ht hu (by rw [e, hn])]
  exact k
theorem TbOk.pkc {t : Tb} (ok : TbOk t) : ∃ cl, t.cols[t.pk]? = some cl := ⟨t.cols[t.pk]'ok.pkn, List.getElem?_eq_getElem ok.pkn⟩
theorem WdOk.fit {t : Tb} {d : Wd} (h : WdOk t d) : d.key.fit ∧ d.key.str = ((t.cols[t.pk]?).getD (eB, false)).2 := chkVal_ok h.key h.wf
theorem RowOk.pk {t : Tb} (ok : TbOk t) {r : List Vl} (h : RowOk t.cols r) : (kyR t.pk r).fit ∧ (kyR t.pk r).str = ((t.cols[t.pk]?).getD (eB, false)).2 ∧ r[t.pk]? = some (kyR t.pk r) := by
  have hl : t.pk < r.length := by rw [h.len]; exact ok.pkn
  have e : r[t.pk]? = some (r[t.pk]'hl) := List.getElem?_eq_getElem hl
  have ek : kyR t.pk r = r[t.pk]'hl := by unfold kyR; rw [e]; rfl
  rw [ek]
  refine ⟨h.2 _ (List.getElem_mem hl), ?_, e⟩
  have := congrArg (fun l : List Bool => l[t.pk]?) h.1
  simp only [List.getElem?_map] at this
  rw [e] at this
  obtain ⟨cl, hc⟩ := ok.pkc
  rw [hc] at this ⊢
  simpa using this
/-- A table's rows with the words said. -/
def see1 (nm : ByteArray) (pk : Nat) (R : List (List Vl)) (c : WCh) : List (List Vl) := if c.d.tab = nm then (if c.d.gone = true then R.filter (fun r => decide (pkK pk r ≠ cV c.d.key)) else putBy (pkK pk) c.d.row R) else R
def seeR (l : List WCh) (nm : ByteArray) (pk : Nat) (rows : List (List Vl)) : List (List Vl) := l.foldl (see1 nm pk) rows
def seeT (l : List WCh) (t : Tb) : Tb := withR t (seeR l t.nm t.pk t.rows)
def seeD (l : List WCh) (D : Db) : Db := D.map (seeT l)
theorem see1_srt {nm : ByteArray} {pk : Nat} {R : List (List Vl)} (c : WCh) (h : R.Pairwise (fun a b => lt (pkK pk a) (pkK pk b) = true)) : (see1 nm pk R c).Pairwise (fun a b => lt (pkK pk a) (pkK pk b) = true) := by
  unfold see1
  split
  · split
    · exact h.filter _
    · exact putBy_srt _ h
  · exact h
theorem seeR_srt {nm : ByteArray} {pk : Nat} : ∀ (l : List WCh) {R : List (List Vl)}, R.Pairwise (fun a b => lt (pkK pk a) (pkK pk b) = true) → (seeR l nm pk R).Pairwise (fun a b => lt (pkK pk a) (pkK pk b) = true)
  | [], R, h => h
  | c :: l, R, h => seeR_srt l (see1_srt c h)
/-- What the membership wants of the words. -/
structure WLoc (l : List WCh) (nm : ByteArray) (pk : Nat) : Prop where
  ne : l.Pairwise (fun a b => a.d.tab = nm → b.d.tab = nm → cV a.d.key ≠ cV b.d.key)
  row : ∀ c ∈ l, c.d.tab = nm → c.d.gone = false → pkK pk c.d.row = cV c.d.key
theorem seeR_mem {nm : ByteArray} {pk : Nat} : ∀ (l : List WCh) {R : List (List Vl)}, WLoc l nm pk → R.Pairwise (fun a b => lt (pkK pk a) (pkK pk b) = true) → ∀ r, r ∈ seeR l nm pk R ↔ (∃ c ∈ l, c.d.tab = nm ∧ c.d.gone = false ∧ c.d.row = r) ∨ (r ∈ R ∧ ∀ c ∈ l, c.d.tab = nm → cV c.d.key ≠ pkK pk r)
  | [], R, _, _, r => by simp [seeR]
  | c :: l, R, hl, hs, r => by
    have hn := List.pairwise_cons.mp hl.ne
    have hl2 : WLoc l nm pk := ⟨hn.2, fun x hx => hl.row x (List.mem_cons_of_mem _ hx)⟩
    have ih := seeR_mem l hl2 (see1_srt (nm := nm) c hs) r
    have e : seeR (c :: l) nm pk R = seeR l nm pk (see1 nm pk R c) := rfl
    rw [e, ih]
    have key : r ∈ see1 nm pk R c ∧ (∀ x ∈ l, x.d.tab = nm → cV x.d.key ≠ pkK pk r) ↔ (c.d.tab = nm ∧ c.d.gone = false ∧ c.d.row = r) ∨ (r ∈ R ∧ ∀ x ∈ c :: l, x.d.tab = nm → cV x.d.key ≠ pkK pk r) := by
      unfold see1
      by_cases ht : c.d.tab = nm
      · rw [if_pos ht]
        cases hg : c.d.gone with
        | true =>
          simp only [if_true, List.mem_filter, decide_eq_true_eq]
          constructor
          · rintro ⟨⟨h1, h2⟩, h3⟩
            refine .inr ⟨h1, fun x hx hxt => ?_⟩
            rcases List.mem_cons.mp hx with rfl | hx
            · exact fun e => h2 e.symm
            · exact h3 x hx hxt
          · rintro (⟨_, h, _⟩ | ⟨h1, h2⟩)
            · cases h
            · exact ⟨⟨h1, fun e => h2 c (by simp) ht e.symm⟩, fun x hx => h2 x (List.mem_cons_of_mem _ hx)⟩
        | false =>
          have hp := hl.row c (by simp) ht hg
          simp only [Bool.false_eq_true, if_false]
          rw [putBy_iff _ hs]
          constructor
          · rintro ⟨rfl | ⟨h1, h2⟩, h3⟩
            · exact .inl ⟨ht, by trivial, rfl⟩
            · refine .inr ⟨h1, fun x hx hxt => ?_⟩
              rcases List.mem_cons.mp hx with rfl | hx
              · rw [← hp]; exact fun e => h2 e.symm
              · exact h3 x hx hxt
          · rintro (⟨_, _, rfl⟩ | ⟨h1, h2⟩)
            · refine ⟨.inl rfl, fun x hx hxt => ?_⟩
              rw [hp]
              exact fun e => hn.1 x hx ht hxt e.symm
            · exact ⟨.inr ⟨h1, fun e => h2 c (by simp) ht (by rw [e, hp])⟩, fun x hx => h2 x (List.mem_cons_of_mem _ hx)⟩
      · rw [if_neg ht]
        constructor
        · rintro ⟨h1, h2⟩
          refine .inr ⟨h1, fun x hx hxt => ?_⟩
          rcases List.mem_cons.mp hx with rfl | hx
          · exact absurd hxt ht
          · exact h2 x hx hxt
        · rintro (⟨h, _⟩ | ⟨h1, h2⟩)
          · exact absurd h ht
          · exact ⟨h1, fun x hx => h2 x (List.mem_cons_of_mem _ hx)⟩
    rw [key]
    constructor
    · rintro (⟨x, hx, h⟩ | h | h)
      · exact .inl ⟨x, List.mem_cons_of_mem _ hx, h⟩
      · exact .inl ⟨c, by simp, h⟩
      · exact .inr h
    · rintro (⟨x, hx, h⟩ | h)
      · rcases List.mem_cons.mp hx with rfl | hx
        · exact .inr (.inl h)
        · exact .inl ⟨x, hx, h⟩
      · exact .inr (.inr h)
section
variable {l : List WCh} {D : Db} {t : Tb}
theorem WsOk.loc (h : WsOk l D) (G : DGd D) (ht : t ∈ D) : WLoc l t.nm t.pk := by
  refine ⟨?_, fun c hc hn hg => ?_⟩
  · refine h.up.imp_of_mem ?_
    intro a b ha hb hab hta htb e
    have ka := h.at G ht ha hta
    have kb := h.at G ht hb htb
    have e2 := cV_inj ka.fit.1 kb.fit.1 (by rw [ka.fit.2, kb.fit.2]) e
    have := (side_zero (d := b.d) ka.wf kb.wf).mpr ⟨hta.trans htb.symm, e2⟩
    omega
  · have k := h.at G ht hc hn
    unfold pkK
    rw [(k.row hg).2]
theorem WsOk.mem (h : WsOk l D) (G : DGd D) (ht : t ∈ D) (r : List Vl) : r ∈ (seeT l t).rows ↔ (∃ c ∈ l, c.d.tab = t.nm ∧ c.d.gone = false ∧ c.d.row = r) ∨ (r ∈ t.rows ∧ ∀ c ∈ l, c.d.tab = t.nm → cV c.d.key ≠ pkK t.pk r) :=
  seeR_mem l (h.loc G ht) (G.tb t ht).srt r
theorem WsOk.row (h : WsOk l D) (G : DGd D) (ht : t ∈ D) {r : List Vl} (hr : r ∈ (seeT l t).rows) : RowOk t.cols r := by
  rcases (h.mem G ht r).mp hr with ⟨c, hc, hn, hg, rfl⟩ | ⟨h1, _⟩
  · exact ((h.at G ht hc hn).row hg).1
  · exact (G.tb t ht).row r h1
theorem WsOk.tb (h : WsOk l D) (G : DGd D) (ht : t ∈ D) (h8 : (seeT l t).rows.length ≤ 8) : TbOk (seeT l t) :=
  ⟨(G.tb t ht).nm, (G.tb t ht).cols, (G.tb t ht).ix, fun r hr => h.row G ht hr, seeR_srt l (G.tb t ht).srt, h8⟩
/-- The words are sound, and the session sees no more rows than a table may hold. -/
structure WsG (l : List WCh) (D : Db) : Prop where
  o : WsOk l D
  len : ∀ t ∈ D, (seeT l t).rows.length ≤ 8
theorem WsG.nil (G : DGd D) : WsG [] D := ⟨⟨List.Pairwise.nil, fun c h => by simp at h⟩, fun t ht => (G.tb t ht).len⟩
theorem WsG.see (h : WsG l D) (G : DGd D) : DGd (seeD l D) := by
  refine ⟨fun u hu => ?_, ?_, by unfold seeD; rw [List.length_map]; exact G.len⟩
  · obtain ⟨t, ht, rfl⟩ := List.mem_map.mp hu
    exact h.o.tb G ht (h.len t ht)
  · unfold seeD
    rw [List.pairwise_map]
    exact G.srt
theorem seeT_nil (t : Tb) : seeT [] t = t := rfl
theorem seeD_nil (D : Db) : seeD [] D = D := by
  unfold seeD
  induction D with
  | nil => rfl
  | cons a r ih => rw [List.map_cons, ih]; rfl
/-- No word on the table: it is seen as it is. -/
theorem seeR_none {nm : ByteArray} {pk : Nat} : ∀ (l : List WCh) (R : List (List Vl)), (∀ c ∈ l, c.d.tab ≠ nm) → seeR l nm pk R = R
  | [], R, _ => rfl
  | c :: l, R, h => by
    have e : seeR (c :: l) nm pk R = seeR l nm pk (see1 nm pk R c) := rfl
    rw [e]
    unfold see1
    rw [if_neg (h c (by simp))]
    exact seeR_none l R (fun x hx => h x (List.mem_cons_of_mem _ hx))
theorem seeT_none (h : ∀ c ∈ l, c.d.tab ≠ t.nm) : seeT l t = t := by
  unfold seeT
  rw [seeR_none l t.rows h]
  rfl
theorem seeD_find (nm : ByteArray) : findD (seeD l D) nm = (findD D nm).map (seeT l) := by
  unfold findD seeD
  rw [List.find?_map]
  rfl
/-- The session has a word on the key: the word. -/
theorem WUp.first (h : WUp l) {tab : ByteArray} {key : Vl} (hk : key.wf) (hw : ∀ c ∈ l, c.d.key.wf) {c : WCh} (hc : c ∈ l) (ht : c.d.tab = tab) (he : c.d.key = key) : l.find? (fun c => decide (sideP tab key c.d ≤ 0)) = some c := by
  induction l with
  | nil => simp at hc
  | cons x r ih =>
    have hp := List.pairwise_cons.mp h
    rw [List.find?_cons]
    rcases List.mem_cons.mp hc with rfl | hc'
    · have := (side_zero (d := c.d) hk (hw c (by simp))).mpr ⟨ht.symm, he.symm⟩
      rw [this]
      simp
    · have h1 := hp.1 c hc'
      have h2 := side_neg x.d c.d
      rw [ht, he] at h2
      have : sideP tab key x.d > 0 := by omega
      rw [show decide (sideP tab key x.d ≤ 0) = false from decide_eq_false (by omega)]
      exact ih hp.2 (fun y hy => hw y (List.mem_cons_of_mem _ hy)) hc'
/-- The session's word, if it has one. -/
theorem WUp.none_or (h : WUp l) {tab : ByteArray} {key : Vl} (hk : key.wf) (hw : ∀ c ∈ l, c.d.key.wf) : (∃ c ∈ l, c.d.tab = tab ∧ c.d.key = key ∧ l.find? (fun c => decide (sideP tab key c.d ≤ 0)) = some c ∧ sideP tab key c.d = 0) ∨ ((∀ c ∈ l, ¬ (c.d.tab = tab ∧ c.d.key = key)) ∧ ∀ c, l.find? (fun c => decide (sideP tab key c.d ≤ 0)) = some c → sideP tab key c.d ≠ 0) := by
  by_cases e : ∃ c ∈ l, c.d.tab = tab ∧ c.d.key = key
  · obtain ⟨c, hc, h1, h2⟩ := e
    exact .inl ⟨c, hc, h1, h2, h.first hk hw hc h1 h2, (side_zero hk (hw c hc)).mpr ⟨h1.symm, h2.symm⟩⟩
  · refine .inr ⟨fun c hc hh => e ⟨c, hc, hh⟩, fun c hf h0 => ?_⟩
    have hc := List.mem_of_find?_eq_some hf
    obtain ⟨h1, h2⟩ := (side_zero hk (hw c hc)).mp h0
    exact e ⟨c, hc, h1.symm, h2.symm⟩
theorem WsOk.wf (h : WsOk l D) : ∀ c ∈ l, c.d.key.wf := fun c hc => by
  obtain ⟨t, _, _, k⟩ := h.ok c hc
  exact k.wf
theorem WUp.hit (h : WUp l) {tab : ByteArray} {key : Vl} (hk : key.wf) (hw : ∀ c ∈ l, c.d.key.wf) : hitQ l tab key = true ↔ ∃ c ∈ l, c.d.tab = tab ∧ c.d.key = key := by
  unfold hitQ
  rcases h.none_or (tab := tab) hk hw with ⟨c, hc, h1, h2, hf, h0⟩ | ⟨hn, hf⟩
  · rw [hf]
    simp only [h0, decide_true, true_iff]
    exact ⟨c, hc, h1, h2⟩
  · constructor
    · intro hh
      cases e : l.find? (fun c => decide (sideP tab key c.d ≤ 0)) with
      | none => rw [e] at hh; cases hh
      | some c =>
        rw [e] at hh
        exact absurd (of_decide_eq_true hh) (hf c e)
    · rintro ⟨c, hc, h1, h2⟩
      exact absurd ⟨h1, h2⟩ (hn c hc)
end
end Go.Proofs.Qxb6500412aGreat
