/-
  OWN WORK. TXN, plain: what a session's Lookup, Scan and View show: the table with the words said. No program in sight.
-/
import Derived.Test.Qxb6500412aGreatXP1
namespace Go.Proofs.Qxb6500412aGreat
open Go.RowKit Go.PlainAid
set_option linter.unusedSimpArgs false
set_option linter.unusedVariables false

section
variable {l : List WCh} {D : Db} {t : Tb}
theorem fnd_iff' {rows : List (List Vl)} {pk : Nat} (hs : rows.Pairwise (fun a b => lt (pkK pk a) (pkK pk b) = true)) (k : ByteArray) (r : List Vl) : rows.find? (fun r => decide (pkK pk r = k)) = some r ↔ r ∈ rows ∧ pkK pk r = k := by
  constructor
  · intro h
    exact ⟨List.mem_of_find?_eq_some h, by simpa using List.find?_some h⟩
  · rintro ⟨h1, h2⟩
    cases c : rows.find? (fun r => decide (pkK pk r = k)) with
    | none => have := List.find?_eq_none.mp c r h1; simp [h2] at this
    | some y =>
      have h3 := List.mem_of_find?_eq_some c
      have h4 : pkK pk y = k := by simpa using List.find?_some c
      rw [by_key (pkK pk) hs h3 h1 (by rw [h4, h2])]
theorem fnd_eq {rows rows' : List (List Vl)} {pk : Nat} (hs : rows.Pairwise (fun a b => lt (pkK pk a) (pkK pk b) = true)) (hs' : rows'.Pairwise (fun a b => lt (pkK pk a) (pkK pk b) = true)) {k : ByteArray} (h : ∀ r, pkK pk r = k → (r ∈ rows ↔ r ∈ rows')) : rows.find? (fun r => decide (pkK pk r = k)) = rows'.find? (fun r => decide (pkK pk r = k)) := by
  cases c : rows.find? (fun r => decide (pkK pk r = k)) with
  | some r =>
    obtain ⟨h1, h2⟩ := (fnd_iff' hs k r).mp c
    exact ((fnd_iff' hs' k r).mpr ⟨(h r h2).mp h1, h2⟩).symm
  | none =>
    cases c' : rows'.find? (fun r => decide (pkK pk r = k)) with
    | none => rfl
    | some r =>
      obtain ⟨h1, h2⟩ := (fnd_iff' hs' k r).mp c'
      rw [(fnd_iff' hs k r).mpr ⟨(h r h2).mpr h1, h2⟩] at c
      cases c
theorem seeT_chk (key : Vl) : chkKey (seeT l t) key = chkKey t key := rfl
/-- Two words on one key of a table are one. -/
theorem WsOk.same (h : WsOk l D) (G : DGd D) (ht : t ∈ D) {a b : WCh} (ha : a ∈ l) (hb : b ∈ l) (h1 : a.d.tab = t.nm) (h2 : b.d.tab = t.nm) (e : cV a.d.key = cV b.d.key) : a = b := by
  rcases pw_mem (h.loc G ht).ne ha hb with c | c | c
  · exact c
  · exact absurd e (c h1 h2)
  · exact absurd e.symm (c h2 h1)
/-- A Lookup. -/
theorem lk_see (h : WsOk l D) (G : DGd D) (nm : ByteArray) {key : Vl} (hk : key.wf) : lkP l D nm key = lkpD (seeD l D) nm key := by
  unfold lkP lkpD
  rw [seeD_find]
  cases hf : findD D nm with
  | none =>
    rcases h.up.none_or (tab := nm) hk h.wf with ⟨c, hc, h1, h2, hfd, h0⟩ | ⟨hn, hfd⟩
    · obtain ⟨u, hu, e, _⟩ := h.ok c hc
      exact absurd (e.trans h1) (findD_none hf hu)
    · cases e : l.find? (fun c => decide (sideP nm key c.d ≤ 0)) with
      | none => rfl
      | some c => simp only [hfd c e, if_false]; rfl
  | some t =>
    obtain ⟨ht, rfl⟩ := findD_mem hf
    have ok := G.tb t ht
    simp only [Option.map_some]
    rcases h.up.none_or (tab := t.nm) hk h.wf with ⟨c, hc, h1, h2, hfd, h0⟩ | ⟨hn, hfd⟩
    · have k := h.at G ht hc h1
      rw [hfd]
      simp only [h0, if_true]
      unfold lkpR
      have hck : ¬ (chkKey t c.d.key ≠ 0) := by rw [k.key]; simp
      rw [seeT_chk, ← h2, if_neg hck]
      unfold fndK
      cases hg : c.d.gone with
      | true =>
        have hnone : (seeT l t).rows.find? (fun r => decide (pkK (seeT l t).pk r = cV c.d.key)) = none := by
          rw [List.find?_eq_none]
          intro r hr
          simp only [decide_eq_true_eq]
          intro e
          rcases (h.mem G ht r).mp hr with ⟨c', hc', h1', hg', rfl⟩ | ⟨_, hx⟩
          · have e2 := (h.loc G ht).row c' hc' h1' hg'
            have : c' = c := h.same G ht hc' hc h1' h1 (by rw [← e2]; exact e)
            rw [this, hg] at hg'
            cases hg'
          · exact hx c hc h1 e.symm
        rw [hnone]
        simp
      | false =>
        have hsome := (fnd_iff' (seeR_srt (nm := t.nm) l ok.srt) (cV c.d.key) c.d.row).mpr ⟨(h.mem G ht c.d.row).mpr (.inl ⟨c, hc, h1, hg, rfl⟩), (h.loc G ht).row c hc h1 hg⟩
        have hsome2 : (seeT l t).rows.find? (fun r => decide (pkK (seeT l t).pk r = cV c.d.key)) = some c.d.row := hsome
        rw [hsome2]
        simp
    · have hgo : (match l.find? (fun c => decide (sideP t.nm key c.d ≤ 0)) with
          | none => lkpR t key
          | some c => if sideP t.nm key c.d = 0 then (if c.d.gone = true then (([] : List Vl), (9 : Int)) else (c.d.row, 0)) else lkpR t key) = lkpR t key := by
        cases e : l.find? (fun c => decide (sideP t.nm key c.d ≤ 0)) with
        | none => rfl
        | some c => simp only [hfd c e, if_false]
      refine hgo.trans ?_
      unfold lkpR
      rw [seeT_chk]
      by_cases hc : chkKey t key = 0
      · rw [if_neg (by rw [hc]; simp), if_neg (by rw [hc]; simp)]
        have hkf := chkVal_ok hc hk
        have e : fndK t (cV key) = fndK (seeT l t) (cV key) := by
          refine fnd_eq ok.srt (seeR_srt (nm := t.nm) l ok.srt) (fun r hr => ?_)
          have hm := h.mem G ht r
          have hm2 : r ∈ seeR l t.nm t.pk t.rows ↔ _ := hm
          rw [hm2]
          constructor
          · intro hr1
            refine .inr ⟨hr1, fun c hc hct e => ?_⟩
            have k := h.at G ht hc hct
            rw [hr] at e
            exact hn c hc ⟨hct, cV_inj k.fit.1 hkf.1 (by rw [k.fit.2, hkf.2]) e⟩
          · rintro (⟨c, hc, hct, hg, rfl⟩ | ⟨h1, _⟩)
            · have k := h.at G ht hc hct
              have e := (h.loc G ht).row c hc hct hg
              rw [hr] at e
              exact absurd ⟨hct, cV_inj k.fit.1 hkf.1 (by rw [k.fit.2, hkf.2]) e.symm⟩ (hn c hc)
            · exact h1
        rw [e]
      · rw [if_pos hc, if_pos hc]
theorem hasP_lk (l : List WCh) (D : Db) (nm : ByteArray) (key : Vl) : hasP l D nm key = decide ((lkP l D nm key).2 = 0) := by
  unfold hasP lkP blwP
  cases l.find? (fun c => decide (sideP nm key c.d ≤ 0)) with
  | none => rfl
  | some c =>
    dsimp only
    by_cases e : sideP nm key c.d = 0
    · simp only [e, if_true]
      cases c.d.gone <;> simp
    · simp only [e, if_false]
theorem has_see (h : WsOk l D) (G : DGd D) (nm : ByteArray) {key : Vl} (hk : key.wf) : hasP l D nm key = decide ((lkpD (seeD l D) nm key).2 = 0) := by rw [hasP_lk, lk_see h G nm hk]
theorem atV_ky (r : List Vl) (c : Nat) : atV r (c : Int) = kyR c r := by
  unfold atV kyR
  rw [if_pos (by omega)]
  rfl
/-- A row put in at its place from the back. -/
theorem insJ_spec (f : List Vl → Bool) (out : List (List Vl)) : ∀ n, n ≤ out.length → (∀ i r, insJ f out n ≤ i → i < n → out[i]? = some r → f r = true) ∧ (insJ f out n = 0 ∨ ∃ r, out[insJ f out n - 1]? = some r ∧ f r = false)
  | 0, _ => ⟨fun i r _ h => by omega, .inl rfl⟩
  | n + 1, hn => by
    unfold insJ
    obtain ⟨x, hx⟩ : ∃ x, out[n]? = some x := getE (by omega)
    rw [hx]
    simp only [Option.getD_some]
    by_cases c : f x = true
    · rw [if_pos c]
      obtain ⟨h1, h2⟩ := insJ_spec f out n (by omega)
      refine ⟨fun i r hi hl hr => ?_, h2⟩
      by_cases e : i = n
      · subst e
        rw [hx] at hr
        obtain rfl := Option.some.inj hr
        exact c
      · exact h1 i r hi (by omega) hr
    · rw [if_neg c]
      exact ⟨fun i r hi hl => by omega, .inr ⟨x, by simpa using hx, by simpa using c⟩⟩
theorem insA_mem (f : List Vl → Bool) (r : List Vl) (out : List (List Vl)) (x : List Vl) : x ∈ insA f r out ↔ x = r ∨ x ∈ out := by
  unfold insA
  have : x ∈ out ↔ x ∈ out.take (insJ f out out.length) ∨ x ∈ out.drop (insJ f out out.length) := by
    rw [← List.mem_append, List.take_append_drop]
  rw [this, List.mem_append, List.mem_cons]
  constructor
  · rintro (h | h | h)
    · exact .inr (.inl h)
    · exact .inl h
    · exact .inr (.inr h)
  · rintro (h | h | h)
    · exact .inr (.inl h)
    · exact .inl h
    · exact .inr (.inr h)
theorem insA_srt {F : List Vl → ByteArray} {f : List Vl → Bool} {r : List Vl} {out : List (List Vl)} (hs : out.Pairwise (fun a b => lt (F a) (F b) = true)) (hf : ∀ b ∈ out, f b = lt (F r) (F b)) (hne : ∀ b ∈ out, F r ≠ F b) : (insA f r out).Pairwise (fun a b => lt (F a) (F b) = true) := by
  obtain ⟨h1, h2⟩ := insJ_spec f out out.length (Nat.le_refl _)
  have hle := insJ_le f out out.length
  unfold insA
  generalize insJ f out out.length = j at *
  have htk : ∀ a ∈ out.take j, lt (F a) (F r) = true := by
    intro a ha
    obtain ⟨i, hi⟩ := List.getElem?_of_mem ha
    rw [List.getElem?_take] at hi
    by_cases hij : i < j
    · rw [if_pos hij] at hi
      rcases h2 with h2 | ⟨b, hb, hfb⟩
      · omega
      · have hbm : b ∈ out := List.mem_of_getElem? hb
        have ham : a ∈ out := List.mem_of_getElem? hi
        have hbr : lt (F b) (F r) = true := by
          rw [hf b hbm] at hfb
          rcases lt_total (F r) (F b) with e | e | e
          · rw [hfb] at e; cases e
          · exact absurd e (hne b hbm)
          · exact e
        by_cases e : i = j - 1
        · subst e
          rw [hb] at hi
          obtain rfl := Option.some.inj hi
          exact hbr
        · have hi' := (List.getElem?_eq_some_iff.mp hi)
          have hb' := (List.getElem?_eq_some_iff.mp hb)
          have := List.pairwise_iff_getElem.mp hs i (j - 1) hi'.1 hb'.1 (by omega)
          rw [hi'.2, hb'.2] at this
          exact lt_trans this hbr
    · rw [if_neg hij] at hi; cases hi
  have hdr : ∀ b ∈ out.drop j, lt (F r) (F b) = true := by
    intro b hb
    obtain ⟨i, hi⟩ := List.getElem?_of_mem hb
    rw [List.getElem?_drop] at hi
    have hbm : b ∈ out := List.mem_of_getElem? hi
    rw [← hf b hbm]
    exact h1 (j + i) b (by omega) (List.getElem?_eq_some_iff.mp hi).1 hi
  rw [List.pairwise_append]
  refine ⟨hs.sublist (List.take_sublist _ _), List.pairwise_cons.mpr ⟨hdr, hs.sublist (List.drop_sublist _ _)⟩, ?_⟩
  intro a ha b hb
  rcases List.mem_cons.mp hb with rfl | hb
  · exact htk a ha
  · exact lt_trans (htk a ha) (hdr b hb)
theorem row_cols {c : List Cl} {r : List Vl} (h : RowOk c r) {k : Nat} {cl : Cl} (hc : c[k]? = some cl) : (kyR k r).fit ∧ (kyR k r).str = cl.2 := by
  have hl : k < r.length := by rw [h.len]; exact (List.getElem?_eq_some_iff.mp hc).1
  have e : r[k]? = some (r[k]'hl) := List.getElem?_eq_getElem hl
  have ek : kyR k r = r[k]'hl := by unfold kyR; rw [e]; rfl
  rw [ek]
  refine ⟨h.2 _ (List.getElem_mem hl), ?_⟩
  have := congrArg (fun l : List Bool => l[k]?) h.1
  simp only [List.getElem?_map] at this
  rw [e, hc] at this
  simpa using this
/-- Ahead in the scan's order: by the codes. -/
theorem ahd_code (ok : TbOk t) {k : Nat} {cl : Cl} (hc : t.cols[k]? = some cl) {a b : List Vl} (ha : RowOk t.cols a) (hb : RowOk t.cols b) : ahdP a b (k : Int) (t.pk : Int) = lt (scnF t k a) (scnF t k b) := by
  unfold ahdP
  rw [atV_ky, atV_ky, atV_ky, atV_ky]
  obtain ⟨fa, sa⟩ := row_cols ha hc
  obtain ⟨fb, sb⟩ := row_cols hb hc
  obtain ⟨pa, qa, _⟩ := ha.pk ok
  obtain ⟨pb, qb, _⟩ := hb.pk ok
  have e1 := cV_lt fa fb (by rw [sa, sb])
  have e2 := cV_lt pa pb (by rw [qa, qb])
  unfold scnF
  by_cases hp : k = t.pk
  · rw [if_pos hp, if_pos hp]
    subst hp
    unfold pkK
    rw [e1]
    by_cases z : vcmp (kyR t.pk a) (kyR t.pk b) = 0
    · rw [if_neg (by simp [z]), z]
    · rw [if_pos z]
  · rw [if_neg hp, if_neg hp, idxK_lt, e1, e2]
    by_cases z : vcmp (kyR k a) (kyR k b) = 0
    · rw [if_neg (by simp [z]), z, vcmp_eq0 fa.1 fb.1 z]
      simp
    · rw [if_pos z]
      have : decide (cV (kyR k a) = cV (kyR k b)) = false := by
        apply decide_eq_false
        intro e
        have := cV_inj fa fb (by rw [sa, sb]) e
        rw [this, vcmp_refl] at z
        exact z rfl
      rw [this]
      simp
theorem scnF_pk {k : Nat} {a b : List Vl} (e : scnF t k a = scnF t k b) : pkK t.pk a = pkK t.pk b := by
  unfold scnF at e
  by_cases hp : k = t.pk
  · rw [if_pos hp, if_pos hp] at e; exact e
  · rw [if_neg hp, if_neg hp] at e; exact (idxK_inj e).2
theorem scnL_srt (ok : TbOk t) (k : Nat) (lo hi : Bnd) : (scnL t k lo hi).Pairwise (fun a b => lt (scnF t k a) (scnF t k b) = true) := by
  unfold scnL scnF
  by_cases hp : k = t.pk
  · simp only [hp, if_true]
    exact ok.srt.filter _
  · simp only [hp, if_false]
    exact (idxR_srt t.pk k t.rows).filter _
theorem scnL_mem (ok : TbOk t) (k : Nat) (lo hi : Bnd) (r : List Vl) : r ∈ scnL t k lo hi ↔ r ∈ t.rows ∧ inB lo hi (kyR k r) = true := by
  unfold scnL
  rw [List.mem_filter]
  by_cases hp : k = t.pk
  · rw [if_pos hp]
  · rw [if_neg hp]
    exact ⟨fun h => ⟨idxR_sub h.1, h.2⟩, fun h => ⟨idxR_sup ok.srt h.1, h.2⟩⟩
/-- The merge, word by word. -/
theorem mrgN_spec (ok : TbOk t) {k : Nat} {cl : Cl} (hc : t.cols[k]? = some cl) (lo hi : Bnd) : ∀ (l : List WCh) (out : List (List Vl)), out.Pairwise (fun a b => lt (scnF t k a) (scnF t k b) = true) → (∀ r ∈ out, RowOk t.cols r) → (∀ c ∈ l, c.d.tab = t.nm → c.d.gone = false → RowOk t.cols c.d.row ∧ ∀ r ∈ out, pkK t.pk c.d.row ≠ pkK t.pk r) → l.Pairwise (fun a b => a.d.tab = t.nm → a.d.gone = false → b.d.tab = t.nm → b.d.gone = false → pkK t.pk a.d.row ≠ pkK t.pk b.d.row) → (mrgN t.nm (t.pk : Int) (k : Int) lo hi l out).Pairwise (fun a b => lt (scnF t k a) (scnF t k b) = true) ∧ ∀ r, r ∈ mrgN t.nm (t.pk : Int) (k : Int) lo hi l out ↔ (∃ c ∈ l, c.d.tab = t.nm ∧ c.d.gone = false ∧ inB lo hi (kyR k c.d.row) = true ∧ c.d.row = r) ∨ r ∈ out
  | [], out, hs, _, _, _ => ⟨hs, fun r => by simp [mrgN]⟩
  | c :: l, out, hs, hr, hw, hp => by
    have hp' := List.pairwise_cons.mp hp
    have e : mrgN t.nm (t.pk : Int) (k : Int) lo hi (c :: l) out = mrgN t.nm (t.pk : Int) (k : Int) lo hi l (if ownIn t.nm (k : Int) lo hi c = true then insA (fun b => ahdP c.d.row b (k : Int) (t.pk : Int)) c.d.row out else out) := rfl
    rw [e]
    cases ho : ownIn t.nm (k : Int) lo hi c with
    | true =>
      simp only [if_true]
      unfold ownIn at ho
      rw [atV_ky] at ho
      simp only [Bool.and_eq_true, decide_eq_true_eq, Bool.not_eq_true'] at ho
      obtain ⟨⟨ht, hg⟩, hin⟩ := ho
      obtain ⟨hrow, hne⟩ := hw c (by simp) ht hg
      obtain ⟨h1, h2⟩ := mrgN_spec ok hc lo hi l (insA (fun b => ahdP c.d.row b (k : Int) (t.pk : Int)) c.d.row out)
        (insA_srt hs (fun b hb => ahd_code ok hc hrow (hr b hb)) (fun b hb e => hne b hb (scnF_pk e)))
        (fun r h => by rcases (insA_mem _ _ _ _).mp h with rfl | h; exact hrow; exact hr r h)
        (fun x hx hxt hxg => ⟨(hw x (List.mem_cons_of_mem _ hx) hxt hxg).1, fun r h => by
          rcases (insA_mem _ _ _ _).mp h with rfl | h
          · exact fun e => hp'.1 x hx ht hg hxt hxg e.symm
          · exact (hw x (List.mem_cons_of_mem _ hx) hxt hxg).2 r h⟩)
        hp'.2
      refine ⟨h1, fun r => ?_⟩
      rw [h2, insA_mem]
      constructor
      · rintro (⟨x, hx, h⟩ | rfl | h)
        · exact .inl ⟨x, List.mem_cons_of_mem _ hx, h⟩
        · exact .inl ⟨c, by simp, ht, hg, hin, rfl⟩
        · exact .inr h
      · rintro (⟨x, hx, h⟩ | h)
        · rcases List.mem_cons.mp hx with rfl | hx
          · exact .inr (.inl h.2.2.2.symm)
          · exact .inl ⟨x, hx, h⟩
        · exact .inr (.inr h)
    | false =>
      simp only [Bool.false_eq_true, if_false]
      obtain ⟨h1, h2⟩ := mrgN_spec ok hc lo hi l out hs hr (fun x hx => hw x (List.mem_cons_of_mem _ hx)) hp'.2
      refine ⟨h1, fun r => ?_⟩
      rw [h2]
      constructor
      · rintro (⟨x, hx, h⟩ | h)
        · exact .inl ⟨x, List.mem_cons_of_mem _ hx, h⟩
        · exact .inr h
      · rintro (⟨x, hx, h⟩ | h)
        · rcases List.mem_cons.mp hx with rfl | hx
          · exfalso
            unfold ownIn at ho
            rw [atV_ky, h.2.2.1, decide_eq_true h.1, h.2.1] at ho
            cases ho
          · exact .inl ⟨x, hx, h⟩
        · exact .inr h
/-- THE MERGE: what a scan of the table as the session sees it shows. -/
theorem mrg_see (h : WsG l D) (G : DGd D) (ht : t ∈ D) {k : Nat} {cl : Cl} (hc : t.cols[k]? = some cl) (lo hi : Bnd) : mrgP l t.nm (t.pk : Int) (k : Int) lo hi (scnL t k lo hi) = scnL (seeT l t) k lo hi := by
  have ok := G.tb t ht
  have ok2 := h.o.tb G ht (h.len t ht)
  have hl := h.o.loc G ht
  have hout : ∀ r, r ∈ (scnL t k lo hi).filter (fun r => !hitQ l t.nm (atV r (t.pk : Int))) ↔ (r ∈ t.rows ∧ inB lo hi (kyR k r) = true) ∧ ∀ c ∈ l, c.d.tab = t.nm → cV c.d.key ≠ pkK t.pk r := by
    intro r
    rw [List.mem_filter, scnL_mem ok, atV_ky]
    refine and_congr_right (fun hr => ?_)
    obtain ⟨pf, ps, _⟩ := (ok.row r hr.1).pk ok
    have hh := h.o.up.hit (tab := t.nm) pf.1 h.o.wf
    constructor
    · intro hq c hc' hct e
      have k' := h.o.at G ht hc' hct
      have : hitQ l t.nm (kyR t.pk r) = true := hh.mpr ⟨c, hc', hct, cV_inj k'.fit.1 pf (by rw [k'.fit.2, ps]) e⟩
      rw [this] at hq
      cases hq
    · intro hq
      cases e : hitQ l t.nm (kyR t.pk r) with
      | false => rfl
      | true =>
        obtain ⟨c, hc', hct, hk⟩ := hh.mp e
        exact absurd (by unfold pkK; rw [hk]) (hq c hc' hct)
  obtain ⟨h1, h2⟩ := mrgN_spec ok hc lo hi l _ ((scnL_srt ok k lo hi).filter (fun r => !hitQ l t.nm (atV r (t.pk : Int))))
    (fun r hr => ok.row r ((hout r).mp hr).1.1)
    (fun c hc' hct hg => ⟨((h.o.at G ht hc' hct).row hg).1, fun r hr e => ((hout r).mp hr).2 c hc' hct (by rw [← hl.row c hc' hct hg]; exact e)⟩)
    (hl.ne.imp_of_mem (fun {a b} ha hb hab h1 h2 h3 h4 e => hab h1 h3 (by rw [← hl.row a ha h1 h2, ← hl.row b hb h3 h4]; exact e)))
  refine by_ext (scnF t k) h1 (scnL_srt ok2 k lo hi) (fun r => ?_)
  have e2 : r ∈ scnL (seeT l t) k lo hi ↔ _ := scnL_mem ok2 k lo hi r
  rw [e2, h.o.mem G ht r]
  have e1 : r ∈ mrgP l t.nm (t.pk : Int) (k : Int) lo hi (scnL t k lo hi) ↔ _ := h2 r
  rw [e1, hout r]
  constructor
  · rintro (⟨c, hc', h1, h2, h3, rfl⟩ | ⟨⟨h1, h2⟩, h3⟩)
    · exact ⟨.inl ⟨c, hc', h1, h2, rfl⟩, h3⟩
    · exact ⟨.inr ⟨h1, h3⟩, h2⟩
  · rintro ⟨⟨c, hc', h1, h2, rfl⟩ | ⟨h1, h3⟩, h2'⟩
    · exact .inl ⟨c, hc', h1, h2, h2', rfl⟩
    · exact .inr ⟨⟨h1, h2'⟩, h3⟩
theorem scnE_col {col : Int} {lo hi : Bnd} (h : scnE t col lo hi = 0) : ∃ (k : Nat) (cl : Cl), col = (k : Int) ∧ t.cols[k]? = some cl := by
  unfold scnE at h
  by_cases c : col < 0 ∨ (t.cols.length : Int) ≤ col
  · rw [if_pos c] at h; cases h
  · exact ⟨col.toNat, t.cols[col.toNat]'(by omega), by omega, List.getElem?_eq_getElem (by omega)⟩
/-- A Scan. -/
theorem scn_see (h : WsG l D) (G : DGd D) (ht : t ∈ D) (col : Int) (lo hi : Bnd) : (scnD (seeD l D) t.nm col lo hi).2 = (scnD D t.nm col lo hi).2 ∧ ((scnD D t.nm col lo hi).2 = 0 → mrgP l t.nm (t.pk : Int) col lo hi (scnD D t.nm col lo hi).1 = (scnD (seeD l D) t.nm col lo hi).1) ∧ ((scnD D t.nm col lo hi).2 ≠ 0 → (scnD (seeD l D) t.nm col lo hi).1 = []) := by
  have hE : scnE (seeT l t) col lo hi = scnE t col lo hi := rfl
  unfold scnD
  rw [seeD_find, G.find ht]
  simp only [Option.map_some, hE]
  by_cases e : scnE t col lo hi = 0
  · simp only [e, if_true]
    refine ⟨by trivial, fun _ => ?_, fun h => absurd rfl h⟩
    obtain ⟨k, cl, rfl, hc⟩ := scnE_col e
    exact mrg_see h G ht hc lo hi
  · simp only [e, if_false]
    exact ⟨by trivial, fun h => absurd h (by simp), fun _ => by trivial⟩
/-- A View. -/
theorem scn_all (ok : TbOk t) : scnE t (t.pk : Int) none none = 0 ∧ scnL t t.pk none none = t.rows := by
  have hp := ok.pkn
  constructor
  · unfold scnE
    rw [if_neg (by omega), if_neg (by simp)]
    rfl
  · unfold scnL
    rw [if_pos rfl]
    exact List.filter_eq_self.mpr (fun _ _ => rfl)
theorem vw_see (h : WsG l D) (G : DGd D) (ht : t ∈ D) : vwP l D t = (seeT l t).rows := by
  have ok := G.tb t ht
  obtain ⟨cl, hc⟩ := ok.pkc
  unfold vwP scnD
  rw [G.find ht]
  simp only [(scn_all ok).1, if_true]
  have e1 : ((t.pk : Int)).toNat = t.pk := by omega
  rw [e1, mrg_see h G ht hc none none]
  exact (scn_all (h.o.tb G ht (h.len t ht))).2
end
end Go.Proofs.Qxb6500412aGreat
