/-
  OWN WORK. TXN, plain: a word said or taken back: what the session sees then. No program in sight.
-/
import Derived.Test.Qxb6500412aGreatXP2
namespace Go.Proofs.Qxb6500412aGreat
open Go.RowKit Go.PlainAid
set_option linter.unusedSimpArgs false
set_option linter.unusedVariables false

section
variable {l l' : List WCh} {D : Db} {t : Tb}
theorem seeT_srt (ok : TbOk t) : (seeT l t).rows.Pairwise (fun a b => lt (pkK t.pk a) (pkK t.pk b) = true) := seeR_srt l ok.srt
theorem split_at {α : Type} {l : List α} {n : Nat} {c : α} (h : l[n]? = some c) : l = l.take n ++ c :: l.drop (n + 1) := by
  have hnl := (List.getElem?_eq_some_iff.mp h).1
  have := List.take_append_drop n l
  rw [List.drop_eq_getElem_cons hnl, (List.getElem?_eq_some_iff.mp h).2] at this
  exact this.symm
theorem take_lt {α : Type} {l : List α} {n : Nat} {x : α} (h : x ∈ l.take n) : ∃ j, j < n ∧ l[j]? = some x := by
  obtain ⟨j, hj⟩ := List.getElem?_of_mem h
  rw [List.getElem?_take] at hj
  by_cases e : j < n
  · rw [if_pos e] at hj; exact ⟨j, e, hj⟩
  · rw [if_neg e] at hj; cases hj
theorem putW_hit {n : Nat} {c x : WCh} (h : l[n]? = some c) : putW l n true x = l.take n ++ x :: l.drop (n + 1) := by
  have hn := (List.getElem?_eq_some_iff.mp h).1
  unfold putW
  rw [if_pos rfl, List.set_eq_take_append_cons_drop, if_pos hn]
/-- The words behind a put: they rise, and the others stay. -/
theorem put_words (h : WUp l) (hw : ∀ c ∈ l, c.d.key.wf) {x : WCh} (hk : x.d.key.wf) {n : Nat} {hit : Bool} (hf : FnR l x.d.tab x.d.key (n : Int) hit) : WUp (putW l n hit x) ∧ ∀ c, c ∈ putW l n hit x ↔ c = x ∨ (c ∈ l ∧ ¬ (c.d.tab = x.d.tab ∧ c.d.key = x.d.key)) := by
  obtain ⟨m, hm, hle, hlt, hc⟩ := hf
  obtain rfl : n = m := by omega
  have hbefore : ∀ a ∈ l.take n, sideP a.d.tab a.d.key x.d < 0 := by
    intro a ha
    obtain ⟨j, hj, hja⟩ := take_lt ha
    have := hlt j a hja hj
    have := side_neg a.d x.d
    omega
  rcases hc with ⟨hn, rfl⟩ | ⟨c, hc, hs, rfl⟩
  · -- at the end
    have e : putW l n false x = l ++ [x] := by
      unfold putW
      rw [if_neg (by simp), hn, List.take_length, List.drop_length]
    have etk : l.take n = l := by rw [hn]; exact List.take_length
    rw [etk] at hbefore
    rw [e]
    refine ⟨?_, fun c => ?_⟩
    · unfold WUp
      rw [List.pairwise_append]
      refine ⟨h, by simp, fun a ha b hb => ?_⟩
      obtain rfl : b = x := by simpa using hb
      exact hbefore a ha
    · rw [List.mem_append]
      constructor
      · rintro (hc | hc)
        · refine .inr ⟨hc, fun ⟨e1, e2⟩ => ?_⟩
          have := hbefore c hc
          have := (side_zero (tab := c.d.tab) (d := x.d) (hw c hc) hk).mpr ⟨e1, e2⟩
          omega
        · exact .inl (by simpa using hc)
      · rintro (hc | ⟨hc, _⟩)
        · exact .inr (by simpa using hc)
        · exact .inl hc
  · have hsp := split_at hc
    have hcl : c ∈ l := List.mem_of_getElem? hc
    have hup : WUp (l.take n ++ c :: l.drop (n + 1)) := by rw [← hsp]; exact h
    unfold WUp at hup
    rw [List.pairwise_append] at hup
    obtain ⟨p1, p2, p3⟩ := hup
    obtain ⟨p4, p5⟩ := List.pairwise_cons.mp p2
    by_cases h0 : sideP x.d.tab x.d.key c.d = 0
    · obtain ⟨e1, e2⟩ := (side_zero hk (hw c hcl)).mp h0
      rw [h0]
      rw [show decide ((0 : Int) = 0) = true from rfl, putW_hit hc]
      refine ⟨?_, fun y => ?_⟩
      · unfold WUp
        rw [List.pairwise_append]
        refine ⟨p1, List.pairwise_cons.mpr ⟨fun b hb => ?_, p5⟩, fun a ha b hb => ?_⟩
        · rw [e1, e2]; exact p4 b hb
        · rcases List.mem_cons.mp hb with rfl | hb
          · exact hbefore a ha
          · exact p3 a ha b (List.mem_cons_of_mem _ hb)
      · rw [List.mem_append, List.mem_cons]
        constructor
        · rintro (hy | hy | hy)
          · refine .inr ⟨List.mem_of_mem_take hy, fun ⟨f1, f2⟩ => ?_⟩
            have h1 := hbefore y hy
            have := (side_zero (tab := y.d.tab) (d := x.d) (hw y (List.mem_of_mem_take hy)) hk).mpr ⟨f1, f2⟩
            omega
          · exact .inl hy
          · refine .inr ⟨List.mem_of_mem_drop hy, fun ⟨f1, f2⟩ => ?_⟩
            have h1 := p4 y hy
            have := (side_zero (tab := c.d.tab) (d := y.d) (hw c hcl) (hw y (List.mem_of_mem_drop hy))).mpr ⟨by rw [← e1, f1], by rw [← e2, f2]⟩
            omega
        · rintro (hy | ⟨hy, hne⟩)
          · exact .inr (.inl hy)
          · rw [hsp, List.mem_append, List.mem_cons] at hy
            rcases hy with hy | hy | hy
            · exact .inl hy
            · exact absurd ⟨by rw [hy, ← e1], by rw [hy, ← e2]⟩ hne
            · exact .inr (.inr hy)
    · have hneg : sideP x.d.tab x.d.key c.d < 0 := by omega
      have e : putW l n (decide (sideP x.d.tab x.d.key c.d = 0)) x = l.take n ++ x :: l.drop n := by
        unfold putW
        rw [if_neg (by simpa using h0)]
      have edr : l.drop n = c :: l.drop (n + 1) := by
        have hnl := (List.getElem?_eq_some_iff.mp hc).1
        rw [List.drop_eq_getElem_cons hnl, (List.getElem?_eq_some_iff.mp hc).2]
      have hafter : ∀ b ∈ l.drop n, sideP x.d.tab x.d.key b.d < 0 := by
        intro b hb
        rw [edr] at hb
        rcases List.mem_cons.mp hb with rfl | hb
        · exact hneg
        · exact side_tr hneg (p4 b hb)
      rw [e]
      refine ⟨?_, fun y => ?_⟩
      · unfold WUp
        rw [List.pairwise_append]
        refine ⟨p1, List.pairwise_cons.mpr ⟨hafter, by rw [edr]; exact p2⟩, fun a ha b hb => ?_⟩
        rcases List.mem_cons.mp hb with rfl | hb
        · exact hbefore a ha
        · exact side_tr (hbefore a ha) (hafter b hb)
      · rw [List.mem_append, List.mem_cons]
        constructor
        · rintro (hy | hy | hy)
          · refine .inr ⟨List.mem_of_mem_take hy, fun ⟨f1, f2⟩ => ?_⟩
            have h1 := hbefore y hy
            have := (side_zero (tab := y.d.tab) (d := x.d) (hw y (List.mem_of_mem_take hy)) hk).mpr ⟨f1, f2⟩
            omega
          · exact .inl hy
          · refine .inr ⟨List.mem_of_mem_drop hy, fun ⟨f1, f2⟩ => ?_⟩
            have h1 := hafter y hy
            have := (side_zero (tab := x.d.tab) (d := y.d) hk (hw y (List.mem_of_mem_drop hy))).mpr ⟨f1.symm, f2.symm⟩
            omega
        · rintro (hy | ⟨hy, hne⟩)
          · exact .inr (.inl hy)
          · have : y ∈ l.take n ++ l.drop n := by rw [List.take_append_drop]; exact hy
            rcases List.mem_append.mp this with hy | hy
            · exact .inl hy
            · exact .inr (.inr hy)
/-- The words behind a drop. -/
theorem drop_words (h : WUp l) (hw : ∀ c ∈ l, c.d.key.wf) {tab : ByteArray} {key : Vl} (hk : key.wf) {n : Nat} {hit : Bool} (hf : FnR l tab key (n : Int) hit) : WUp (drpW l n hit) ∧ ∀ c, c ∈ drpW l n hit ↔ c ∈ l ∧ ¬ (c.d.tab = tab ∧ c.d.key = key) := by
  have hq := hf.hit
  obtain ⟨m, hm, hle, hlt, hc⟩ := hf
  obtain rfl : n = m := by omega
  cases hit with
  | false =>
    unfold drpW
    rw [if_neg (by simp)]
    refine ⟨h, fun c => ⟨fun hc => ⟨hc, fun ⟨e1, e2⟩ => ?_⟩, fun hc => hc.1⟩⟩
    have := (h.hit (tab := tab) hk hw).mpr ⟨c, hc, e1, e2⟩
    rw [hq] at this
    cases this
  | true =>
    unfold drpW
    rw [if_pos rfl]
    refine ⟨h.sublist (List.eraseIdx_sublist _ _), fun y => ?_⟩
    rcases hc with ⟨_, hh⟩ | ⟨c, hc, hs, hh⟩
    · cases hh
    · have h0 := of_decide_eq_true hh.symm
      have hcl : c ∈ l := List.mem_of_getElem? hc
      obtain ⟨e1, e2⟩ := (side_zero hk (hw c hcl)).mp h0
      have hsp := split_at hc
      have hup : WUp (l.take n ++ c :: l.drop (n + 1)) := by rw [← hsp]; exact h
      unfold WUp at hup
      rw [List.pairwise_append] at hup
      obtain ⟨p1, p2, p3⟩ := hup
      obtain ⟨p4, p5⟩ := List.pairwise_cons.mp p2
      rw [List.eraseIdx_eq_take_drop_succ, List.mem_append]
      constructor
      · rintro (hy | hy)
        · refine ⟨List.mem_of_mem_take hy, fun ⟨f1, f2⟩ => ?_⟩
          have h1 := p3 y hy c (by simp)
          have := (side_zero (tab := y.d.tab) (d := c.d) (hw y (List.mem_of_mem_take hy)) (hw c hcl)).mpr ⟨f1.trans e1, f2.trans e2⟩
          omega
        · refine ⟨List.mem_of_mem_drop hy, fun ⟨f1, f2⟩ => ?_⟩
          have h1 := p4 y hy
          have := (side_zero (tab := c.d.tab) (d := y.d) (hw c hcl) (hw y (List.mem_of_mem_drop hy))).mpr ⟨(f1.trans e1).symm, (f2.trans e2).symm⟩
          omega
      · rintro ⟨hy, hne⟩
        rw [hsp, List.mem_append, List.mem_cons] at hy
        rcases hy with hy | hy | hy
        · exact .inl hy
        · exact absurd ⟨by rw [hy, e1], by rw [hy, e2]⟩ hne
        · exact .inr hy
/-- A table of the database in another's place. -/
theorem putT_map {D : Db} (hs : D.Pairwise (fun a b => lt a.nm b.nm = true)) {u : Tb} (hu : ∃ x ∈ D, x.nm = u.nm) : putT u D = D.map (fun x => if x.nm = u.nm then u else x) := by
  refine by_ext (fun t : Tb => t.nm) (putBy_srt _ hs) ?_ (fun e => ?_)
  · rw [List.pairwise_map]
    refine hs.imp (fun {a b} hab => ?_)
    by_cases ha : a.nm = u.nm <;> by_cases hb : b.nm = u.nm
    · rw [ha, hb] at hab; rw [if_pos ha, if_pos hb]; exact hab
    · rw [if_pos ha, if_neg hb, ← ha]; exact hab
    · rw [if_neg ha, if_pos hb, ← hb]; exact hab
    · rw [if_neg ha, if_neg hb]; exact hab
  · unfold putT
    rw [putBy_iff _ hs, List.mem_map]
    constructor
    · rintro (rfl | ⟨h1, h2⟩)
      · obtain ⟨x, hx, hn⟩ := hu
        exact ⟨x, hx, by rw [if_pos hn]⟩
      · exact ⟨e, h1, by rw [if_neg h2]⟩
    · rintro ⟨x, hx, rfl⟩
      by_cases hn : x.nm = u.nm
      · rw [if_pos hn]; exact .inl rfl
      · rw [if_neg hn]; exact .inr ⟨hx, hn⟩
/-- The words on other tables are the same: those are seen as they were. -/
theorem see_other (h : WsOk l D) (h' : WsOk l' D) (G : DGd D) (ht : t ∈ D) (hm : ∀ c, c.d.tab = t.nm → (c ∈ l' ↔ c ∈ l)) : seeT l' t = seeT l t := by
  have ok := G.tb t ht
  have : (seeT l' t).rows = (seeT l t).rows := by
    refine by_ext (pkK t.pk) (seeT_srt ok) (seeT_srt ok) (fun r => ?_)
    have e1 : r ∈ (seeT l' t).rows ↔ _ := h'.mem G ht r
    have e2 : r ∈ (seeT l t).rows ↔ _ := h.mem G ht r
    rw [e1, e2]
    constructor
    · rintro (⟨c, hc, h1, h2⟩ | ⟨h1, h2⟩)
      · exact .inl ⟨c, (hm c h1).mp hc, h1, h2⟩
      · exact .inr ⟨h1, fun c hc hct => h2 c ((hm c hct).mpr hc) hct⟩
    · rintro (⟨c, hc, h1, h2⟩ | ⟨h1, h2⟩)
      · exact .inl ⟨c, (hm c h1).mpr hc, h1, h2⟩
      · exact .inr ⟨h1, fun c hc hct => h2 c ((hm c hct).mp hc) hct⟩
  unfold seeT
  unfold seeT withR at this
  unfold withR
  simp only at this
  rw [this]
/-- A database in which one table is seen otherwise. -/
theorem see_turn (G : DGd D) (ht : t ∈ D) {u : Tb} (hu : seeT l' t = u) (hn : u.nm = t.nm) (ho : ∀ x ∈ D, x.nm ≠ t.nm → seeT l' x = seeT l x) : seeD l' D = putT u (seeD l D) := by
  have hs : (seeD l D).Pairwise (fun a b => lt a.nm b.nm = true) := by
    unfold seeD
    rw [List.pairwise_map]
    exact G.srt
  rw [putT_map hs ⟨seeT l t, List.mem_map.mpr ⟨t, ht, rfl⟩, hn.symm⟩]
  unfold seeD
  rw [List.map_map]
  refine List.map_congr_left (fun x hx => ?_)
  have e : (seeT l x).nm = x.nm := rfl
  simp only [Function.comp]
  rw [e, hn]
  by_cases hxt : x.nm = t.nm
  · rw [if_pos hxt, G.one hx ht hxt]; exact hu
  · rw [if_neg hxt]; exact ho x hx hxt
/-- A new row, or another in its place. -/
theorem put_row (h : WsG l D) (G : DGd D) (ht : t ∈ D) {row : List Vl} (hr : RowOk t.cols row) {u : Value} {n : Nat} {hit : Bool} (hf : FnR l t.nm (kyR t.pk row) (n : Int) hit) (h8 : (putBy (pkK t.pk) row (seeT l t).rows).length ≤ 8) : WsG (putW l n hit ⟨⟨t.nm, kyR t.pk row, false, row⟩, u⟩) D ∧ seeD (putW l n hit ⟨⟨t.nm, kyR t.pk row, false, row⟩, u⟩) D = putT (withR (seeT l t) (putBy (pkK t.pk) row (seeT l t).rows)) (seeD l D) := by
  have ok := G.tb t ht
  obtain ⟨pf, ps, _⟩ := hr.pk ok
  have hk : chkKey t (kyR t.pk row) = 0 := by
    unfold chkKey chkVal
    rw [if_pos ps, if_pos pf.2]
  obtain ⟨hup, hmem⟩ := put_words h.o.up h.o.wf (x := ⟨⟨t.nm, kyR t.pk row, false, row⟩, u⟩) pf.1 hf
  generalize putW l n hit ⟨⟨t.nm, kyR t.pk row, false, row⟩, u⟩ = l' at *
  have hok : WsOk l' D := ⟨hup, fun c hc => by
    rcases (hmem c).mp hc with rfl | ⟨h1, _⟩
    · exact ⟨t, ht, rfl, pf.1, hk, (fun h => nomatch h), fun _ => ⟨hr, rfl⟩⟩
    · exact h.o.ok c h1⟩
  have hrows : (seeT l' t).rows = putBy (pkK t.pk) row (seeT l t).rows := by
    refine by_ext (pkK t.pk) (seeT_srt ok) (putBy_srt _ (seeT_srt ok)) (fun r => ?_)
    rw [putBy_iff _ (seeT_srt ok)]
    have e1 : r ∈ (seeT l' t).rows ↔ _ := hok.mem G ht r
    have e2 : r ∈ (seeT l t).rows ↔ _ := h.o.mem G ht r
    rw [e1, e2]
    constructor
    · rintro (⟨c, hc, h1, h2, rfl⟩ | ⟨h1, h2⟩)
      · rcases (hmem c).mp hc with rfl | ⟨h3, h4⟩
        · exact .inl rfl
        · refine .inr ⟨.inl ⟨c, h3, h1, h2, rfl⟩, fun e => h4 ⟨h1, ?_⟩⟩
          have k := h.o.at G ht h3 h1
          have e3 := (h.o.loc G ht).row c h3 h1 h2
          rw [e] at e3
          exact cV_inj k.fit.1 pf (by rw [k.fit.2, ps]) e3.symm
      · refine .inr ⟨.inr ⟨h1, fun c hc hct => ?_⟩, fun e => h2 ⟨⟨t.nm, kyR t.pk row, false, row⟩, u⟩ ((hmem _).mpr (.inl rfl)) rfl e.symm⟩
        by_cases he : c.d.key = kyR t.pk row
        · rw [he]
          exact h2 ⟨⟨t.nm, kyR t.pk row, false, row⟩, u⟩ ((hmem _).mpr (.inl rfl)) rfl
        · exact h2 c ((hmem c).mpr (.inr ⟨hc, fun e => he e.2⟩)) hct
    · rintro (rfl | ⟨⟨c, hc, h1, h2, rfl⟩ | ⟨h1, h2⟩, hne⟩)
      · exact .inl ⟨_, (hmem _).mpr (.inl rfl), rfl, rfl, rfl⟩
      · refine .inl ⟨c, (hmem c).mpr (.inr ⟨hc, fun e => hne ?_⟩), h1, h2, rfl⟩
        have := (h.o.loc G ht).row c hc h1 h2
        rw [this, e.2]
        rfl
      · refine .inr ⟨h1, fun c hc hct => ?_⟩
        rcases (hmem c).mp hc with rfl | ⟨h3, _⟩
        · exact fun e => hne e.symm
        · exact h2 c h3 hct
  have hoth : ∀ x ∈ D, x.nm ≠ t.nm → seeT l' x = seeT l x := fun x hx hn => see_other h.o hok G hx (fun c hct => by
    rw [hmem c]
    constructor
    · rintro (rfl | h)
      · exact absurd hct.symm hn
      · exact h.1
    · exact fun hc => .inr ⟨hc, fun e => hn (hct.symm.trans e.1)⟩)
  refine ⟨⟨hok, fun x hx => ?_⟩, ?_⟩
  · by_cases hn : x.nm = t.nm
    · rw [G.one hx ht hn, hrows]; exact h8
    · rw [hoth x hx hn]; exact h.len x hx
  · refine see_turn G ht ?_ rfl hoth
    unfold seeT withR at hrows ⊢
    simp only at hrows ⊢
    rw [hrows]
/-- A row taken out. -/
theorem del_words (h : WsG l D) (G : DGd D) (ht : t ∈ D) {key : Vl} (hk : key.wf) (hck : chkKey t key = 0) (hup : WUp l')
    (hmem : ∀ c, c ∈ l' ↔ (c ∈ l ∧ ¬ (c.d.tab = t.nm ∧ c.d.key = key)) ∨ ((∃ r ∈ t.rows, pkK t.pk r = cV key) ∧ ∃ u, c = ⟨⟨t.nm, key, true, []⟩, u⟩ ∧ u = Value.slice none 0 0)) : WsG l' D ∧ seeD l' D = putT (withR (seeT l t) ((seeT l t).rows.filter (fun r => decide (pkK t.pk r ≠ cV key)))) (seeD l D) := by
  have ok := G.tb t ht
  have hkf := chkVal_ok hck hk
  have hok : WsOk l' D := ⟨hup, fun c hc => by
    rcases (hmem c).mp hc with ⟨h1, _⟩ | ⟨hb, u, rfl, _⟩
    · exact h.o.ok c h1
    · exact ⟨t, ht, rfl, hk, hck, fun _ => ⟨rfl, hb⟩, (fun h => nomatch h)⟩⟩
  have hrows : (seeT l' t).rows = (seeT l t).rows.filter (fun r => decide (pkK t.pk r ≠ cV key)) := by
    refine by_ext (pkK t.pk) (seeT_srt ok) ((seeT_srt ok).filter _) (fun r => ?_)
    have e1 : r ∈ (seeT l' t).rows ↔ _ := hok.mem G ht r
    have e2 : r ∈ (seeT l t).rows ↔ _ := h.o.mem G ht r
    rw [List.mem_filter]
    have e3 : r ∈ (seeT l t).rows ↔ _ := h.o.mem G ht r
    rw [e1, e3]
    simp only [decide_eq_true_eq]
    constructor
    · rintro (⟨c, hc, h1, h2, rfl⟩ | ⟨h1, h2⟩)
      · rcases (hmem c).mp hc with ⟨h3, h4⟩ | ⟨_, u, rfl, _⟩
        · refine ⟨.inl ⟨c, h3, h1, h2, rfl⟩, fun e => h4 ⟨h1, ?_⟩⟩
          have k := h.o.at G ht h3 h1
          have e5 := (h.o.loc G ht).row c h3 h1 h2
          rw [e] at e5
          exact cV_inj k.fit.1 hkf.1 (by rw [k.fit.2, hkf.2]) e5.symm
        · cases h2
      · have hne : pkK t.pk r ≠ cV key := fun e => by
          have hin : (⟨⟨t.nm, key, true, []⟩, .slice none 0 0⟩ : WCh) ∈ l' := (hmem _).mpr (.inr ⟨⟨r, h1, e⟩, _, rfl, rfl⟩)
          exact h2 _ hin rfl e.symm
        refine ⟨.inr ⟨h1, fun c hc hct e => ?_⟩, hne⟩
        by_cases he : c.d.key = key
        · rw [he] at e; exact hne e.symm
        · exact h2 c ((hmem c).mpr (.inl ⟨hc, fun x => he x.2⟩)) hct e
    · rintro ⟨⟨c, hc, h1, h2, rfl⟩ | ⟨h1, h2⟩, hne⟩
      · refine .inl ⟨c, (hmem c).mpr (.inl ⟨hc, fun e => hne ?_⟩), h1, h2, rfl⟩
        rw [(h.o.loc G ht).row c hc h1 h2, e.2]
      · refine .inr ⟨h1, fun c hc hct => ?_⟩
        rcases (hmem c).mp hc with ⟨h3, _⟩ | ⟨_, u, rfl, _⟩
        · exact h2 c h3 hct
        · exact fun e => hne e.symm
  have hoth : ∀ x ∈ D, x.nm ≠ t.nm → seeT l' x = seeT l x := fun x hx hn => see_other h.o hok G hx (fun c hct => by
    rw [hmem c]
    constructor
    · rintro (h | ⟨_, u, rfl, _⟩)
      · exact h.1
      · exact absurd hct.symm hn
    · exact fun hc => .inl ⟨hc, fun e => hn (hct.symm.trans e.1)⟩)
  refine ⟨⟨hok, fun x hx => ?_⟩, ?_⟩
  · by_cases hn : x.nm = t.nm
    · rw [G.one hx ht hn, hrows]; exact Nat.le_trans (List.length_filter_le _ _) (h.len t ht)
    · rw [hoth x hx hn]; exact h.len x hx
  · refine see_turn G ht ?_ rfl hoth
    unfold seeT withR at hrows ⊢
    simp only at hrows ⊢
    rw [hrows]
end
end Go.Proofs.Qxb6500412aGreat
