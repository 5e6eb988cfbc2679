/-
  OWN WORK. TXN, plain: the words played on the store: first what is gone, then the rows. No program in sight.
-/
import Derived.Test.Qxb6500412aGreatXP4
namespace Go.Proofs.Qxb6500412aGreat
open Go.RowKit Go.PlainAid
set_option linter.unusedSimpArgs false
set_option linter.unusedVariables false

section
variable {l a : List WCh} {D : Db} {t : Tb} {c : WCh}
def gnW (l : List WCh) : List WCh := l.filter (fun c => c.d.gone)
def rwW (l : List WCh) : List WCh := l.filter (fun c => !c.d.gone)
theorem seeR_app (a b : List WCh) (nm : ByteArray) (pk : Nat) (R : List (List Vl)) : seeR (a ++ b) nm pk R = seeR b nm pk (seeR a nm pk R) := by
  unfold seeR
  rw [List.foldl_append]
theorem seeT_snoc (a : List WCh) (c : WCh) (t : Tb) : seeT (a ++ [c]) t = withR (seeT a t) (see1 t.nm t.pk (seeT a t).rows c) := by
  unfold seeT
  rw [seeR_app]
  rfl
theorem seeT_snoc_no (a : List WCh) {c : WCh} {t : Tb} (h : c.d.tab ≠ t.nm) : seeT (a ++ [c]) t = seeT a t := by
  rw [seeT_snoc]
  unfold see1
  rw [if_neg h]
  rfl
/-- A part of the words, in any order: all distinct. -/
structure WPart (a l : List WCh) : Prop where
  sub : ∀ c ∈ a, c ∈ l
  nd : a.Pairwise (fun x y => ¬ (x.d.tab = y.d.tab ∧ x.d.key = y.d.key))
theorem WsOk.nd (h : WsOk l D) : l.Pairwise (fun x y => ¬ (x.d.tab = y.d.tab ∧ x.d.key = y.d.key)) := by
  refine h.up.imp_of_mem (fun {x y} hx hy hxy e => ?_)
  have := (side_zero (tab := x.d.tab) (d := y.d) (h.wf x hx) (h.wf y hy)).mpr e
  omega
theorem WPart.loc (p : WPart a l) (h : WsOk l D) (G : DGd D) (ht : t ∈ D) : WLoc a t.nm t.pk := by
  refine ⟨p.nd.imp_of_mem (fun {x y} hx hy hxy h1 h2 e => hxy ⟨h1.trans h2.symm, ?_⟩), fun c hc => (h.loc G ht).row c (p.sub c hc)⟩
  have kx := h.at G ht (p.sub x hx) h1
  have ky := h.at G ht (p.sub y hy) h2
  exact cV_inj kx.fit.1 ky.fit.1 (by rw [kx.fit.2, ky.fit.2]) e
theorem WPart.mem (p : WPart a l) (h : WsOk l D) (G : DGd D) (ht : t ∈ D) (r : List Vl) : r ∈ (seeT a t).rows ↔ (∃ c ∈ a, c.d.tab = t.nm ∧ c.d.gone = false ∧ c.d.row = r) ∨ (r ∈ t.rows ∧ ∀ c ∈ a, c.d.tab = t.nm → cV c.d.key ≠ pkK t.pk r) :=
  seeR_mem a (p.loc h G ht) (G.tb t ht).srt r
/-- All the words, in any order: one view. -/
theorem WPart.all (p : WPart a l) (h : WsOk l D) (G : DGd D) (hall : ∀ c ∈ l, c ∈ a) : seeD a D = seeD l D := by
  unfold seeD
  refine List.map_congr_left (fun t ht => ?_)
  have ok := G.tb t ht
  have : (seeT a t).rows = (seeT l t).rows := by
    refine by_ext (pkK t.pk) (seeT_srt ok) (seeT_srt ok) (fun r => ?_)
    rw [p.mem h G ht r, h.mem G ht r]
    constructor
    · rintro (⟨c, hc, hh⟩ | ⟨h1, h2⟩)
      · exact .inl ⟨c, p.sub c hc, hh⟩
      · exact .inr ⟨h1, fun c hc => h2 c (hall c hc)⟩
    · rintro (⟨c, hc, hh⟩ | ⟨h1, h2⟩)
      · exact .inl ⟨c, hall c hc, hh⟩
      · exact .inr ⟨h1, fun c hc => h2 c (p.sub c hc)⟩
  unfold seeT withR at this ⊢
  simp only at this ⊢
  rw [this]
theorem WPart.turn (G : DGd D) (ht : t ∈ D) {c : WCh} (hc : c.d.tab = t.nm) : seeD (a ++ [c]) D = putT (withR (seeT a t) (see1 t.nm t.pk (seeT a t).rows c)) (seeD a D) :=
  see_turn G ht (seeT_snoc a c t) rfl (fun x hx hn => seeT_snoc_no a (by rw [hc]; exact fun e => hn e.symm))
/-- One word more: what is gone. -/
theorem ap_gone (p : WPart (a ++ [c]) l) (h : WsOk l D) (G : DGd D) (hg : c.d.gone = true) : delD (seeD a D) c.d.tab c.d.key = (seeD (a ++ [c]) D, 0) := by
  have hc : c ∈ l := p.sub c (by simp)
  obtain ⟨t, ht, hn, k⟩ := h.ok c hc
  have pa : WPart a l := ⟨fun x hx => p.sub x (by simp [hx]), (List.pairwise_append.mp p.nd).1⟩
  rw [← hn, del_at G ht, WPart.turn G ht hn.symm]
  obtain ⟨r, hr, hk⟩ := (k.gone hg).2
  have hin : r ∈ (seeT a t).rows := (pa.mem h G ht r).mpr (.inr ⟨hr, fun x hx hxt e => by
    have kx := h.at G ht (pa.sub x hx) hxt
    refine (List.pairwise_append.mp p.nd).2.2 x hx c (by simp) ⟨hxt.trans hn, ?_⟩
    exact cV_inj kx.fit.1 k.fit.1 (by rw [kx.fit.2, k.fit.2]) (by rw [e, hk])⟩)
  have hs : fndK (seeT a t) (cV c.d.key) = some r := (fnd_iff' (seeT_srt (G.tb t ht)) _ r).mpr ⟨hin, hk⟩
  have e1 : delR (seeT a t) c.d.key = (withR (seeT a t) ((seeT a t).rows.filter (fun r => decide (pkK t.pk r ≠ cV c.d.key))), 0) := by
    unfold delR
    rw [seeT_chk, k.key, if_neg (by simp), hs]
    rfl
  have e2 : see1 t.nm t.pk (seeT a t).rows c = (seeT a t).rows.filter (fun r => decide (pkK t.pk r ≠ cV c.d.key)) := by
    unfold see1
    rw [if_pos hn.symm, if_pos hg]
  rw [e1, e2]
  rfl
theorem putBy_len_le {α : Type} (f : α → ByteArray) (r : α) : ∀ l : List α, l.length ≤ (putBy f r l).length
  | [] => by simp
  | e :: l => by
    have := putBy_len_le f r l
    unfold putBy
    split
    · simp; omega
    · split
      · simp
      · simp
theorem seeR_len {nm : ByteArray} {pk : Nat} : ∀ (b : List WCh) (R : List (List Vl)), (∀ c ∈ b, c.d.gone = false) → R.length ≤ (seeR b nm pk R).length
  | [], R, _ => Nat.le_refl _
  | c :: b, R, h => by
    have e : seeR (c :: b) nm pk R = seeR b nm pk (see1 nm pk R c) := rfl
    rw [e]
    refine Nat.le_trans ?_ (seeR_len b _ (fun x hx => h x (List.mem_cons_of_mem _ hx)))
    unfold see1
    rw [h c (by simp)]
    split
    · exact putBy_len_le _ _ _
    · exact Nat.le_refl _
/-- One word more: a row. -/
theorem ap_row {b : List WCh} (p : WPart (a ++ [c] ++ b) l) (h : WsG l D) (G : DGd D) (hall : ∀ x ∈ l, x ∈ a ++ [c] ++ b) (hb : ∀ x ∈ b, x.d.gone = false) (hg : c.d.gone = false) : wrD (!blwP (seeD a D) c.d.tab c.d.key) (seeD a D) c.d.tab c.d.row = (seeD (a ++ [c]) D, 0) := by
  have hc : c ∈ l := p.sub c (by simp)
  obtain ⟨t, ht, hn, k⟩ := h.o.ok c hc
  have ok := G.tb t ht
  obtain ⟨hrow, hky⟩ := k.row hg
  have hlen : (see1 t.nm t.pk (seeT a t).rows c).length ≤ 8 := by
    have h1 := h.len t ht
    have e : seeD (a ++ [c] ++ b) D = seeD l D := p.all h.o G hall
    have e2 : seeT (a ++ [c] ++ b) t = seeT l t := by
      have e3 := congrArg (fun E => findD E t.nm) e
      simp only [seeD_find, G.find ht, Option.map_some] at e3
      exact Option.some.inj e3
    rw [← e2] at h1
    have e4 : (seeT (a ++ [c] ++ b) t).rows = seeR b t.nm t.pk (see1 t.nm t.pk (seeT a t).rows c) := by
      unfold seeT
      rw [seeR_app, seeR_app]
      rfl
    rw [e4] at h1
    exact Nat.le_trans (seeR_len b _ hb) h1
  have hsee : see1 t.nm t.pk (seeT a t).rows c = putBy (pkK t.pk) c.d.row (seeT a t).rows := by
    unfold see1
    rw [if_pos hn.symm, if_neg (by rw [hg]; simp)]
  have hchk : chkRow t.cols c.d.row = 0 := by
    unfold chkRow
    rw [if_pos hrow.1, if_pos (fun v hv => (hrow.2 v hv).2)]
  have e0 : lkpD (seeD a D) t.nm c.d.key = lkpR (seeT a t) c.d.key := by
    unfold lkpD
    rw [seeD_find, G.find ht]
    rfl
  have hbl : blwP (seeD a D) t.nm c.d.key = (fndK (seeT a t) (cV c.d.key)).isSome := by
    unfold blwP
    rw [e0, lkpR_ok (t := seeT a t) k.key]
    cases fndK (seeT a t) (cV c.d.key) <;> simp
  have ek : fndK (seeT a t) (pkK (seeT a t).pk c.d.row) = fndK (seeT a t) (cV c.d.key) := by
    unfold pkK
    rw [show (seeT a t).pk = t.pk from rfl, hky]
  rw [← hn, hbl, WPart.turn G ht hn.symm, hsee]
  rw [hsee] at hlen
  unfold wrD
  cases e : fndK (seeT a t) (cV c.d.key) with
  | none =>
    rw [if_pos (by simp), ins_at G ht]
    have e1 : insR (seeT a t) c.d.row = (withR (seeT a t) (putBy (pkK t.pk) c.d.row (seeT a t).rows), 0) := by
      unfold insR
      rw [show (seeT a t).cols = t.cols from rfl, hchk, if_neg (by simp), ek, e]
      simp only
      rw [putBy_len_new (pkK t.pk) (fun r hr e' => fndK_none e r hr (by rw [show (seeT a t).pk = t.pk from rfl, e']; unfold pkK; rw [hky]))] at hlen
      rw [if_neg (by omega)]
      rfl
    rw [e1]
    rfl
  | some r =>
    rw [if_neg (by simp), upd_at G ht]
    have e1 : updR (seeT a t) c.d.row = (withR (seeT a t) (putBy (pkK t.pk) c.d.row (seeT a t).rows), 0) := by
      unfold updR
      rw [show (seeT a t).cols = t.cols from rfl, hchk, if_neg (by simp), ek, e]
      rfl
    rw [e1]
    rfl
/-- The lists of the two rounds. -/
theorem gnW_snoc {i : Nat} {c : WCh} (h : l[i]? = some c) : gnW (l.take (i + 1)) = if c.d.gone = true then gnW (l.take i) ++ [c] else gnW (l.take i) := by
  unfold gnW
  rw [List.take_add_one, h]
  simp only [Option.toList_some, List.filter_append]
  cases e : c.d.gone <;> simp [e]
theorem rwW_snoc {i : Nat} {c : WCh} (h : l[i]? = some c) : rwW (l.take (i + 1)) = if c.d.gone = true then rwW (l.take i) else rwW (l.take i) ++ [c] := by
  unfold rwW
  rw [List.take_add_one, h]
  simp only [Option.toList_some, List.filter_append]
  cases e : c.d.gone <;> simp [e]
theorem gn_part (h : WsOk l D) (i : Nat) : WPart (gnW (l.take i)) l :=
  ⟨fun c hc => List.mem_of_mem_take ((List.mem_filter.mp hc).1), h.nd.sublist ((List.filter_sublist).trans (List.take_sublist _ _))⟩
theorem both_part (h : WsOk l D) : WPart (gnW l ++ rwW l) l := by
  refine ⟨fun c hc => ?_, ?_⟩
  · rcases List.mem_append.mp hc with hc | hc
    · exact (List.mem_filter.mp hc).1
    · exact (List.mem_filter.mp hc).1
  · rw [List.pairwise_append]
    refine ⟨h.nd.sublist List.filter_sublist, h.nd.sublist List.filter_sublist, fun x hx y hy e => ?_⟩
    have gx := (List.mem_filter.mp hx).2
    have gy := (List.mem_filter.mp hy).2
    have hxl := (List.mem_filter.mp hx).1
    have hyl := (List.mem_filter.mp hy).1
    have hne : x ≠ y := fun e => by rw [e] at gx; rw [gx] at gy; cases gy
    rcases pw_mem h.nd hxl hyl with c | c | c
    · exact hne c
    · exact c e
    · exact c ⟨e.1.symm, e.2.symm⟩
theorem both_all : ∀ x ∈ l, x ∈ gnW l ++ rwW l := by
  intro x hx
  rw [List.mem_append]
  cases e : x.d.gone with
  | true => exact .inl (List.mem_filter.mpr ⟨hx, e⟩)
  | false => exact .inr (List.mem_filter.mpr ⟨hx, by rw [e]; rfl⟩)
/-- The first round's step. -/
theorem ap1 (h : WsG l D) (G : DGd D) {i : Nat} {c : WCh} (hi : l[i]? = some c) (hg : c.d.gone = true) : delD (seeD (gnW (l.take i)) D) c.d.tab c.d.key = (seeD (gnW (l.take (i + 1))) D, 0) := by
  have p := gn_part h.o (i + 1)
  rw [gnW_snoc hi, if_pos hg] at p ⊢
  exact ap_gone p h.o G hg
/-- The second round's step. -/
theorem ap2 (h : WsG l D) (G : DGd D) {i : Nat} {c : WCh} (hi : l[i]? = some c) (hg : c.d.gone = false) : wrD (!blwP (seeD (gnW l ++ rwW (l.take i)) D) c.d.tab c.d.key) (seeD (gnW l ++ rwW (l.take i)) D) c.d.tab c.d.row = (seeD (gnW l ++ rwW (l.take (i + 1))) D, 0) := by
  have e : rwW l = rwW (l.take i) ++ [c] ++ rwW (l.drop (i + 1)) := by
    have h1 : l = l.take (i + 1) ++ l.drop (i + 1) := (List.take_append_drop _ _).symm
    have h2 : rwW l = rwW (l.take (i + 1)) ++ rwW (l.drop (i + 1)) := by
      unfold rwW
      rw [← List.filter_append, ← h1]
    rw [h2, rwW_snoc hi, if_neg (by rw [hg]; simp)]
  have p := both_part h.o
  have al := both_all (l := l)
  rw [e] at p
  rw [rwW_snoc hi, if_neg (by rw [hg]; simp), ← List.append_assoc]
  refine ap_row (b := rwW (l.drop (i + 1))) ?_ h G ?_ (fun x hx => by simpa using (List.mem_filter.mp hx).2) hg
  · simpa [List.append_assoc] using p
  · intro x hx
    have := al x hx
    rw [e] at this
    simpa [List.append_assoc] using this
theorem ap_end (h : WsG l D) (G : DGd D) : seeD (gnW l ++ rwW l) D = seeD l D := (both_part h.o).all h.o G both_all
end
end Go.Proofs.Qxb6500412aGreat
