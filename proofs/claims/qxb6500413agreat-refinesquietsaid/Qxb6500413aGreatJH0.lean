/-
  OWN WORK. THE TABLE LAW's GHOST: tables made, dropped, indexed, in memory.
-/
import Derived.Test.Qxb6500413aGreatJG9
import Derived.Test.Qxb6500413aGreatJP3
namespace Go.Proofs.Qxb6500413aGreat
open Go.RowKit Go.PlainAid
set_option linter.unusedSimpArgs false
set_option linter.unusedVariables false

theorem gcs_take : ∀ (l : List GE) (m : Nat), gcs (l.take m) = (gcs l).take (m * 5)
  | [], m => by simp [gcs]
  | e :: r, 0 => by simp [gcs]
  | e :: r, m + 1 => by
    have ih := gcs_take r m
    have h : (m + 1) * 5 = m * 5 + 1 + 1 + 1 + 1 + 1 := by omega
    rw [h, List.take_succ_cons]
    simp only [gcs, ih, List.cons_append, List.nil_append, List.take_succ_cons]
theorem gcs_ix : ∀ {l : List GE} {i : Nat} {e e' : GE}, l[i]? = some e → e'.t.nm = e.t.nm → e'.cv = e.cv → e'.t.pk = e.t.pk → e'.rv = e.rv → gcs (l.set i e') = (gcs l).set (i * 5 + 3) (.int .i64 (ixI e'.t.ix))
  | [], i, e, e', h, _, _, _, _ => by simp at h
  | f :: r, 0, e, e', h, h1, h2, h3, h4 => by
    obtain rfl : f = e := by simpa using h
    simp [gcs, h1, h2, h3, h4]
  | f :: r, i + 1, e, e', h, h1, h2, h3, h4 => by
    have ih := gcs_ix (l := r) (i := i) (e := e) (e' := e') (by simpa using h) h1 h2 h3 h4
    have e : (i + 1) * 5 + 3 = (i * 5 + 3) + 5 := by omega
    rw [e, List.set_cons_succ]
    simp only [gcs, ih, List.cons_append, List.nil_append, List.set_cons_succ]
def withI (t : Tb) (c : Nat) : Tb := { t with ix := some c }
section
variable {w : World} {l : List GE} {b cap i : Nat} {e : GE}
theorem GL.setIx (h : GL w (.slice (some ⟨b, 0, none⟩) l.length cap) l) (hi : l[i]? = some e) {c : Nat} (ok : GOk (withI e.t c)) :
    GL (w.setCell ⟨b, i * 5 + 3, none⟩ (.int .i64 (c : Int))) (.slice (some ⟨b, 0, none⟩) l.length cap) (l.set i ⟨withI e.t c, e.cv, e.rv, e.us⟩) ∧ Only (fun k => k = b) w (w.setCell ⟨b, i * 5 + 3, none⟩ (.int .i64 (c : Int))) := by
  have E := h.el e (List.mem_of_getElem? hi)
  have o1 : Only (fun k => k = b) w (w.setCell ⟨b, i * 5 + 3, none⟩ (.int .i64 (c : Int))) := only1 _ _
  have oo : Only (GUp b e) w (w.setCell ⟨b, i * 5 + 3, none⟩ (.int .i64 (c : Int))) := o1.mono (fun k _ e' => .inl e')
  refine ⟨h.upd hi oo ?_ ⟨ok, E.col.keep o1 (fun k hk e' => h.bne hi k (.inr (.inl hk)) e'), ownsRow_keep E.rs o1 (fun k hk e' => h.bne hi k (.inl hk) e'), E.n, fun p x r hx hr => (E.row p x r hx hr).keep o1 (fun k hk e' => h.bne hi k (.inr (.inr ⟨x, List.mem_of_getElem? hx, hk⟩)) e')⟩ rfl (fun k hk => .inl hk), o1⟩
  rw [gcs_ix (e' := ⟨withI e.t c, e.cv, e.rv, e.us⟩) hi rfl rfl rfl rfl]
  exact gbrowset h.own _
/-- A table more. -/
theorem GL.pushTab {v : Value} (h : GL w v l) {w0 w3 : World} {gg cap3 n : Nat} {nm : ByteArray} {cvv : Value} {cols : List Cl} {pk : Nat} (o0 : Only (fun _ => False) w w0)
    (hown : w3.ownsRow 0 68 5 (.slice (some ⟨gg, 0, none⟩) n cap3) n (gcs l ++ [.string nm, cvv, .int .i64 (pk : Int), .int .i64 (-1), .slice none 0 0])) (hn : n = l.length + 1) (hgrow : w0.grownBy w3 v.ownBlock)
    (C : OwnC w cvv cols) (ok : GOk ⟨nm, cols, pk, none, []⟩) (hnew : ∀ e ∈ l, e.t.nm ≠ nm) (hlen : l.length < 3) :
    GL w3 (.slice (some ⟨gg, 0, none⟩) n cap3) (l ++ [⟨⟨nm, cols, pk, none, []⟩, cvv, .slice none 0 0, []⟩]) ∧ Only (fun k => v.ownBlock = some k) w w3 := by
  have oo : Only (fun k => v.ownBlock = some k) w w3 := (o0.mono (fun _ _ e => e.elim)).grown hgrow (fun k hk _ => hk)
  have vne : ∀ k, v.ownBlock = some k → ∃ c, Has w k c 68 := fun k hk => ownsRow_has h.own hk
  have E' : ∀ e ∈ l, GEl w3 e := fun e he => by
    have E := h.el e he
    refine E.keep oo (fun k hk hv => ?_) (fun k hk hv => ?_)
    · obtain ⟨c, hc⟩ := vne k hv
      exact ownsRow_ne E.rs hc (by decide) k hk rfl
    · obtain ⟨c, hc⟩ := vne k hv
      exact E.imm hk hc (by decide) (by decide)
  refine ⟨⟨?_, fun e he => ?_, ?_, by simp; omega, ?_⟩, oo⟩
  · rw [gcs_app, List.length_append]
    subst hn
    exact hown
  · rcases List.mem_append.mp he with he | he
    · exact E' e he
    · obtain rfl : e = _ := by simpa using he
      refine ⟨ok, C.keep oo (fun k hk hv => ?_), World.ownsRow_nil _ _ _ _, rfl, fun j u r hu => by simp at hu⟩
      obtain ⟨c, hc⟩ := vne k hv
      exact ownsRow_ne C hc (by decide) k hk rfl
  · rw [List.map_append, List.nodup_append]
    refine ⟨h.nd, by simp, fun a ha b hb => ?_⟩
    obtain ⟨e, he, rfl⟩ := List.mem_map.mp ha
    obtain rfl : b = nm := by simpa using hb
    exact hnew e he
  · rw [List.pairwise_append]
    refine ⟨h.sep, List.pairwise_singleton _ _, fun a ha b hb k _ hk => ?_⟩
    obtain rfl : b = _ := by simpa using hb
    unfold GEm at hk
    simp [Value.ownBlock] at hk
/-- The last table in the place of one, the last dropped. -/
theorem GL.dropTab (h : GL w (.slice (some ⟨b, 0, none⟩) l.length cap) l) (hil : i < l.length) {y : GE} (hy : l[l.length - 1]? = some y) {w3 : World} (ho : Only (fun _ => False) (st5 w b i y) w3) :
    GL w3 (.slice (some ⟨b, 0, none⟩) (l.length - 1) cap) ((l.set i y).take (l.length - 1)) ∧ Only (fun k => k = b) w w3 := by
  have oo : Only (fun k => k = b) w w3 := (st5_only w b i y).trans ho (fun _ _ e => e.elim)
  have hl : ((l.set i y).take (l.length - 1)).length = l.length - 1 := by rw [List.length_take, List.length_set]; omega
  have mem : ∀ (j : Nat) (x : GE), ((l.set i y).take (l.length - 1))[j]? = some x → (j ≠ i ∧ j < l.length - 1 ∧ l[j]? = some x) ∨ (j = i ∧ j < l.length - 1 ∧ x = y) := fun j x hx => by
    rw [List.getElem?_take] at hx
    by_cases c : j < l.length - 1
    · rw [if_pos c] at hx
      by_cases cc : i = j
      · subst cc
        rw [List.getElem?_set_self hil] at hx
        cases hx
        exact .inr ⟨rfl, c, rfl⟩
      · rw [List.getElem?_set_ne cc] at hx
        exact .inl ⟨fun e => cc e.symm, c, hx⟩
    · rw [if_neg c] at hx; cases hx
  have old : ∀ (j : Nat) (x : GE), ((l.set i y).take (l.length - 1))[j]? = some x → ∃ p, l[p]? = some x ∧ (p = j ∧ j ≠ i ∨ p = l.length - 1 ∧ j = i) ∧ j < l.length - 1 := fun j x hx => by
    rcases mem j x hx with ⟨a, b, c⟩ | ⟨a, b, rfl⟩
    · exact ⟨j, c, .inl ⟨rfl, a⟩, b⟩
    · exact ⟨_, hy, .inr ⟨rfl, a⟩, b⟩
  have inj : ∀ (j j' p : Nat) , (p = j ∧ j ≠ i ∨ p = l.length - 1 ∧ j = i) → (p = j' ∧ j' ≠ i ∨ p = l.length - 1 ∧ j' = i) → j < l.length - 1 → j' < l.length - 1 → j = j' := by omega
  refine ⟨⟨?_, fun x hx => ?_, ?_, by rw [hl]; have := h.len; omega, ?_⟩, oo⟩
  · rw [hl, gcs_take, gcs_set]
    have R := gbrowset (gbrowset (gbrowset (gbrowset (gbrowset (i := i * 5) h.own (.string y.t.nm)) (i := i * 5 + 1) y.cv) (i := i * 5 + 2) (.int .i64 (y.t.pk : Int))) (i := i * 5 + 3) (.int .i64 (ixI y.t.ix))) (i := i * 5 + 4) y.rv
    exact ownsRow_keep (gcutrow R (by omega)) ho (fun _ _ e => e)
  · obtain ⟨j, hj⟩ := List.getElem?_of_mem hx
    obtain ⟨p, hp, _⟩ := old j x hj
    exact (h.el x (List.mem_of_getElem? hp)).keep oo (fun k hk e' => h.bne hp k (.inl hk) e') (fun k hk e' => h.bne hp k (.inr hk) e')
  · rw [List.Nodup, List.pairwise_iff_getElem]
    intro p q hp hq hpq e'
    rw [List.length_map] at hp hq
    rw [List.getElem_map, List.getElem_map] at e'
    obtain ⟨a, ha, ca, la⟩ := old p _ (List.getElem?_eq_getElem hp)
    obtain ⟨c, hc, cc, lc⟩ := old q _ (List.getElem?_eq_getElem hq)
    obtain ⟨al, ae⟩ := List.getElem?_eq_some_iff.mp ha
    obtain ⟨cl, ce⟩ := List.getElem?_eq_some_iff.mp hc
    have : a = c := nodup_inj h.nd (by rw [List.length_map]; exact al) (by rw [List.length_map]; exact cl) (by rw [List.getElem_map, List.getElem_map, ae, ce]; exact e')
    subst this
    have := inj p q a ca cc la lc
    omega
  · rw [List.pairwise_iff_getElem]
    intro p q hp hq hpq k h1 h2
    obtain ⟨a, ha, ca, la⟩ := old p _ (List.getElem?_eq_getElem hp)
    obtain ⟨c, hc, cc, lc⟩ := old q _ (List.getElem?_eq_getElem hq)
    obtain ⟨al, ae⟩ := List.getElem?_eq_some_iff.mp ha
    obtain ⟨cl, ce⟩ := List.getElem?_eq_some_iff.mp hc
    rw [← ae] at h1
    rw [← ce] at h2
    have hs := List.pairwise_iff_getElem.mp h.sep
    rcases Nat.lt_trichotomy a c with d | d | d
    · exact hs a c al cl d k h1 h2
    · subst d
      have := inj p q a ca cc la lc
      omega
    · exact hs c a cl al d k h2 h1
end
end Go.Proofs.Qxb6500413aGreat
