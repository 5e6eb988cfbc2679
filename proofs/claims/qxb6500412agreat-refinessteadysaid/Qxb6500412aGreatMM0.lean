/-
  OWN WORK. THE TABLE LAW's MODEL: its tables in memory (written by tools/gen_mm0.py).
-/
import Derived.Test.Qxb6500412aGreatJH0
namespace Go.Proofs.Qxb6500412aGreat
open Go.RowKit Go.PlainAid
set_option linter.unusedSimpArgs false
set_option linter.unusedVariables false

/-- A list of the ghost's tables. -/
structure ML (w : World) (v : Value) (l : List GE) : Prop where
  own : w.ownsRow 0 249 5 v l.length (gcs l)
  el : ∀ e ∈ l, GEl w e
  nd : (l.map (·.t.nm)).Nodup
  len : l.length ≤ 3
  sep : l.Pairwise (fun a b => ∀ k, GEm a k → ¬ GEm b k)
def MLm (v : Value) (l : List GE) (k : Nat) : Prop := v.ownBlock = some k ∨ ∃ e ∈ l, GEm e k
def MLi (l : List GE) (k : Nat) : Prop := ∃ e ∈ l, GEi e k
section
variable {w w' : World} {v : Value} {l : List GE}
theorem ML.keep {B : Nat → Prop} (h : ML w v l) (ho : Only B w w') (hm : ∀ k, MLm v l k → ¬ B k) (hi : ∀ k, MLi l k → ¬ B k) : ML w' v l :=
  ⟨ownsRow_keep h.own ho (fun k hk => hm k (.inl hk)), fun e he => (h.el e he).keep ho (fun k hk => hm k (.inr ⟨e, he, hk⟩)) (fun k hk => hi k ⟨e, he, hk⟩), h.nd, h.len, h.sep⟩
theorem ML.quiet (h : ML w v l) (ho : Only (fun _ => False) w w') : ML w' v l := h.keep ho (fun _ _ e => e) (fun _ _ e => e)
theorem ML.lt (h : ML w v l) : ∀ k, MLm v l k ∨ MLi l k → k < w.heap.size := by
  rintro k ((hk | ⟨e, he, hk⟩) | ⟨e, he, hk⟩)
  · exact ownsRow_lt h.own k hk
  · exact (h.el e he).lt k (.inl hk)
  · exact (h.el e he).lt k (.inr hk)
theorem ML.nil (w : World) : ML w (.slice none 0 0) [] := ⟨World.ownsRow_nil _ _ _ _, fun _ h => (by simp at h), List.nodup_nil, Nat.zero_le _, List.Pairwise.nil⟩
theorem ML.shape (h : ML w v l) : ∃ a cap, v = .slice a l.length cap := ownsRow_shape h.own
theorem ML.at_ {a : Option Addr} {n cap : Nat} (h : ML w (.slice a n cap) l) {i : Nat} {x : GE} (hx : l[i]? = some x) : ∃ g, a = some ⟨g, 0, none⟩ ∧ w.cell? ⟨g, i * 5, none⟩ = some (.string x.t.nm) ∧ w.cell? ⟨g, i * 5 + 1, none⟩ = some x.cv ∧ w.cell? ⟨g, i * 5 + 2, none⟩ = some (.int .i64 (x.t.pk : Int)) ∧ w.cell? ⟨g, i * 5 + 3, none⟩ = some (.int .i64 (ixI x.t.ix)) ∧ w.cell? ⟨g, i * 5 + 4, none⟩ = some x.rv := by
  have hi := (List.getElem?_eq_some_iff.mp hx).1
  rcases h.own.2 with ⟨he, h0⟩ | ⟨g, cap', cur, he, _⟩
  · omega
  · obtain ⟨rfl, _⟩ : a = some ⟨g, 0, none⟩ ∧ True := by
      have := he
      simp at this
      exact ⟨this.1, trivial⟩
    refine ⟨g, rfl, ?_⟩
    have hc := World.ownsRow.cells h.own (g := g) (by first | exact rfl | simp [Value.ownBlock])
    obtain ⟨a1, a2, a3, a4, a5⟩ := gcs_at l i hx
    have b1 := hc _ _ a1
    have b2 := hc _ _ a2
    have b3 := hc _ _ a3
    have b4 := hc _ _ a4
    have b5 := hc _ _ a5
    rw [addr_add] at b1 b2 b3 b4 b5
    exact ⟨b1, b2, b3, b4, b5⟩
/-- A mutable block of a list is no immutable block of another. -/
theorem ML.mi {v2 : Value} {l2 : List GE} (h : ML w v l) (h2 : ML w v2 l2) {k : Nat} (hm : MLm v l k) (hi : MLi l2 k) : False := by
  obtain ⟨e, he, hi⟩ := hi
  rcases hm with hm | ⟨e', he', hm⟩
  · obtain ⟨c, hc⟩ := ownsRow_has h.own hm
    exact (h2.el e he).imm hi hc (by decide) (by decide)
  · obtain ⟨c, hc⟩ := ownsRow_has (h.el e' he').rs hm
    exact (h2.el e he).imm hi hc (by decide) (by decide)
end
theorem ML.pt {w : World} {v : Value} {l : List GE} (h : ML w v l) {i : Nat} {x : GE} (hx : l[i]? = some x) : ∃ g cap, v = .slice (some ⟨g, 0, none⟩) l.length cap ∧ GPt w g (i * 5) x ∧ GEl w x := by
  obtain ⟨a, cap, rfl⟩ := h.shape
  obtain ⟨g, rfl, a0, a1, a2, a3, a4⟩ := h.at_ hx
  exact ⟨g, cap, rfl, ⟨a0, a1, a2, a3, a4⟩, h.el x (List.mem_of_getElem? hx)⟩
theorem ML.neT {w : World} {v : Value} {l : List GE} (h : ML w v l) {g : Nat} {c : Array Value} {t : TypeId} (H : Has w g c t) (h1 : 249 ≠ t) (h2 : 95 ≠ t) (h3 : 149 ≠ t) (h4 : 152 ≠ t) : ∀ k, MLm v l k ∨ MLi l k → k ≠ g := by
  rintro k ((hk | ⟨e, he, hk⟩) | ⟨e, he, hk⟩) rfl
  · exact ownsRow_ne h.own H h1 k hk rfl
  · exact ownsRow_ne (h.el e he).rs H h2 k hk rfl
  · exact (h.el e he).imm hk H h3 h4
theorem ML.upd {w w' : World} {l : List GE} {b cap i : Nat} {e e' : GE} (h : ML w (.slice (some ⟨b, 0, none⟩) l.length cap) l) (hi : l[i]? = some e) (ho : Only (GUp b e) w w') (own : w'.ownsRow 0 249 5 (.slice (some ⟨b, 0, none⟩) l.length cap) l.length (gcs (l.set i e'))) (E : GEl w' e') (hn : e'.t.nm = e.t.nm) (hm : ∀ k, GEm e' k → GEm e k ∨ w.heap.size ≤ k) : ML w' (.slice (some ⟨b, 0, none⟩) l.length cap) (l.set i e') := by
  have hil := (List.getElem?_eq_some_iff.mp hi).1
  have hie : l[i] = e := (List.getElem?_eq_some_iff.mp hi).2
  have E0 := h.el e (List.mem_of_getElem? hi)
  have sep : ∀ (j : Nat) (hj : j < l.length), j ≠ i → ∀ k, GEm l[j] k → ¬ GEm e k := fun j hj hne k h1 h2 => by
    have hp := List.pairwise_iff_getElem.mp h.sep
    rcases Nat.lt_or_gt_of_ne hne with c | c
    · exact hp j i hj hil c k h1 (by rw [hie]; exact h2)
    · exact hp i j hil hj c k (by rw [hie]; exact h2) h1
  have mi : ∀ k, GUp b e k → ∀ x ∈ l, ¬ GEi x k := fun k hk x hx hxi => by
    refine ML.mi h h (k := k) ?_ ⟨x, hx, hxi⟩
    rcases hk with rfl | hk
    · exact .inl rfl
    · exact .inr ⟨e, List.mem_of_getElem? hi, hk⟩
  have old : ∀ (j : Nat) (hj : j < l.length), j ≠ i → GEl w' l[j] := fun j hj hne => by
    have X := h.el l[j] (List.getElem_mem hj)
    refine X.keep ho (fun k hk hk' => ?_) (fun k hk hk' => mi k hk' l[j] (List.getElem_mem hj) hk)
    rcases hk' with rfl | hk'
    · obtain ⟨c, hc⟩ := ownsRow_has X.rs hk
      obtain ⟨c2, hc2⟩ := ownsRow_has h.own (k := k) rfl
      exact absurd (hc.inj hc2).2 (by decide)
    · exact sep j hj hne k hk hk'
  refine ⟨by rw [List.length_set]; exact own, fun x hx => ?_, ?_, by rw [List.length_set]; exact h.len, ?_⟩
  · obtain ⟨j, hj⟩ := List.getElem?_of_mem hx
    by_cases c : i = j
    · subst c
      rw [List.getElem?_set_self hil] at hj
      cases hj
      exact E
    · rw [List.getElem?_set_ne c] at hj
      obtain ⟨hjl, rfl⟩ := List.getElem?_eq_some_iff.mp hj
      exact old j hjl (fun e => c e.symm)
  · have : (l.set i e').map (·.t.nm) = l.map (·.t.nm) := by
      rw [List.map_set]
      apply List.ext_getElem?
      intro j
      by_cases c : i = j
      · subst c
        rw [List.getElem?_set_self (by simpa using hil)]
        simp [hi, hn]
      · rw [List.getElem?_set_ne c]
    rw [this]
    exact h.nd
  · rw [List.pairwise_iff_getElem]
    intro p q hp hq hpq k h1 h2
    rw [List.length_set] at hp hq
    rw [List.getElem_set] at h1 h2
    by_cases cp : i = p
    · rw [if_pos cp] at h1
      rw [if_neg (by omega)] at h2
      rcases hm k h1 with h3 | h3
      · exact sep q hq (by omega) k h2 h3
      · have := (h.el l[q] (List.getElem_mem hq)).lt k (.inl h2)
        omega
    · rw [if_neg cp] at h1
      by_cases cq : i = q
      · rw [if_pos cq] at h2
        rcases hm k h2 with h3 | h3
        · exact sep p hp (by omega) k h1 h3
        · have := (h.el l[p] (List.getElem_mem hp)).lt k (.inl h1)
          omega
      · rw [if_neg cq] at h2
        exact List.pairwise_iff_getElem.mp h.sep p q hp hq hpq k h1 h2
section
variable {w : World} {l : List GE} {b cap i : Nat} {e : GE}
/-- The list's block is none of the rows' blocks. -/
theorem ML.bne (h : ML w (.slice (some ⟨b, 0, none⟩) l.length cap) l) (hi : l[i]? = some e) : ∀ k, GEm e k ∨ GEi e k → k ≠ b := by
  obtain ⟨c, hc⟩ := ownsRow_has h.own (k := b) rfl
  have E := h.el e (List.mem_of_getElem? hi)
  rintro k (hk | hk) rfl
  · exact ownsRow_ne E.rs hc (by decide) k hk rfl
  · exact E.imm hk hc (by decide) (by decide)
/-- A row in the place of another. -/
theorem ML.setRow (h : ML w (.slice (some ⟨b, 0, none⟩) l.length cap) l) (hi : l[i]? = some e) {rg rc j : Nat} (hrv : e.rv = .slice (some ⟨rg, 0, none⟩) e.t.rows.length rc) (hj : j < e.t.rows.length) {u : Value} {row : List Vl} (hu : OwnV w u row) (ok : GOk (withR e.t (e.t.rows.set j row))) :
    ML (w.setCell ⟨rg, j, none⟩ u) (.slice (some ⟨b, 0, none⟩) l.length cap) (l.set i ⟨withR e.t (e.t.rows.set j row), e.cv, e.rv, e.us.set j u⟩) ∧ Only (GUp b e) w (w.setCell ⟨rg, j, none⟩ u) := by
  have E := h.el e (List.mem_of_getElem? hi)
  have hm : GEm e rg := by unfold GEm; rw [hrv]; rfl
  have o1 : Only (fun k => k = rg) w (w.setCell ⟨rg, j, none⟩ u) := only1 _ _
  have oo : Only (GUp b e) w (w.setCell ⟨rg, j, none⟩ u) := o1.mono (fun k _ e' => .inr (by rw [e']; exact hm))
  have hbr := h.bne hi rg (.inl hm)
  obtain ⟨c, hc⟩ := ownsRow_has E.rs hm
  have n := E.n
  have iv : ∀ {x : Value} {r : List Vl}, OwnV w x r → OwnV (w.setCell ⟨rg, j, none⟩ u) x r := fun O => O.keep o1 (fun k hk e' => ownsRow_ne O hc (by decide) k hk e')
  refine ⟨h.upd hi oo ?_ ⟨ok, E.col.keep o1 (fun k hk e' => ownsRow_ne E.col hc (by decide) k hk e'), ?_, ?_, fun p x r hx hr => ?_⟩ rfl (fun k hk => .inl hk), oo⟩
  · rw [gcs_same (e' := ⟨withR e.t (e.t.rows.set j row), e.cv, e.rv, e.us.set j u⟩) hi rfl rfl rfl rfl rfl]
    exact ownsRow_keep h.own o1 (fun k hk e' => by simp [Value.ownBlock] at hk; omega)
  · have R := E.rs
    rw [hrv] at R ⊢
    rw [n] at R
    simp only [List.length_set]
    rw [n]
    exact gbrowset R u
  · simp only [List.length_set, withR]; exact n
  · simp only [withR] at hr
    by_cases cc : j = p
    · subst cc
      rw [List.getElem?_set_self (by omega)] at hx
      rw [List.getElem?_set_self hj] at hr
      cases hx
      cases hr
      exact iv hu
    · rw [List.getElem?_set_ne cc] at hx hr
      exact iv (E.row p x r hx hr)
/-- The rows cut short. -/
theorem ML.cutRow (h : ML w (.slice (some ⟨b, 0, none⟩) l.length cap) l) (hi : l[i]? = some e) {rg rc m : Nat} (hrv : e.rv = .slice (some ⟨rg, 0, none⟩) e.t.rows.length rc) (hm : m ≤ e.t.rows.length) (ok : GOk (withR e.t (e.t.rows.take m))) :
    ML (w.setCell ⟨b, i * 5 + 4, none⟩ (.slice (some ⟨rg, 0, none⟩) m rc)) (.slice (some ⟨b, 0, none⟩) l.length cap) (l.set i ⟨withR e.t (e.t.rows.take m), e.cv, .slice (some ⟨rg, 0, none⟩) m rc, e.us.take m⟩) ∧ Only (GUp b e) w (w.setCell ⟨b, i * 5 + 4, none⟩ (.slice (some ⟨rg, 0, none⟩) m rc)) := by
  have E := h.el e (List.mem_of_getElem? hi)
  have hge : GEm e rg := by unfold GEm; rw [hrv]; rfl
  have o1 : Only (fun k => k = b) w (w.setCell ⟨b, i * 5 + 4, none⟩ (.slice (some ⟨rg, 0, none⟩) m rc)) := only1 _ _
  have oo : Only (GUp b e) w (w.setCell ⟨b, i * 5 + 4, none⟩ (.slice (some ⟨rg, 0, none⟩) m rc)) := o1.mono (fun k _ e' => .inl e')
  have n := E.n
  refine ⟨h.upd hi oo ?_ ⟨ok, E.col.keep o1 (fun k hk e' => h.bne hi k (.inr (.inl hk)) e'), ?_, ?_, fun p x r hx hr => ?_⟩ rfl (fun k hk => .inl ?_), oo⟩
  · rw [gcs_rv (e' := ⟨withR e.t (e.t.rows.take m), e.cv, .slice (some ⟨rg, 0, none⟩) m rc, e.us.take m⟩) hi rfl rfl rfl rfl]
    exact gbrowset h.own _
  · have R := E.rs
    rw [hrv, n] at R
    have hl : (e.us.take m).length = m := by rw [List.length_take]; omega
    simp only [hl]
    have := gcutrow R hm
    rw [Nat.mul_one] at this
    exact ownsRow_keep this o1 (fun k hk e' => h.bne hi k (.inl (by simp [Value.ownBlock] at hk; rw [← hk]; exact hge)) e')
  · simp only [withR, List.length_take]; omega
  · simp only [withR] at hr
    rw [List.getElem?_take] at hx hr
    by_cases c : p < m
    · rw [if_pos c] at hx hr
      exact (E.row p x r hx hr).keep o1 (fun k hk e' => h.bne hi k (.inr (.inr ⟨x, List.mem_of_getElem? hx, hk⟩)) e')
    · rw [if_neg c] at hx; cases hx
  · have : k = rg := by unfold GEm at hk; simp [Value.ownBlock] at hk; exact hk.symm
    rw [this]
    exact hge
end
section
variable {w : World} {l : List GE} {b cap i : Nat} {e : GE}
theorem ML.setIx (h : ML w (.slice (some ⟨b, 0, none⟩) l.length cap) l) (hi : l[i]? = some e) {c : Nat} (ok : GOk (withI e.t c)) :
    ML (w.setCell ⟨b, i * 5 + 3, none⟩ (.int .i64 (c : Int))) (.slice (some ⟨b, 0, none⟩) l.length cap) (l.set i ⟨withI e.t c, e.cv, e.rv, e.us⟩) ∧ Only (fun k => k = b) w (w.setCell ⟨b, i * 5 + 3, none⟩ (.int .i64 (c : Int))) := by
  have E := h.el e (List.mem_of_getElem? hi)
  have o1 : Only (fun k => k = b) w (w.setCell ⟨b, i * 5 + 3, none⟩ (.int .i64 (c : Int))) := only1 _ _
  have oo : Only (GUp b e) w (w.setCell ⟨b, i * 5 + 3, none⟩ (.int .i64 (c : Int))) := o1.mono (fun k _ e' => .inl e')
  refine ⟨h.upd hi oo ?_ ⟨ok, E.col.keep o1 (fun k hk e' => h.bne hi k (.inr (.inl hk)) e'), ownsRow_keep E.rs o1 (fun k hk e' => h.bne hi k (.inl hk) e'), E.n, fun p x r hx hr => (E.row p x r hx hr).keep o1 (fun k hk e' => h.bne hi k (.inr (.inr ⟨x, List.mem_of_getElem? hx, hk⟩)) e')⟩ rfl (fun k hk => .inl hk), o1⟩
  rw [gcs_ix (e' := ⟨withI e.t c, e.cv, e.rv, e.us⟩) hi rfl rfl rfl rfl]
  exact gbrowset h.own _
end
end Go.Proofs.Qxb6500412aGreat
