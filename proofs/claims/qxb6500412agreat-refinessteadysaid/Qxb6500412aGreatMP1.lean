/-
  OWN WORK. THE TABLE LAW's MODEL, plain: the place of a key.
-/
import Derived.Test.Qxb6500412aGreatMM5
import Derived.Test.Qxb6500412aGreatJS5
import Derived.Test.Qxb6500412aGreatJH2
namespace Go.Proofs.Qxb6500412aGreat
open Go.RowKit Go.PlainAid
set_option linter.unusedSimpArgs false
set_option linter.unusedVariables false

theorem GP.refl {D : Db} (d : DOk D) : GP D D := ⟨List.Perm.refl _, fun t ht t0 h0 e => by
  obtain rfl : t = t0 := by_key (fun t : Tb => t.nm) d.srt ht h0 e
  exact ⟨rfl, rfl, rfl, rfl, List.Perm.refl _⟩⟩
theorem GFR.mno {l : List GE} {D : Db} (hD : l.map (·.t) = D) (d : DOk D) {s : ByteArray} {r : Int} (h : GFR l s r) (hr : r < 0) : findD D s = none := by
  refine GFR.no (cl := l) ?_ h hr
  rw [hD]
  exact GP.refl d
theorem GFR.myes {l : List GE} {D : Db} (hD : l.map (·.t) = D) (d : DOk D) {s : ByteArray} {r : Int} (h : GFR l s r) (hr : 0 ≤ r) : ∃ (i : Nat) (e : GE), r = i ∧ l[i]? = some e ∧ e.t.nm = s ∧ findD D s = some e.t ∧ e.t ∈ D := by
  have P : GP (l.map (·.t)) D := by rw [hD]; exact GP.refl d
  obtain ⟨i, e, t0, h1, h2, h3, h4, h5, h6⟩ := GFR.yes (cl := l) P h hr
  have hm : e.t ∈ D := by rw [← hD]; exact List.mem_map.mpr ⟨e, List.mem_of_getElem? h2, rfl⟩
  have := findD_uniq d hm h3 h4
  rw [this] at h4
  exact ⟨i, e, h1, h2, h3, h4, hm⟩
theorem putBy_at {α : Type} (f : α → ByteArray) (r : α) : ∀ (l : List α) (p : Nat), p ≤ l.length → (∀ (j : Nat) (x : α), j < p → l[j]? = some x → lt (f x) (f r) = true) → (∀ x, l[p]? = some x → lt (f x) (f r) = false ∧ f x ≠ f r) → putBy f r l = l.take p ++ r :: l.drop p
  | [], p, hp, _, _ => by
    obtain rfl : p = 0 := by simpa using hp
    rfl
  | e :: l, 0, _, _, h2 => by
    obtain ⟨a, b⟩ := h2 e rfl
    unfold putBy
    rw [if_neg (by rw [a]; simp), if_neg b]
    rfl
  | e :: l, p + 1, hp, h1, h2 => by
    unfold putBy
    rw [if_pos (h1 0 e (by omega) rfl), putBy_at f r l p (by simpa using hp) (fun j x hj hx => h1 (j + 1) x (by omega) (by simpa using hx)) (fun x hx => h2 x (by simpa using hx))]
    rfl
theorem putBy_on {α : Type} (f : α → ByteArray) (r : α) : ∀ (l : List α) (p : Nat), (∀ (j : Nat) (x : α), j < p → l[j]? = some x → lt (f x) (f r) = true) → (∃ x, l[p]? = some x ∧ f x = f r) → putBy f r l = l.set p r
  | [], p, _, ⟨x, hx, _⟩ => by simp at hx
  | e :: l, 0, _, ⟨x, hx, he⟩ => by
    obtain rfl : e = x := by simpa using hx
    unfold putBy
    rw [if_neg (by rw [he, lt_irr]; simp), if_pos he]
    rfl
  | e :: l, p + 1, h1, ⟨x, hx, he⟩ => by
    unfold putBy
    rw [if_pos (h1 0 e (by omega) rfl), putBy_on f r l p (fun j x hj hx => h1 (j + 1) x (by omega) (by simpa using hx)) ⟨x, by simpa using hx, he⟩]
    rfl
section
variable {t : Tb} {key : Vl} {p : Nat} {hit : Bool}
theorem Plc.codes (ok : TbOk t) (hf : key.fit) (hs : ∀ x, t.cols[t.pk]? = some x → key.str = x.2) (h : Plc t key p hit) : (∀ (j : Nat) (r : List Vl), j < p → t.rows[j]? = some r → lt (pkK t.pk r) (cV key) = true) ∧ ∀ r, t.rows[p]? = some r → lt (pkK t.pk r) (cV key) = false ∧ (hit = true ↔ pkK t.pk r = cV key) := by
  obtain ⟨x, hx⟩ := getE (l := t.cols) (i := t.pk) ok.pkn
  have key0 : ∀ r ∈ t.rows, (kyR t.pk r).fit ∧ (kyR t.pk r).str = key.str := fun r hr => by
    obtain ⟨a, b⟩ := RowOk.kc ok hx hr
    exact ⟨a, by rw [b, hs x hx]⟩
  refine ⟨fun j r hj hr => ?_, fun r hr => ?_⟩
  · obtain ⟨a, b⟩ := key0 r (List.mem_of_getElem? hr)
    have h1 := h.2.1 j r hj hr
    unfold pkK
    rw [cV_lt a hf b, ← vcmp_flip]
    exact decide_eq_true (by omega)
  · obtain ⟨a, b⟩ := key0 r (List.mem_of_getElem? hr)
    obtain ⟨h1, h2⟩ := h.2.2.1 (List.getElem?_eq_some_iff.mp hr).1 r hr
    refine ⟨?_, ?_⟩
    · unfold pkK
      rw [cV_lt a hf b, ← vcmp_flip]
      exact decide_eq_false (by omega)
    · rw [h2]
      unfold pkK
      constructor
      · intro e
        have := (vcmp_zero hf a b.symm).mp (by simpa using e)
        rw [this]
      · intro e
        rw [cV_inj a hf b e, vcmp_self]
        rfl
theorem Plc.yes (ok : TbOk t) (hf : key.fit) (hs : ∀ x, t.cols[t.pk]? = some x → key.str = x.2) (h : Plc t key p true) : ∃ r, t.rows[p]? = some r ∧ pkK t.pk r = cV key ∧ fndK t (cV key) = some r := by
  have hp : p < t.rows.length := by
    rcases Nat.lt_or_ge p t.rows.length with c | c
    · exact c
    · have := h.2.2.2 (by have := h.1; omega)
      cases this
  obtain ⟨r, hr⟩ := getE hp
  have e := ((h.codes ok hf hs).2 r hr).2.mp rfl
  refine ⟨r, hr, e, ?_⟩
  unfold fndK
  cases hq : t.rows.find? (fun r => decide (pkK t.pk r = cV key)) with
  | none =>
    have := List.find?_eq_none.mp hq r (List.mem_of_getElem? hr)
    simp [e] at this
  | some x =>
    have h1 := List.mem_of_find?_eq_some hq
    have h2 := List.find?_some hq
    simp at h2
    rw [by_key (pkK t.pk) ok.srt h1 (List.mem_of_getElem? hr) (h2.trans e.symm)]
theorem Plc.no (ok : TbOk t) (hf : key.fit) (hs : ∀ x, t.cols[t.pk]? = some x → key.str = x.2) (h : Plc t key p false) : fndK t (cV key) = none ∧ (∀ r, t.rows[p]? = some r → lt (pkK t.pk r) (cV key) = false ∧ pkK t.pk r ≠ cV key) := by
  obtain ⟨c1, c2⟩ := h.codes ok hf hs
  have hne : ∀ r, t.rows[p]? = some r → lt (pkK t.pk r) (cV key) = false ∧ pkK t.pk r ≠ cV key := fun r hr => by
    obtain ⟨a, b⟩ := c2 r hr
    exact ⟨a, fun e => by have := b.mpr e; cases this⟩
  refine ⟨?_, hne⟩
  unfold fndK
  rw [List.find?_eq_none]
  intro r hr e
  have e' : pkK t.pk r = cV key := by simpa using e
  obtain ⟨j, hj⟩ := List.getElem?_of_mem hr
  rcases Nat.lt_trichotomy j p with c | c | c
  · have := c1 j r c hj
    rw [e', lt_irr] at this
    cases this
  · subst c
    exact (hne r hj).2 e'
  · obtain ⟨x, hx⟩ := getE (l := t.rows) (i := p) (by have := (List.getElem?_eq_some_iff.mp hj).1; omega)
    obtain ⟨l1, e1⟩ := List.getElem?_eq_some_iff.mp hx
    obtain ⟨l2, e2⟩ := List.getElem?_eq_some_iff.mp hj
    have hlt := List.pairwise_iff_getElem.mp ok.srt p j l1 l2 c
    rw [e1, e2, e'] at hlt
    have := (hne x hx).1
    rw [this] at hlt
    cases hlt
end
end Go.Proofs.Qxb6500412aGreat
