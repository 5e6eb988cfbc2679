/-
  OWN WORK. THE GRAPH: the directories of a snapshot, plain.
-/
import Derived.Test.Qxb6500417aGreatGCol
namespace Go.Proofs.Qxb6500417aGreat
open Go.RowKit Go.PlainAid
set_option linter.unusedSimpArgs false
set_option linter.unusedVariables false

/-- d is a directory of these paths. -/
def DirP (ps : List Str) (d : Str) : Prop := d = [] ∨ ∃ p ∈ ps, ∃ a b, p = a ++ 47 :: b ∧ d = a ++ [47]
/-- What lies below the directory d. -/
def relE (l : List En) (d : Str) : List En := l.filterMap (fun e => if preB d e.path = true then some (strip d.length e) else none)
theorem relE_nil (l : List En) : relE l [] = l := by
  unfold relE
  induction l with
  | nil => rfl
  | cons e r ih =>
    have : preB [] e.path = true := by rw [preB_iff]; exact ⟨e.path, rfl⟩
    rw [List.filterMap_cons_some (b := e) (by rw [if_pos this]; rfl), ih]
theorem relE_append (l l' : List En) (d : Str) : relE (l ++ l') d = relE l d ++ relE l' d := by simp [relE, List.filterMap_append]
theorem relE_none {l : List En} {d : Str} (h : ∀ e ∈ l, preB d e.path = false) : relE l d = [] := by
  unfold relE
  rw [List.filterMap_eq_nil_iff]
  intro e he
  rw [if_neg (by rw [h e he]; simp)]
/-- A name and a slash at the head. -/
theorem pre_name {a b : Str} {x y : Str} (ha : (47 : UInt8) ∉ a) (hb : (47 : UInt8) ∉ b) (h : a ++ 47 :: x = b ++ 47 :: y) : a = b ∧ x = y := by
  induction a generalizing b with
  | nil =>
    cases b with
    | nil => simpa using h
    | cons c b => simp at h; exact absurd (by rw [← h.1]; simp) hb
  | cons c a ih =>
    cases b with
    | nil => simp at h; exact absurd (by rw [h.1]; simp) ha
    | cons c' b =>
      simp at h
      obtain ⟨h1, h2⟩ := ih (by simp at ha; exact ha.2) (by simp at hb; exact hb.2) h.2
      rw [h.1, h1]; exact ⟨rfl, h2⟩
theorem relE_untop_d {a d : Str} {sub : List En} (ha : (47 : UInt8) ∉ a) : relE (sub.map (under a)) (a ++ 47 :: d) = relE sub d := by
  unfold relE
  rw [List.filterMap_map]
  congr 1
  funext e
  show (if preB (a ++ 47 :: d) (under a e).path = true then some (strip (a ++ 47 :: d).length (under a e)) else none) = _
  by_cases h : preB d e.path = true
  · rw [if_pos h, if_pos (by
      rw [preB_iff] at h ⊢
      obtain ⟨t, ht⟩ := h
      exact ⟨t, by show a ++ 47 :: d ++ t = a ++ 47 :: e.path; rw [← ht]; simp⟩)]
    obtain ⟨p, i, m⟩ := e
    show some (En.mk _ _ _) = some (En.mk _ _ _)
    congr 2
    show (a ++ 47 :: p).drop (a ++ 47 :: d).length = p.drop d.length
    have e1 : (a ++ 47 :: d).length = (a.length + 1) + d.length := by simp; omega
    rw [e1, ← List.drop_drop, drop_under]
  · rw [if_neg h, if_neg (fun hh => h (by
      rw [preB_iff] at hh ⊢
      obtain ⟨t, ht⟩ := hh
      have ht' : a ++ 47 :: (d ++ t) = a ++ 47 :: e.path := by rw [← show (under a e).path = a ++ 47 :: e.path from rfl, ← ht]; simp
      exact ⟨t, (pre_name ha ha ht').2⟩))]
theorem relE_untop_o {t : Tp} {a d : Str} (ht : CanT t) (ha : (47 : UInt8) ∉ a) (hne : ∀ sub, t ≠ .d a sub) : relE (untop t) (a ++ 47 :: d) = [] := by
  refine relE_none (fun e he => ?_)
  cases hp : preB (a ++ 47 :: d) e.path with
  | false => rfl
  | true =>
    exfalso
    rw [preB_iff] at hp
    obtain ⟨q, hq⟩ := hp
    cases t with
    | f e' =>
      simp only [untop, List.mem_singleton] at he
      subst he
      exact ht (by rw [← hq]; simp)
    | d b sub =>
      simp only [untop, List.mem_map] at he
      obtain ⟨e', _, rfl⟩ := he
      have h1 : a ++ 47 :: (d ++ q) = b ++ 47 :: e'.path := by rw [← show (under b e').path = b ++ 47 :: e'.path from rfl, ← hq]; simp
      have := (pre_name ha ht.1 h1).1
      exact hne sub (by rw [this])
theorem keys_pw {ts : List Tp} (hc : Can ts) (hs : (ts.flatMap untop).Pairwise (fun a b => bl a.path b.path = true)) : ts.Pairwise (fun a b => bl (keyT a) (keyT b) = true) := by
  have h := keys_sorted ts hc hs
  rw [List.pairwise_iff_getElem]
  intro i j hi hj hij
  obtain ⟨m, rfl⟩ : ∃ m, j = i + 1 + m := ⟨j - (i + 1), by omega⟩
  induction m with
  | zero => exact h i hj
  | succ m ih =>
    have h1 := ih (by omega) (by omega)
    have h2 := h (i + 1 + m) (by omega)
    exact bl_trans _ _ _ h1 h2
theorem relE_top {l : List En} (hf : Fine l) {a : Str} {sub : List En} (hm : Tp.d a sub ∈ tp l) (d : Str) : relE l (a ++ 47 :: d) = relE sub d := by
  have hcan := tp_canon l
  have hpw := keys_pw hcan (by rw [tp_flat]; exact hf.srt)
  have ha := (can_mem hcan _ hm).1
  have hC := fun t ht => can_mem hcan t ht
  rw [← tp_flat l]
  obtain ⟨pre, post, he⟩ := List.append_of_mem hm
  rw [he] at hpw hC ⊢
  have hne : ∀ t, t ∈ pre ∨ t ∈ post → ∀ sub', t ≠ .d a sub' := by
    rintro t ht sub' rfl
    rw [List.pairwise_append] at hpw
    rcases ht with ht | ht
    · have := hpw.2.2 _ ht _ (by simp : Tp.d a sub ∈ Tp.d a sub :: post)
      have e : bl (a ++ [47]) (a ++ [47]) = true := this
      rw [bl_irr] at e; cases e
    · have := (List.pairwise_cons.1 hpw.2.1).1 _ ht
      have e : bl (a ++ [47]) (a ++ [47]) = true := this
      rw [bl_irr] at e; cases e
  have hz : ∀ (ts : List Tp), (∀ t ∈ ts, CanT t ∧ ∀ sub', t ≠ .d a sub') → relE (ts.flatMap untop) (a ++ 47 :: d) = [] := by
    intro ts
    induction ts with
    | nil => intro _; rfl
    | cons t ts ih =>
      intro h
      rw [List.flatMap_cons, relE_append, ih (fun x hx => h x (by simp [hx])), relE_untop_o (h t (by simp)).1 ha (h t (by simp)).2]; rfl
  rw [List.flatMap_append, List.flatMap_cons, relE_append, relE_append, hz pre (fun t ht => ⟨hC t (by simp [ht]), hne t (.inl ht)⟩), hz post (fun t ht => ⟨hC t (by simp [ht]), hne t (.inr ht)⟩)]
  show [] ++ (relE (sub.map (under a)) (a ++ 47 :: d) ++ []) = _
  rw [relE_untop_d ha]; simp
/-- j is the tree at the directory d of the tree i. -/
inductive SubT (J : Nat → Sl) : Nat → Str → Nat → Prop where
  | self (i : Nat) : SubT J i [] i
  | step {i j : Nat} {r : Rw} {d : Str} (hr : r ∈ (J i).rws) (hd : r.dir = true) (h : SubT J r.id d j) : SubT J i (r.name ++ 47 :: d) j
section
variable {J : Nat → Sl}
/-- A row of a live tree, and its top. -/
theorem Inv.row (hI : Inv J) {i : Nat} (hi : IsT J i) {r : Rw} (hr : r ∈ (J i).rws) : ∃ t ∈ tp (J i).lst, RelT J t r := by
  have hT := hI.tr i hi.1 (liveS_ne hi.2.1) hi.2.2
  obtain ⟨k, hk, rfl⟩ := List.getElem_of_mem hr
  have hlen := hT.rel.len
  exact ⟨_, List.getElem_mem (by omega), hT.rel.get k (by omega) hk⟩
theorem Inv.top (hI : Inv J) {i : Nat} (hi : IsT J i) {t : Tp} (ht : t ∈ tp (J i).lst) : ∃ r ∈ (J i).rws, RelT J t r := by
  have hT := hI.tr i hi.1 (liveS_ne hi.2.1) hi.2.2
  obtain ⟨k, hk, rfl⟩ := List.getElem_of_mem ht
  have hlen := hT.rel.len
  exact ⟨_, List.getElem_mem (by omega), hT.rel.get k hk (by omega)⟩
theorem Inv.rowDir (hI : Inv J) {i : Nat} (hi : IsT J i) {r : Rw} (hr : r ∈ (J i).rws) (hd : r.dir = true) : ∃ sub, Tp.d r.name sub ∈ tp (J i).lst ∧ (J r.id).lst = sub ∧ IsT J r.id := by
  obtain ⟨t, ht, h⟩ := hI.row hi hr
  cases t with
  | f e => rw [h.1] at hd; cases hd
  | d a sub =>
    obtain ⟨_, h2, _, h4, h5⟩ := h
    have hl := hI.lv i hi.1 hi.2.1 r hr
    exact ⟨sub, by rw [h2]; exact ht, h5, hl.1, hl.2, h4⟩
def pathsE (l : List En) : List Str := l.map En.path
theorem dir_under {l : List En} {a : Str} {sub : List En} (hm : Tp.d a sub ∈ tp l) {d : Str} (h : DirP (pathsE sub) d) : DirP (pathsE l) (a ++ 47 :: d) := by
  have hin : ∀ e ∈ sub, under a e ∈ l := fun e he => tp_mem hm _ (List.mem_map.2 ⟨e, he, rfl⟩)
  right
  rcases h with rfl | ⟨p, hp, x, y, h1, h2⟩
  · obtain ⟨e, r, he⟩ := List.exists_cons_of_ne_nil (can_mem (tp_canon l) _ hm).2
    exact ⟨_, List.mem_map.2 ⟨_, hin e (by rw [he]; simp), rfl⟩, a, e.path, rfl, by simp⟩
  · obtain ⟨e, he, rfl⟩ := List.mem_map.1 hp
    refine ⟨_, List.mem_map.2 ⟨_, hin e he, rfl⟩, a ++ 47 :: x, y, ?_, ?_⟩
    · show a ++ 47 :: e.path = _
      rw [h1]; simp
    · rw [h2]; simp
theorem SubT.all (hI : Inv J) {i j : Nat} {d : Str} (h : SubT J i d j) (hi : IsT J i) : IsT J j ∧ relE (J i).lst d = (J j).lst ∧ DirP (pathsE (J i).lst) d ∧ Desc J i j := by
  induction h with
  | self => exact ⟨hi, relE_nil _, .inl rfl, .self⟩
  | step hr hd _ ih =>
    obtain ⟨sub, h1, h2, h3⟩ := hI.rowDir hi hr hd
    obtain ⟨a, b, c, e⟩ := ih h3
    have hf := (hI.tr _ hi.1 (liveS_ne hi.2.1) hi.2.2).fine
    refine ⟨a, ?_, ?_, (Desc.step .self hr).trans e⟩
    · rw [relE_top hf h1, ← h2]; exact b
    · rw [h2] at c; exact dir_under h1 c
theorem SubT.snoc {i t : Nat} {d : Str} (h : SubT J i d t) {r : Rw} (hr : r ∈ (J t).rws) (hd : r.dir = true) : ∃ d', SubT J i d' r.id := by
  induction h with
  | self => exact ⟨_, .step hr hd (.self _)⟩
  | step hr' hd' _ ih => obtain ⟨d', hh⟩ := ih hr; exact ⟨_, .step hr' hd' hh⟩
/-- A directory of the listing is a tree of the store. -/
theorem Inv.subEx (hI : Inv J) : ∀ (n i : Nat), IsT J i → Deep n (J i).lst → ∀ d, DirP (pathsE (J i).lst) d → ∃ j, SubT J i d j
  | 0, i, hi, hd, d, h => by
    rcases h with rfl | ⟨p, hp, _⟩
    · exact ⟨i, .self i⟩
    · rw [deep_nil hd] at hp; simp [pathsE] at hp
  | n + 1, i, hi, hd, d, h => by
    rcases h with rfl | ⟨p, hp, x, y, h1, h2⟩
    · exact ⟨i, .self i⟩
    · obtain ⟨e, he, rfl⟩ := List.mem_map.1 hp
      rw [← tp_flat (J i).lst] at he
      obtain ⟨t, ht, he⟩ := List.mem_flatMap.1 he
      have hc := can_mem (tp_canon (J i).lst) t ht
      cases t with
      | f e' =>
        simp only [untop, List.mem_singleton] at he
        subst he
        exact absurd (by rw [h1]; simp) hc
      | d a sub =>
        obtain ⟨r, hr, hrel⟩ := hI.top hi ht
        obtain ⟨r1, r2, _, r4, r5⟩ := hrel
        have hl := hI.lv i hi.1 hi.2.1 r hr
        have hT : IsT J r.id := ⟨hl.1, hl.2, r4⟩
        have hds := Deep.sub hd ht
        rw [← r5] at hds
        simp only [untop, List.mem_map] at he
        obtain ⟨e', he', rfl⟩ := he
        have h1' : a ++ 47 :: e'.path = x ++ 47 :: y := h1
        have key : ∃ d', d = a ++ 47 :: d' ∧ DirP (pathsE sub) d' := by
          by_cases hx : (47 : UInt8) ∈ x
          · obtain ⟨u, v, hu⟩ := List.append_of_mem hx
            -- the first slash of x is that behind a
            have : ∃ z, x = a ++ 47 :: z ∧ e'.path = z ++ 47 :: y := by
              have hpre : a ++ [47] <+: x ++ 47 :: y := ⟨e'.path, by rw [← h1']; simp⟩
              have hax : a.length + 1 ≤ x.length := by
                have hcut : ∀ (q : Str), (47 : UInt8) ∈ q → ∃ u v, q = u ++ 47 :: v ∧ (47 : UInt8) ∉ u := by
                  intro q
                  induction q with
                  | nil => intro h; simp at h
                  | cons c q ih =>
                    intro h
                    by_cases e : c = 47
                    · exact ⟨[], q, by rw [e]; rfl, by simp⟩
                    · simp at h
                      rcases h with h | h
                      · exact absurd h.symm e
                      · obtain ⟨u, v, h1, h2⟩ := ih h
                        exact ⟨c :: u, v, by rw [h1]; rfl, by simp; exact ⟨fun h => e h.symm, h2⟩⟩
                obtain ⟨u', v', hq, hn⟩ := hcut x hx
                have e2 : a ++ 47 :: e'.path = u' ++ 47 :: (v' ++ 47 :: y) := by rw [h1', hq]; simp
                obtain ⟨e3, _⟩ := pre_name hc.1 hn e2
                rw [hq, e3]; simp
              obtain ⟨z, hz⟩ := List.prefix_of_prefix_length_le hpre (List.prefix_append x (47 :: y)) (by simpa using hax)
              refine ⟨z, by rw [← hz]; simp, ?_⟩
              have : a ++ 47 :: e'.path = a ++ 47 :: (z ++ 47 :: y) := by rw [h1', ← hz]; simp
              simpa using this
            obtain ⟨z, hz1, hz2⟩ := this
            exact ⟨z ++ [47], by rw [h2, hz1]; simp, .inr ⟨_, List.mem_map.2 ⟨e', he', rfl⟩, z, y, hz2, rfl⟩⟩
          · obtain ⟨e3, _⟩ := pre_name hc.1 hx h1'
            exact ⟨[], by rw [h2, ← e3], .inl rfl⟩
        obtain ⟨d', hd', hD⟩ := key
        rw [← r5] at hD
        obtain ⟨j, hj⟩ := Inv.subEx hI n r.id hT hds d' hD
        refine ⟨j, ?_⟩
        rw [hd', ← r2]
        exact .step hr r1 hj
theorem Inv.subEx6 (hI : Inv J) {i : Nat} (hi : IsT J i) {d : Str} (h : DirP (pathsE (J i).lst) d) : ∃ j, SubT J i d j :=
  hI.subEx 6 i hi (hI.tr i hi.1 (liveS_ne hi.2.1) hi.2.2).fine.deep d h
/-- What a tree names, is at a directory or in one. -/
theorem Desc.sub (hI : Inv J) {i j : Nat} (hi : IsT J i) (h : Desc J i j) : ((J j).kd = 2 → ∃ d, SubT J i d j) ∧ ((J j).kd = 1 → ∃ e ∈ (J i).lst, e.id = (j : Int)) := by
  induction h with
  | self => exact ⟨fun _ => ⟨_, .self _⟩, fun h => by rw [hi.2.2] at h; omega⟩
  | step hd hr ih =>
    rename_i t r
    have hl := hd.live hI ⟨hi.1, hi.2.1⟩
    have hk : (J t).kd = 2 := by
      by_cases h : (J t).kd = 2
      · exact h
      · rw [(hI.nt t hl.1 (liveS_ne hl.2) h).2] at hr; simp at hr
    obtain ⟨d, hS⟩ := ih.1 hk
    obtain ⟨hTt, hrel, _⟩ := hS.all hI hi
    obtain ⟨tt, htt, hR⟩ := hI.row hTt hr
    cases tt with
    | f e =>
      obtain ⟨h1, h2, h3, h4, h5⟩ := hR
      refine ⟨fun h => by omega, fun _ => ?_⟩
      have he : e ∈ (J t).lst := by
        rw [← tp_flat (J t).lst]
        exact List.mem_flatMap.2 ⟨_, htt, by simp [untop]⟩
      rw [← hrel] at he
      unfold relE at he
      obtain ⟨e0, he0, hq⟩ := List.mem_filterMap.1 he
      refine ⟨e0, he0, ?_⟩
      by_cases hp : preB d e0.path = true
      · rw [if_pos hp] at hq
        have : strip d.length e0 = e := by simpa using hq
        rw [h3, ← this]; rfl
      · rw [if_neg hp] at hq; cases hq
    | d a sub =>
      refine ⟨fun _ => hS.snoc hr hR.1, fun h => by have := hR.2.2.2.1; omega⟩
/-- Every file of a tree is named by it. -/
theorem Inv.fileDesc (hI : Inv J) {i : Nat} (hi : IsT J i) : ∀ e ∈ (J i).lst, Desc J i e.id.toNat := by
  have hR : Res J J (fun j => Desc J i j) := ⟨fun j _ _ hl => ⟨hl, Kept.refl _⟩, fun t _ h _ r hr => .step h hr⟩
  exact hR.blobs hI 6 i hi .self (hI.tr i hi.1 (liveS_ne hi.2.1) hi.2.2).fine.deep
end
end Go.Proofs.Qxb6500417aGreat
