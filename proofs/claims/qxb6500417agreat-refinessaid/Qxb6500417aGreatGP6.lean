/-
  OWN WORK. THE GRAPH: branches and the head, plain.
-/
import Derived.Test.Qxb6500417aGreatGBr
namespace Go.Proofs.Qxb6500417aGreat
open Go.RowKit Go.PlainAid
set_option linter.unusedSimpArgs false
set_option linter.unusedVariables false

/-- The branch is made, at its place, or moved. -/
def withR : List Rf → ByteArray → Nat → List Rf
  | [], nm, sq => [⟨nm, sq⟩]
  | r :: l, nm, sq => if ltS r.name nm = true then r :: withR l nm sq else if r.name = nm then ⟨nm, sq⟩ :: l else ⟨nm, sq⟩ :: r :: l
def withoutR (l : List Rf) (nm : ByteArray) : List Rf := l.filter (fun r => !decide (r.name = nm))
def hasR (l : List Rf) (nm : ByteArray) : Bool := l.any (fun r => decide (r.name = nm))
theorem withR_new {pre post : List Rf} {nm : ByteArray} {sq : Nat} (h1 : ∀ r ∈ pre, ltS r.name nm = true) (h2 : ∀ r l, post = r :: l → ltS r.name nm = false ∧ r.name ≠ nm) : withR (pre ++ post) nm sq = pre ++ ⟨nm, sq⟩ :: post := by
  induction pre with
  | nil =>
    cases post with
    | nil => rfl
    | cons r l =>
      obtain ⟨a, b⟩ := h2 r l rfl
      show (if ltS r.name nm = true then _ else _) = _
      rw [if_neg (by rw [a]; simp), if_neg b]; rfl
  | cons x pre ih =>
    show (if ltS x.name nm = true then _ else _) = _
    rw [if_pos (h1 x (by simp))]
    exact congrArg (x :: ·) (ih (fun r hr => h1 r (by simp [hr])))
theorem withR_old {pre post : List Rf} {r : Rf} {nm : ByteArray} {sq : Nat} (h1 : ∀ r ∈ pre, ltS r.name nm = true) (h2 : ltS r.name nm = false) (h3 : r.name = nm) : withR (pre ++ r :: post) nm sq = pre ++ ⟨nm, sq⟩ :: post := by
  induction pre with
  | nil =>
    show (if ltS r.name nm = true then _ else _) = _
    rw [if_neg (by rw [h2]; simp), if_pos h3]; rfl
  | cons x pre ih =>
    show (if ltS x.name nm = true then _ else _) = _
    rw [if_pos (h1 x (by simp))]
    exact congrArg (x :: ·) (ih (fun r hr => h1 r (by simp [hr])))
theorem ltS_irr (a : ByteArray) : ltS a a = false := by rw [ltS_eq]; exact bl_irr _
theorem ltS_trans {a b c : ByteArray} (h1 : ltS a b = true) (h2 : ltS b c = true) : ltS a c = true := by rw [ltS_eq] at *; exact bl_trans _ _ _ h1 h2
theorem ltS_tri {a b : ByteArray} (h1 : ltS a b = false) (h2 : a ≠ b) : ltS b a = true := by
  rw [ltS_eq] at *
  rcases bl_total (ls a) (ls b) with h | h | h
  · rw [h] at h1; cases h1
  · exact absurd (ls_inj h) h2
  · exact h
def sbE (A : GA) (nm : ByteArray) (s : Int) : Nat := if goodN nm = false then 14 else if hasN A s = false then 17 else if hasR A.refs nm = false ∧ 4 ≤ A.refs.length then 8 else 0
def dbE (A : GA) (nm : ByteArray) : Nat := if goodN nm = false then 14 else if hasR A.refs nm = false then 16 else 0
def shE (A : GA) (nm : ByteArray) (s m : Int) : Nat := if (if nm.size ≠ 0 then goodN nm = false else False) then 14 else if (nm.size = 0 ∧ hasN A s = false) then 17 else if m ≠ 0 ∧ hasN A m = false then 17 else 0
section
variable {J : Nat → Sl} {rt : Nat} {T : Gt}
/-- The branches with one put in at p. -/
def insB (b : Nat → Br) (p : Nat) (x : Br) (n : Nat) : Nat → Br := fun k => if k < p then b k else if k = p then x else if k ≤ n then b (k - 1) else b k
def delB (b : Nat → Br) (p n : Nat) : Nat → Br := fun k => if k < p then b k else if k + 1 < n then b (k + 1) else Br.zero
theorem GI.hit (h : GI J rt T) {nm : ByteArray} {p : Nat} (hp : WhP T nm p) : hitP T nm p = hasR (absG J T).refs nm := by
  have e : hasR (absG J T).refs nm = T.bs.any (fun b => decide (b.name = nm)) := by
    unfold hasR absG
    rw [List.any_map]; rfl
  rw [e]
  unfold hitP
  by_cases hx : p < T.nb ∧ (T.b p).name = nm
  · rw [decide_eq_true hx.1, decide_eq_true hx.2]
    symm
    rw [Bool.and_true, List.any_eq_true]
    exact ⟨T.b p, mem_bs.2 ⟨p, hx.1, rfl⟩, decide_eq_true hx.2⟩
  · have h1 : (decide (p < T.nb) && decide ((T.b p).name = nm)) = false := by
      rw [Bool.and_eq_false_iff]
      by_cases h2 : p < T.nb
      · right; exact decide_eq_false (fun e => hx ⟨h2, e⟩)
      · left; exact decide_eq_false h2
    rw [h1]
    symm
    rw [List.any_eq_false]
    intro b hb
    obtain ⟨k, hk, rfl⟩ := mem_bs.1 hb
    intro hd
    have hd := of_decide_eq_true hd
    rcases Nat.lt_trichotomy k p with a | a | a
    · have := hp.lo k a
      rw [hd, ltS_irr] at this; cases this
    · exact hx ⟨a ▸ hk, a ▸ hd⟩
    · have h3 := hp.hi (by omega)
      have h4 := h.ref.bo p k a hk
      rw [hd] at h4
      rw [h4] at h3; cases h3
theorem bs_split (T : Gt) {p : Nat} (hp : p < T.nb) : T.bs = (List.range p).map T.b ++ T.b p :: (List.range (T.nb - p - 1)).map (fun k => T.b (p + 1 + k)) := by
  unfold Gt.bs
  apply List.ext_getElem
  · simp; omega
  · intro i h1 h2
    have hi : i < T.nb := by simpa using h1
    rw [List.getElem_map, List.getElem_range]
    by_cases e : i < p
    · rw [List.getElem_append_left (by simpa using e)]; simp
    · rw [List.getElem_append_right (by simp; omega)]
      by_cases e2 : i = p
      · subst e2; simp
      · have : i - ((List.range p).map T.b).length = (i - p - 1) + 1 := by simp; omega
        simp only [this, List.getElem_cons_succ, List.getElem_map, List.getElem_range]
        congr 1
        omega
theorem GI.moveB (h : GI J rt T) {nm : ByteArray} {p id : Nat} (hp : WhP T nm p) (hh : hitP T nm p = true) (hid : IsC T.c id) : GI J rt { T with b := updT T.b p ⟨nm, id⟩ } ∧ absG J { T with b := updT T.b p ⟨nm, id⟩ } = { absG J T with refs := withR (absG J T).refs nm (T.c id).seq } := by
  unfold hitP at hh
  simp only [Bool.and_eq_true, decide_eq_true_eq] at hh
  obtain ⟨hlt, hnm⟩ := hh
  have hself : updT T.b p ⟨nm, id⟩ p = ⟨nm, id⟩ := updT_same _ _ _
  have hoth : ∀ k, k ≠ p → updT T.b p ⟨nm, id⟩ k = T.b k := fun k hk => updT_other _ _ _ _ hk
  have hname : ∀ k, (updT T.b p ⟨nm, id⟩ k).name = (T.b k).name := fun k => by
    by_cases e : k = p
    · rw [e, hself, hnm]
    · rw [hoth k e]
  refine ⟨⟨h.inv, h.tab, h.ord, ⟨h.ref.b4, fun k hk => ?_, fun k l hkl hl => ?_, fun k hk => ?_, h.ref.hn, h.ref.h0, h.ref.mg⟩, h.rut, h.ax, h.n1, h.nx⟩, ?_⟩
  · show goodN (updT T.b p ⟨nm, id⟩ k).name = true ∧ IsC T.c (updT T.b p ⟨nm, id⟩ k).id
    rw [hname]
    refine ⟨(h.ref.bn k hk).1, ?_⟩
    by_cases e : k = p
    · rw [e, hself]; exact hid
    · rw [hoth k e]; exact (h.ref.bn k hk).2
  · show ltS (updT T.b p ⟨nm, id⟩ k).name (updT T.b p ⟨nm, id⟩ l).name = true
    rw [hname, hname]; exact h.ref.bo k l hkl hl
  · have hk' : T.nb ≤ k := hk
    show updT T.b p ⟨nm, id⟩ k = Br.zero
    rw [hoth k (by omega)]; exact h.ref.bz k hk'
  · have hs := bs_split T hlt
    have hs' := bs_split { T with b := updT T.b p ⟨nm, id⟩ } hlt
    have e1 : ((List.range p).map (updT T.b p ⟨nm, id⟩)) = (List.range p).map T.b := List.map_congr_left (fun k hk => hoth k (by
      have hkp : k < p := by simpa using hk
      omega))
    have e2 : (List.range (T.nb - p - 1)).map (fun k => updT T.b p ⟨nm, id⟩ (p + 1 + k)) = (List.range (T.nb - p - 1)).map (fun k => T.b (p + 1 + k)) := List.map_congr_left (fun k _ => hoth _ (by omega))
    have hr : (absG J { T with b := updT T.b p ⟨nm, id⟩ }).refs = withR (absG J T).refs nm (T.c id).seq := by
      show ({ T with b := updT T.b p ⟨nm, id⟩ } : Gt).bs.map (refJ T.c) = withR (T.bs.map (refJ T.c)) nm (T.c id).seq
      rw [hs', hs]
      show (List.map (refJ T.c) ((List.range p).map (updT T.b p ⟨nm, id⟩) ++ updT T.b p ⟨nm, id⟩ p :: (List.range (T.nb - p - 1)).map (fun k => updT T.b p ⟨nm, id⟩ (p + 1 + k)))) = _
      rw [e1, e2, hself, List.map_append, List.map_cons, List.map_append, List.map_cons]
      symm
      apply withR_old
      · intro r hr
        obtain ⟨b, hb, rfl⟩ := List.mem_map.1 hr
        obtain ⟨k, hk, rfl⟩ := List.mem_map.1 hb
        exact hp.lo k (by simpa using hk)
      · show ltS (T.b p).name nm = false
        exact hp.hi hlt
      · exact hnm
    show GA.mk _ _ (absG J { T with b := updT T.b p ⟨nm, id⟩ }).refs _ _ _ _ = _
    rw [hr]
    rfl
theorem insB_lo {b : Nat → Br} {p n k : Nat} {x : Br} (h : k < p) : insB b p x n k = b k := by unfold insB; rw [if_pos h]
theorem insB_at {b : Nat → Br} {p n : Nat} {x : Br} : insB b p x n p = x := by unfold insB; rw [if_neg (by omega), if_pos rfl]
theorem insB_hi {b : Nat → Br} {p n k : Nat} {x : Br} (h : p < k) (h2 : k ≤ n) : insB b p x n k = b (k - 1) := by unfold insB; rw [if_neg (by omega), if_neg (by omega), if_pos h2]
theorem GI.addB (h : GI J rt T) {nm : ByteArray} {p id : Nat} (hp : WhP T nm p) (hh : hitP T nm p = false) (hid : IsC T.c id) (hg : goodN nm = true) (h4 : T.nb < 4) : GI J rt { T with b := insB T.b p ⟨nm, id⟩ T.nb, nb := T.nb + 1 } ∧ absG J { T with b := insB T.b p ⟨nm, id⟩ T.nb, nb := T.nb + 1 } = { absG J T with refs := withR (absG J T).refs nm (T.c id).seq } := by
  have hle := hp.le
  have hgt : ∀ k, p ≤ k → k < T.nb → ltS nm (T.b k).name = true := fun k hk1 hk2 => by
    have h1 := hp.hi (by omega)
    have h2 : (T.b p).name ≠ nm := fun e => by
      unfold hitP at hh
      rw [decide_eq_true (by omega : p < T.nb), decide_eq_true e] at hh; cases hh
    have h3 := ltS_tri h1 h2
    by_cases e : k = p
    · rw [e]; exact h3
    · exact ltS_trans h3 (h.ref.bo p k (by omega) hk2)
  have cas : ∀ k, k < T.nb + 1 → (k < p ∧ insB T.b p ⟨nm, id⟩ T.nb k = T.b k) ∨ (k = p ∧ insB T.b p ⟨nm, id⟩ T.nb k = ⟨nm, id⟩) ∨ (p < k ∧ insB T.b p ⟨nm, id⟩ T.nb k = T.b (k - 1)) := fun k hk => by
    rcases Nat.lt_trichotomy k p with a | a | a
    · exact .inl ⟨a, insB_lo a⟩
    · exact .inr (.inl ⟨a, by rw [a]; exact insB_at⟩)
    · exact .inr (.inr ⟨a, insB_hi a (by omega)⟩)
  refine ⟨⟨h.inv, h.tab, h.ord, ⟨by show T.nb + 1 ≤ 4; omega, fun k hk => ?_, fun k l hkl hl => ?_, fun k hk => ?_, h.ref.hn, h.ref.h0, h.ref.mg⟩, h.rut, h.ax, h.n1, h.nx⟩, ?_⟩
  · have hk' : k < T.nb + 1 := hk
    show goodN (insB T.b p ⟨nm, id⟩ T.nb k).name = true ∧ IsC T.c (insB T.b p ⟨nm, id⟩ T.nb k).id
    rcases cas k hk' with ⟨a, e⟩ | ⟨a, e⟩ | ⟨a, e⟩
    · rw [e]; exact h.ref.bn k (by omega)
    · rw [e]; exact ⟨hg, hid⟩
    · rw [e]; exact h.ref.bn (k - 1) (by omega)
  · have hl' : l < T.nb + 1 := hl
    show ltS (insB T.b p ⟨nm, id⟩ T.nb k).name (insB T.b p ⟨nm, id⟩ T.nb l).name = true
    rcases cas k (by omega) with ⟨a, e⟩ | ⟨a, e⟩ | ⟨a, e⟩ <;> rcases cas l hl' with ⟨b, f⟩ | ⟨b, f⟩ | ⟨b, f⟩ <;> rw [e, f]
    · exact h.ref.bo k l hkl (by omega)
    · exact hp.lo k a
    · exact h.ref.bo k (l - 1) (by omega) (by omega)
    · omega
    · omega
    · exact hgt (l - 1) (by omega) (by omega)
    · omega
    · omega
    · exact h.ref.bo (k - 1) (l - 1) (by omega) (by omega)
  · have hk' : T.nb + 1 ≤ k := hk
    show insB T.b p ⟨nm, id⟩ T.nb k = Br.zero
    unfold insB
    rw [if_neg (by omega), if_neg (by omega), if_neg (by omega)]
    exact h.ref.bz k (by omega)
  · have hs' : ({ T with b := insB T.b p ⟨nm, id⟩ T.nb, nb := T.nb + 1 } : Gt).bs = (List.range p).map T.b ++ ⟨nm, id⟩ :: (List.range (T.nb - p)).map (fun k => T.b (p + k)) := by
      have := bs_split { T with b := insB T.b p ⟨nm, id⟩ T.nb, nb := T.nb + 1 } (p := p) (by show p < T.nb + 1; omega)
      rw [this]
      show (List.range p).map (insB T.b p ⟨nm, id⟩ T.nb) ++ insB T.b p ⟨nm, id⟩ T.nb p :: (List.range (T.nb + 1 - p - 1)).map (fun k => insB T.b p ⟨nm, id⟩ T.nb (p + 1 + k)) = _
      rw [insB_at]
      congr 1
      · exact List.map_congr_left (fun k hk => insB_lo (by simpa using hk))
      · congr 1
        have e : T.nb + 1 - p - 1 = T.nb - p := by omega
        rw [e]
        refine List.map_congr_left (fun k hk => ?_)
        have hk' : k < T.nb - p := by simpa using hk
        rw [insB_hi (by omega) (by omega)]
        congr 1
        omega
    have hs : T.bs = (List.range p).map T.b ++ (List.range (T.nb - p)).map (fun k => T.b (p + k)) := by
      unfold Gt.bs
      apply List.ext_getElem
      · simp; omega
      · intro i h1 h2
        by_cases e : i < p
        · rw [List.getElem_append_left (by simpa using e)]; simp
        · rw [List.getElem_append_right (by simp; omega)]
          simp
          congr 1
          omega
    have hr : (absG J { T with b := insB T.b p ⟨nm, id⟩ T.nb, nb := T.nb + 1 }).refs = withR (absG J T).refs nm (T.c id).seq := by
      show ({ T with b := insB T.b p ⟨nm, id⟩ T.nb, nb := T.nb + 1 } : Gt).bs.map (refJ T.c) = withR (T.bs.map (refJ T.c)) nm (T.c id).seq
      rw [hs', hs, List.map_append, List.map_cons, List.map_append]
      symm
      apply withR_new
      · intro r hr
        obtain ⟨b, hb, rfl⟩ := List.mem_map.1 hr
        obtain ⟨k, hk, rfl⟩ := List.mem_map.1 hb
        exact hp.lo k (by simpa using hk)
      · intro r l hrl
        have hpos : 0 < T.nb - p := by
          by_cases h0 : T.nb - p = 0
          · rw [h0] at hrl; simp at hrl
          · omega
        obtain ⟨m, hm⟩ : ∃ m, T.nb - p = m + 1 := ⟨T.nb - p - 1, by omega⟩
        rw [hm, List.range_succ_eq_map] at hrl
        simp only [List.map_cons, List.cons.injEq] at hrl
        have e1 : r = refJ T.c (T.b p) := by rw [← hrl.1]; rfl
        rw [e1]
        have h1 := hp.hi (by omega)
        refine ⟨h1, fun e => ?_⟩
        unfold hitP at hh
        rw [decide_eq_true (by omega : p < T.nb), decide_eq_true (show (T.b p).name = nm from e)] at hh; cases hh
    show GA.mk _ _ (absG J { T with b := insB T.b p ⟨nm, id⟩ T.nb, nb := T.nb + 1 }).refs _ _ _ _ = _
    rw [hr]
    rfl
theorem GI.delB (h : GI J rt T) {nm : ByteArray} {p : Nat} (hp : WhP T nm p) (hh : hitP T nm p = true) : GI J rt { T with b := delB T.b p T.nb, nb := T.nb - 1 } ∧ absG J { T with b := delB T.b p T.nb, nb := T.nb - 1 } = { absG J T with refs := withoutR (absG J T).refs nm } := by
  unfold hitP at hh
  simp only [Bool.and_eq_true, decide_eq_true_eq] at hh
  obtain ⟨hlt, hnm⟩ := hh
  have cas : ∀ k, k < T.nb - 1 → (k < p ∧ Go.Proofs.Qxb6500417aGreat.delB T.b p T.nb k = T.b k) ∨ (p ≤ k ∧ Go.Proofs.Qxb6500417aGreat.delB T.b p T.nb k = T.b (k + 1)) := fun k hk => by
    unfold Go.Proofs.Qxb6500417aGreat.delB
    by_cases a : k < p
    · exact .inl ⟨a, by rw [if_pos a]⟩
    · exact .inr ⟨by omega, by rw [if_neg a, if_pos (by omega)]⟩
  refine ⟨⟨h.inv, h.tab, h.ord, ⟨by have := h.ref.b4; show T.nb - 1 ≤ 4; omega, fun k hk => ?_, fun k l hkl hl => ?_, fun k hk => ?_, h.ref.hn, h.ref.h0, h.ref.mg⟩, h.rut, h.ax, h.n1, h.nx⟩, ?_⟩
  · have hk' : k < T.nb - 1 := hk
    show goodN (Go.Proofs.Qxb6500417aGreat.delB T.b p T.nb k).name = true ∧ IsC T.c (Go.Proofs.Qxb6500417aGreat.delB T.b p T.nb k).id
    rcases cas k hk' with ⟨a, e⟩ | ⟨a, e⟩
    · rw [e]; exact h.ref.bn k (by omega)
    · rw [e]; exact h.ref.bn (k + 1) (by omega)
  · have hl' : l < T.nb - 1 := hl
    show ltS (Go.Proofs.Qxb6500417aGreat.delB T.b p T.nb k).name (Go.Proofs.Qxb6500417aGreat.delB T.b p T.nb l).name = true
    rcases cas k (by omega) with ⟨a, e⟩ | ⟨a, e⟩ <;> rcases cas l hl' with ⟨b, f⟩ | ⟨b, f⟩ <;> rw [e, f]
    · exact h.ref.bo k l hkl (by omega)
    · exact h.ref.bo k (l + 1) (by omega) (by omega)
    · omega
    · exact h.ref.bo (k + 1) (l + 1) (by omega) (by omega)
  · have hk' : T.nb - 1 ≤ k := hk
    show Go.Proofs.Qxb6500417aGreat.delB T.b p T.nb k = Br.zero
    unfold Go.Proofs.Qxb6500417aGreat.delB
    by_cases a : k < p
    · omega
    · rw [if_neg a, if_neg (by omega)]
  · have hs := bs_split T hlt
    have hs' : ({ T with b := Go.Proofs.Qxb6500417aGreat.delB T.b p T.nb, nb := T.nb - 1 } : Gt).bs = (List.range p).map T.b ++ (List.range (T.nb - p - 1)).map (fun k => T.b (p + 1 + k)) := by
      unfold Gt.bs
      apply List.ext_getElem
      · simp; omega
      · intro i h1 h2
        have hi : i < T.nb - 1 := by simpa using h1
        rw [List.getElem_map, List.getElem_range]
        show Go.Proofs.Qxb6500417aGreat.delB T.b p T.nb i = _
        by_cases e : i < p
        · rw [List.getElem_append_left (by simpa using e)]
          rcases cas i hi with ⟨a, f⟩ | ⟨a, f⟩
          · rw [f]; simp
          · omega
        · rw [List.getElem_append_right (by simp; omega)]
          rcases cas i hi with ⟨a, f⟩ | ⟨a, f⟩
          · omega
          · rw [f]
            simp
            congr 1
            omega
    have hr : (absG J { T with b := Go.Proofs.Qxb6500417aGreat.delB T.b p T.nb, nb := T.nb - 1 }).refs = withoutR (absG J T).refs nm := by
      show ({ T with b := Go.Proofs.Qxb6500417aGreat.delB T.b p T.nb, nb := T.nb - 1 } : Gt).bs.map (refJ T.c) = withoutR (T.bs.map (refJ T.c)) nm
      rw [hs', hs, List.map_append, List.map_append, List.map_cons]
      unfold withoutR
      rw [List.filter_append, List.filter_cons]
      have c1 : (!decide ((refJ T.c (T.b p)).name = nm)) = false := by
        rw [decide_eq_true (show (refJ T.c (T.b p)).name = nm from hnm)]; rfl
      rw [c1, if_neg (by simp)]
      congr 1
      · symm
        rw [List.filter_eq_self]
        intro r hr
        obtain ⟨b, hb, rfl⟩ := List.mem_map.1 hr
        obtain ⟨k, hk, rfl⟩ := List.mem_map.1 hb
        have hlo := hp.lo k (by simpa using hk)
        have : (refJ T.c (T.b k)).name ≠ nm := fun e => by
          have e' : (T.b k).name = nm := e
          rw [e', ltS_irr] at hlo; cases hlo
        rw [decide_eq_false this]; rfl
      · symm
        rw [List.filter_eq_self]
        intro r hr
        obtain ⟨b, hb, rfl⟩ := List.mem_map.1 hr
        obtain ⟨k, hk, rfl⟩ := List.mem_map.1 hb
        have hk' : k < T.nb - p - 1 := by simpa using hk
        have hbo := h.ref.bo p (p + 1 + k) (by omega) (by omega)
        have : (refJ T.c (T.b (p + 1 + k))).name ≠ nm := fun e => by
          have e' : (T.b (p + 1 + k)).name = nm := e
          rw [e', hnm, ltS_irr] at hbo; cases hbo
        rw [decide_eq_false this]; rfl
    show GA.mk _ _ (absG J { T with b := Go.Proofs.Qxb6500417aGreat.delB T.b p T.nb, nb := T.nb - 1 }).refs _ _ _ _ = _
    rw [hr]
    rfl
/-- The head goes elsewhere. -/
theorem GI.setHead (h : GI J rt T) {nm : ByteArray} {a m : Nat} (h1 : nm.size ≠ 0 → goodN nm = true ∧ a = 0) (h2 : nm.size = 0 → IsC T.c a) (h3 : m = 0 ∨ IsC T.c m) : GI J rt { T with name := nm, at_ := a, mg := m } ∧ absG J { T with name := nm, at_ := a, mg := m } = { absG J T with hn := nm, hs := (T.c a).seq, hm := (T.c m).seq } :=
  ⟨⟨h.inv, h.tab, h.ord, ⟨h.ref.b4, h.ref.bn, h.ref.bo, h.ref.bz, h1, h2, h3⟩, h.rut, h.ax, h.n1, h.nx⟩, rfl⟩
end
end Go.Proofs.Qxb6500417aGreat
