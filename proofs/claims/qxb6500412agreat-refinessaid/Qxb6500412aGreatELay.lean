/-
  OWN WORK. TABLE: the database, and how it lies in the trees. No program in sight.
-/
import Derived.Test.Qxb6500412aGreatELs
namespace Go.Proofs.Qxb6500412aGreat
open Go.RowKit Go.PlainAid
set_option linter.unusedSimpArgs false
set_option linter.unusedVariables false

/-- A table: its rows in the order of their keys' codes. -/
structure Tb where
  nm : ByteArray
  cols : List Cl
  pk : Nat
  ix : Option Nat
  rows : List (List Vl)
abbrev Db := List Tb
abbrev eB : ByteArray := ⟨#[]⟩
def pkK (pk : Nat) (r : List Vl) : ByteArray := cV (kyR pk r)
def rowsL (pk : Nat) (rows : List (List Vl)) : List KV := kvsOf (pkK pk) (fun r => restP r pk) rows
def idxR (pk c : Nat) (rows : List (List Vl)) : List (List Vl) := rows.foldl (fun l r => putBy (fun r => idxK r c pk) r l) []
def idxL (pk c : Nat) (rows : List (List Vl)) : List KV := kvsOf (fun r => idxK r c pk) (fun _ => eB) (idxR pk c rows)
def RowOk (c : List Cl) (r : List Vl) : Prop := r.map (·.str) = c.map (·.2) ∧ ∀ v ∈ r, v.fit
structure TbOk (t : Tb) : Prop where
  nm : gdN t.nm
  cols : GdC t.cols (t.pk : Int)
  ix : ∀ c, t.ix = some c → c < t.cols.length ∧ c ≠ t.pk
  row : ∀ r ∈ t.rows, RowOk t.cols r
  srt : t.rows.Pairwise (fun a b => lt (pkK t.pk a) (pkK t.pk b) = true)
  len : t.rows.length ≤ 8
theorem TbOk.n1 {t : Tb} (h : TbOk t) : 1 ≤ t.cols.length := h.cols.1.1
theorem TbOk.n3 {t : Tb} (h : TbOk t) : t.cols.length ≤ 3 := h.cols.1.2.1
theorem TbOk.pkn {t : Tb} (h : TbOk t) : t.pk < t.cols.length := by have := h.cols.1.2.2.2; omega
theorem RowOk.len {c : List Cl} {r : List Vl} (h : RowOk c r) : r.length = c.length := by
  have := congrArg List.length h.1
  simpa using this
def colT (c : Cl) : ByteArray := mkB 2 (fun j => if j = 0 then (if c.2 then 1 else 0) else c.1.size) ++ c.1
def part (x : Tb × Hd) (i : Nat) : ByteArray := if i = 0 then hdT x.2 else colT ((x.1.cols[i - 1]?).getD (eB, false))
def catE (x : Tb × Hd) (i : Nat) : KV := (catK x.1.nm i, part x i)
def catT (x : Tb × Hd) : List KV := (List.range (1 + x.1.cols.length)).map (catE x)
def catL (T : List (Tb × Hd)) : List KV := T.flatMap catT
theorem catL_mem {T : List (Tb × Hd)} {e : KV} : e ∈ catL T ↔ ∃ x ∈ T, ∃ i, i ≤ x.1.cols.length ∧ e = catE x i := by
  unfold catL catT
  simp only [List.mem_flatMap, List.mem_map, List.mem_range]
  constructor
  · rintro ⟨x, hx, i, hi, rfl⟩
    exact ⟨x, hx, i, by omega, rfl⟩
  · rintro ⟨x, hx, i, hi, rfl⟩
    exact ⟨x, hx, i, by omega, rfl⟩
theorem catL_srt {T : List (Tb × Hd)} (hn : ∀ x ∈ T, x.1.nm.size ≤ 6 ∧ x.1.cols.length ≤ 3) (hs : T.Pairwise (fun a b => lt a.1.nm b.1.nm = true)) : Srt (catL T) := by
  unfold catL Srt
  rw [List.pairwise_flatMap]
  refine ⟨fun x hx => ?_, ?_⟩
  · unfold catT
    rw [List.pairwise_map]
    obtain ⟨h1, h2⟩ := hn x hx
    refine (List.pairwise_lt_range).imp_of_mem ?_
    intro i j hi hj hij
    have hi := List.mem_range.mp hi
    have hj := List.mem_range.mp hj
    show lt (catK x.1.nm i) (catK x.1.nm j) = true
    rw [catK_lt h1 h1 (by omega) (by omega)]
    simp [hij]
  · refine hs.imp_of_mem ?_
    intro x y hx hy hxy a ha b hb
    unfold catT at ha hb
    obtain ⟨i, hi, rfl⟩ := List.mem_map.mp ha
    obtain ⟨j, hj, rfl⟩ := List.mem_map.mp hb
    have hi := List.mem_range.mp hi
    have hj := List.mem_range.mp hj
    obtain ⟨h1, h2⟩ := hn x hx
    obtain ⟨h3, h4⟩ := hn y hy
    show lt (catK x.1.nm i) (catK y.1.nm j) = true
    rw [catK_lt h1 h3 (by omega) (by omega), hxy]
    simp
def hnd (x : Tb × Hd) : List Nat := x.2.rows :: x.2.idx.toList
def hands (T : List (Tb × Hd)) : List Nat := T.flatMap hnd
structure HdFor (x : Tb × Hd) : Prop where
  n : x.2.n = x.1.cols.length
  pk : x.2.pk = x.1.pk
  ix : x.2.ix = x.1.ix
  ok : HdOk x.2
structure Lay (S : Vu) (T : List (Tb × Hd)) : Prop where
  tb : ∀ x ∈ T, TbOk x.1
  srt : T.Pairwise (fun a b => lt a.1.nm b.1.nm = true)
  len : T.length ≤ 3
  hd : ∀ x ∈ T, HdFor x
  cat : S 0 = some (catL T)
  rows : ∀ x ∈ T, S x.2.rows = some (rowsL x.1.pk x.1.rows)
  idx : ∀ x ∈ T, ∀ c i, x.1.ix = some c → x.2.idx = some i → S i = some (idxL x.1.pk c x.1.rows)
  nod : T.Pairwise (fun a b => ∀ i ∈ hnd a, ∀ j ∈ hnd b, i ≠ j)
  used : ∀ i, i ≠ 0 → S i ≠ none → i ∈ hands T
section
variable {S S' : Vu} {T : List (Tb × Hd)}
theorem Lay.small (L : Lay S T) : ∀ x ∈ T, x.1.nm.size ≤ 6 ∧ x.1.cols.length ≤ 3 := fun x hx => ⟨(L.tb x hx).nm.2, (L.tb x hx).n3⟩
theorem Lay.csrt (L : Lay S T) : Srt (catL T) := catL_srt L.small L.srt
theorem Lay.one (L : Lay S T) {x y : Tb × Hd} (hx : x ∈ T) (hy : y ∈ T) (e : x.1.nm = y.1.nm) : x = y := by_key (fun x : Tb × Hd => x.1.nm) L.srt hx hy e
theorem hnd_pos {x : Tb × Hd} (h : HdFor x) : ∀ i ∈ hnd x, 1 ≤ i ∧ i < 8 := by
  intro i hi
  unfold hnd at hi
  rcases List.mem_cons.mp hi with c | c
  · rw [c]; exact ⟨h.ok.r1, h.ok.r8⟩
  · have : x.2.idx = some i := by simpa using c
    exact ⟨(h.ok.idx i this).1, (h.ok.idx i this).2.1⟩
theorem pw_mem {α : Type} {R : α → α → Prop} {l : List α} (h : l.Pairwise R) {a b : α} (ha : a ∈ l) (hb : b ∈ l) : a = b ∨ R a b ∨ R b a := by
  induction l with
  | nil => simp at ha
  | cons x r ih =>
    obtain ⟨h1, h2⟩ := List.pairwise_cons.mp h
    rcases List.mem_cons.mp ha with c | c
    · rcases List.mem_cons.mp hb with d | d
      · exact .inl (by rw [c, d])
      · exact .inr (.inl (by rw [c]; exact h1 b d))
    · rcases List.mem_cons.mp hb with d | d
      · exact .inr (.inr (by rw [d]; exact h1 a c))
      · exact ih h2 c d
theorem Lay.apart (L : Lay S T) {x y : Tb × Hd} (hx : x ∈ T) (hy : y ∈ T) (hne : x.1.nm ≠ y.1.nm) : ∀ i ∈ hnd x, ∀ j ∈ hnd y, i ≠ j := by
  rcases pw_mem L.nod hx hy with c | c | c
  · exact absurd (by rw [c]) hne
  · exact c
  · intro i hi j hj e
    exact c j hj i hi e.symm
theorem mem_hands {i : Nat} : i ∈ hands T ↔ ∃ x ∈ T, i ∈ hnd x := by
  unfold hands
  rw [List.mem_flatMap]
/-- A table put in the place of its like, or besides the others. -/
theorem Lay.put (L : Lay S T) {x : Tb × Hd} (ok : TbOk x.1) (hf : HdFor x) (hl : (putBy (fun x : Tb × Hd => x.1.nm) x T).length ≤ 3)
    (hc : S' 0 = some (catL (putBy (fun x : Tb × Hd => x.1.nm) x T))) (hr : S' x.2.rows = some (rowsL x.1.pk x.1.rows))
    (hi : ∀ c i, x.1.ix = some c → x.2.idx = some i → S' i = some (idxL x.1.pk c x.1.rows))
    (ha : ∀ y ∈ T, y.1.nm ≠ x.1.nm → ∀ i ∈ hnd y, i ∉ hnd x) (ho : ∀ y ∈ T, y.1.nm ≠ x.1.nm → ∀ i ∈ hnd y, S' i = S i)
    (hu : ∀ i, i ≠ 0 → S' i ≠ none → i ∈ hnd x ∨ ∃ y ∈ T, y.1.nm ≠ x.1.nm ∧ i ∈ hnd y) : Lay S' (putBy (fun x : Tb × Hd => x.1.nm) x T) := by
  have hm : ∀ {e : Tb × Hd}, e ∈ putBy (fun x : Tb × Hd => x.1.nm) x T ↔ e = x ∨ (e ∈ T ∧ e.1.nm ≠ x.1.nm) := putBy_iff _ L.srt
  refine ⟨fun y hy => ?_, putBy_srt _ L.srt, hl, fun y hy => ?_, hc, fun y hy => ?_, fun y hy c i h1 h2 => ?_, ?_, fun i h0 hn => ?_⟩
  · rcases hm.mp hy with rfl | h
    · exact ok
    · exact L.tb y h.1
  · rcases hm.mp hy with rfl | h
    · exact hf
    · exact L.hd y h.1
  · rcases hm.mp hy with rfl | h
    · exact hr
    · rw [ho y h.1 h.2 _ (by simp [hnd])]
      exact L.rows y h.1
  · rcases hm.mp hy with rfl | h
    · exact hi c i h1 h2
    · rw [ho y h.1 h.2 _ (by simp [hnd, h2])]
      exact L.idx y h.1 c i h1 h2
  · have hs := putBy_srt (fun x : Tb × Hd => x.1.nm) (r := x) L.srt
    refine hs.imp_of_mem ?_
    intro a b ha' hb' hab i hi' j hj' e
    rcases hm.mp ha' with c | c
    · rcases hm.mp hb' with d | d
      · rw [c, d, lt_irr] at hab; cases hab
      · subst c
        exact ha b d.1 d.2 j hj' (by rw [← e]; exact hi')
    · rcases hm.mp hb' with d | d
      · subst d
        exact ha a c.1 c.2 i hi' (by rw [e]; exact hj')
      · exact L.apart c.1 d.1 (lt_ne hab) i hi' j hj' e
  · rcases hu i h0 hn with c | ⟨y, hy, h1, h2⟩
    · exact mem_hands.mpr ⟨x, hm.mpr (.inl rfl), c⟩
    · exact mem_hands.mpr ⟨y, hm.mpr (.inr ⟨hy, h1⟩), h2⟩
/-- A table's rows are others. -/
theorem Lay.turn (L : Lay S T) {t : Tb} {h : Hd} (hx : (t, h) ∈ T) {t' : Tb} (ok : TbOk t') (hnm : t'.nm = t.nm) (hcl : t'.cols = t.cols) (hpk : t'.pk = t.pk) (hix : t'.ix = t.ix)
    (hr : S' h.rows = some (rowsL t'.pk t'.rows)) (hi : ∀ c i, t.ix = some c → h.idx = some i → S' i = some (idxL t'.pk c t'.rows)) (ho : ∀ j, j ≠ h.rows → h.idx ≠ some j → S' j = S j) :
    Lay S' (putBy (fun x : Tb × Hd => x.1.nm) (t', h) T) := by
  have hm : ∀ {e : Tb × Hd}, e ∈ putBy (fun x : Tb × Hd => x.1.nm) (t', h) T ↔ e = (t', h) ∨ (e ∈ T ∧ e.1.nm ≠ t'.nm) := putBy_iff _ L.srt
  have H := L.hd _ hx
  have hpart : ∀ i, catE (t', h) i = catE (t, h) i := fun i => by unfold catE part; rw [hnm, hcl]
  have hex : ∃ e ∈ T, e.1.nm = t'.nm := ⟨(t, h), hx, hnm.symm⟩
  have hlen : (putBy (fun x : Tb × Hd => x.1.nm) (t', h) T).length = T.length := putBy_len_old _ L.srt hex
  have hsr := putBy_srt (fun x : Tb × Hd => x.1.nm) (r := (t', h)) L.srt
  have hcat : catL (putBy (fun x : Tb × Hd => x.1.nm) (t', h) T) = catL T := by
    refine Srt.ext (catL_srt (fun y hy => ?_) hsr) L.csrt (fun e => ?_)
    · rcases hm.mp hy with rfl | h
      · exact ⟨ok.nm.2, ok.n3⟩
      · exact L.small y h.1
    · rw [catL_mem, catL_mem]
      constructor
      · rintro ⟨y, hy, i, hi, rfl⟩
        rcases hm.mp hy with rfl | h
        · exact ⟨(t, h), hx, i, by rw [← hcl]; exact hi, hpart i⟩
        · exact ⟨y, h.1, i, hi, rfl⟩
      · rintro ⟨y, hy, i, hi, rfl⟩
        by_cases c : y.1.nm = t'.nm
        · obtain rfl := L.one hy hx (c.trans hnm)
          exact ⟨(t', h), hm.mpr (.inl rfl), i, by show i ≤ t'.cols.length; rw [hcl]; exact hi, (hpart i).symm⟩
        · exact ⟨y, hm.mpr (.inr ⟨hy, c⟩), i, hi, rfl⟩
  have hnd' : hnd (t', h) = hnd (t, h) := rfl
  refine L.put ok ⟨by rw [hcl]; exact H.n, by rw [hpk]; exact H.pk, by rw [hix]; exact H.ix, H.ok⟩ (by rw [hlen]; exact L.len) ?_ hr (fun c i h1 h2 => hi c i (by rw [← hix]; exact h1) h2) (fun y hy hne i hi' c => ?_) (fun y hy hne i hi' => ?_) (fun i h0 hn => ?_)
  · rw [hcat, ho 0 (fun e => ?_) (fun e => ?_)]
    · exact L.cat
    · have := H.ok.r1
      have e : 0 = h.rows := e
      simp only at this
      omega
    · have := (H.ok.idx 0 e).1
      omega
  · exact L.apart hy hx (by rw [hnm] at hne; exact hne) i hi' i c rfl
  · have hni : i ∉ hnd (t, h) := fun c => L.apart hy hx (by rw [hnm] at hne; exact hne) i hi' i c rfl
    refine ho i (fun c => hni (by rw [c]; simp [hnd])) (fun c => hni (by simp [hnd, c]))
  · by_cases c : i ∈ hnd (t, h)
    · exact .inl c
    · rw [ho i (fun e => c (by rw [e]; simp [hnd])) (fun e => c (by simp [hnd, e]))] at hn
      obtain ⟨y, hy, hi'⟩ := mem_hands.mp (L.used i h0 hn)
      refine .inr ⟨y, hy, fun e => c ?_, hi'⟩
      obtain rfl := L.one hy hx (e.trans hnm)
      exact hi'
end
end Go.Proofs.Qxb6500412aGreat
