/-
  OWN WORK. TABLE: a span of a tree; the rows in it. No program in sight.
-/
import Derived.Test.Qxb6500412aGreatELay
namespace Go.Proofs.Qxb6500412aGreat
open Go.RowKit Go.PlainAid
set_option linter.unusedSimpArgs false
set_option linter.unusedVariables false

def frontP (k : ByteArray) : ByteArray := if 8 < k.size then k.extract 0 8 else k
def backP (k : ByteArray) : ByteArray := if 8 < k.size then k.extract (k.size - 8) k.size else k
def stopP (capped : Bool) (upto : ByteArray) (e : KV) : Bool := capped && lt upto (frontP e.1)
def spanP (l : List KV) (from_ : ByteArray) (capped : Bool) (upto : ByteArray) : List KV := (l.dropWhile (fun e => lt e.1 from_)).takeWhile (fun e => !stopP capped upto e)
theorem seek_next : ∀ {l : List KV} {i : Nat} {e : KV}, Srt l → l[i]? = some e → seekL e.1 true l = l[i + 1]?
  | [], i, e, _, h => by simp at h
  | x :: l, 0, e, hs, h => by
    obtain rfl : x = e := by simpa using h
    obtain ⟨h1, h2⟩ := List.pairwise_cons.mp hs
    unfold seekL
    rw [List.find?_cons_of_neg (by simp [hit, lt_irr])]
    cases l with
    | nil => rfl
    | cons y r =>
      rw [List.find?_cons_of_pos (by simp [hit, h1 y (by simp)])]
      rfl
  | x :: l, i + 1, e, hs, h => by
    obtain ⟨h1, h2⟩ := List.pairwise_cons.mp hs
    have he : l[i]? = some e := by simpa using h
    have hx := h1 e (List.mem_of_getElem? he)
    unfold seekL
    rw [List.find?_cons_of_neg (by simp [hit, lt_asymm hx])]
    have := seek_next h2 he
    unfold seekL at this
    rw [this]
    simp
theorem hit_false (k : ByteArray) (e : KV) : hit k false e = !lt e.1 k := by
  unfold hit
  rcases lt_total e.1 k with c | c | c
  · rw [lt_asymm c, c]
    simp [lt_ne c]
  · rw [c, lt_irr]; simp
  · rw [c, lt_asymm c]; simp
theorem seek_first (k : ByteArray) (l : List KV) : seekL k false l = (l.dropWhile (fun e => lt e.1 k))[0]? := by
  induction l with
  | nil => rfl
  | cons x r ih =>
    unfold seekL at *
    rw [List.dropWhile_cons]
    cases c : lt x.1 k with
    | true => rw [List.find?_cons_of_neg (by rw [hit_false, c]; simp), if_pos rfl]; exact ih
    | false => rw [List.find?_cons_of_pos (by rw [hit_false, c]; rfl), if_neg (by simp)]; rfl
theorem dropWhile_drop {α : Type} (p : α → Bool) (l : List α) : ∃ i, i ≤ l.length ∧ l.dropWhile p = l.drop i := by
  induction l with
  | nil => exact ⟨0, by simp, rfl⟩
  | cons x r ih =>
    obtain ⟨i, hi, h⟩ := ih
    rw [List.dropWhile_cons]
    split
    · exact ⟨i + 1, by simpa using hi, by simpa using h⟩
    · exact ⟨0, by simp, rfl⟩
theorem takeWhile_take {α : Type} (p : α → Bool) : ∀ (l : List α) (n : Nat), (∀ i x, i < n → l[i]? = some x → p x = true) → n ≤ l.length → (∀ x, l[n]? = some x → p x = false) → l.takeWhile p = l.take n
  | [], n, _, _, _ => by simp
  | x :: l, 0, _, _, h => by
    have := h x (by simp)
    rw [List.takeWhile_cons, this]
    simp
  | x :: l, n + 1, h1, hn, h2 => by
    rw [List.takeWhile_cons, h1 0 x (by omega) (by simp), if_pos rfl, takeWhile_take p l n (fun i y hi hy => h1 (i + 1) y (by omega) (by simpa using hy)) (by simpa using hn) (fun y hy => h2 y (by simpa using hy))]
    rfl
theorem dropWhile_filter {α : Type} {p : α → Bool} {l : List α} (h : l.Pairwise (fun a b => p b = true → p a = true)) : l.dropWhile p = l.filter (fun x => !p x) := by
  induction l with
  | nil => rfl
  | cons x r ih =>
    obtain ⟨h1, h2⟩ := List.pairwise_cons.mp h
    rw [List.dropWhile_cons]
    cases c : p x with
    | true => rw [if_pos rfl, ih h2, List.filter_cons_of_neg (by simp [c])]
    | false =>
      rw [if_neg (by simp), List.filter_cons_of_pos (by simp [c])]
      congr 1
      refine (List.filter_eq_self.mpr (fun y hy => ?_)).symm
      cases d : p y with
      | false => rfl
      | true => have := h1 y hy d; rw [c] at this; cases this
theorem takeWhile_filter {α : Type} {p : α → Bool} {l : List α} (h : l.Pairwise (fun a b => p b = true → p a = true)) : l.takeWhile p = l.filter p := by
  induction l with
  | nil => rfl
  | cons x r ih =>
    obtain ⟨h1, h2⟩ := List.pairwise_cons.mp h
    rw [List.takeWhile_cons]
    cases c : p x with
    | true => rw [if_pos rfl, ih h2, List.filter_cons_of_pos c]
    | false =>
      rw [if_neg (by simp), List.filter_cons_of_neg (by simp [c])]
      refine (List.filter_eq_nil_iff.mpr (fun y hy d => ?_)).symm
      have := h1 y hy d
      rw [c] at this
      cases this
/-- A bound: none, or a value. -/
abbrev Bnd := Option Vl
def fromB (lo : Bnd) : ByteArray := match lo with
  | none => eB
  | some v => cV v
def belowB (lo : Bnd) (v : Vl) : Bool := match lo with
  | none => false
  | some b => decide (vcmp v b < 0)
def aboveB (hi : Bnd) (v : Vl) : Bool := match hi with
  | none => false
  | some b => decide (vcmp v b > 0)
/-- Within the bounds. -/
def inB (lo hi : Bnd) (v : Vl) : Bool := !belowB lo v && !aboveB hi v
theorem vcmp_flip (a b : Vl) : decide (vcmp a b > 0) = decide (vcmp b a < 0) := by
  obtain ⟨as, ai, ax⟩ := a
  obtain ⟨bs, bi, bx⟩ := b
  unfold vcmp
  cases as <;> cases bs
  · simp only [ne_eq, not_true_eq_false, if_false, Bool.false_eq_true]
    rcases Int.lt_trichotomy ai bi with c | c | c
    · rw [if_pos c, if_neg (show ¬ bi < ai by omega), if_pos c]; decide
    · subst c; simp
    · rw [if_neg (show ¬ ai < bi by omega), if_pos c, if_pos c]; decide
  · simp
  · simp
  · simp only [ne_eq, not_true_eq_false, if_false, if_true]
    rcases lt_total ax bx with c | c | c
    · rw [c, lt_asymm c]; simp
    · subst c; rw [lt_irr]; simp
    · rw [c, lt_asymm c]; simp
theorem lt_nil (a : ByteArray) : lt a eB = false := by rw [lt_ls]; exact bl_nil _
theorem lt_code (a b c : ByteArray) (h : a.size = c.size) : lt (a ++ b) c = lt a c := by
  have e : lt (a ++ b) (c ++ eB) = (lt a c || (decide (a = c) && lt b eB)) := lt_app h
  rw [ba_app_nil, lt_nil] at e
  rw [e]
  simp
theorem front8 {k : ByteArray} (h : k.size = 8) : frontP k = k := by unfold frontP; rw [if_neg (by omega)]
theorem back8 {k : ByteArray} (h : k.size = 8) : backP k = k := by unfold backP; rw [if_neg (by omega)]
theorem front16 {a b : ByteArray} (ha : a.size = 8) (hb : b.size = 8) : frontP (a ++ b) = a := by
  unfold frontP
  rw [if_pos (by rw [ByteArray.size_append]; omega)]
  apply ls_inj
  rw [ls_cut, ls_append]
  simp only [List.drop_zero, Nat.sub_zero]
  rw [List.take_append_of_le_length (by rw [ls_len]; omega), List.take_of_length_le (by rw [ls_len]; omega)]
theorem back16 {a b : ByteArray} (ha : a.size = 8) (hb : b.size = 8) : backP (a ++ b) = b := by
  unfold backP
  have hs : (a ++ b).size = 16 := by rw [ByteArray.size_append]; omega
  rw [if_pos (by omega), hs]
  apply ls_inj
  rw [ls_cut, ls_append, List.drop_append_of_le_length (by rw [ls_len]; omega), List.drop_of_length_le (by rw [ls_len]; omega), List.nil_append, List.take_of_length_le (by rw [ls_len]; omega)]
/-- The bound fits the column. -/
def BndOk (lo : Bnd) (s : Bool) : Prop := ∀ v, lo = some v → v.fit ∧ v.str = s
theorem from_cmp {lo : Bnd} {v : Vl} (hv : v.fit) (hb : BndOk lo v.str) : lt (cV v) (fromB lo) = belowB lo v := by
  cases lo with
  | none => exact lt_nil _
  | some b => exact cV_lt hv (hb b rfl).1 (hb b rfl).2.symm
theorem upto_cmp {hi : Bnd} {v : Vl} (hv : v.fit) (hb : BndOk hi v.str) : (hi.isSome && lt (fromB hi) (cV v)) = aboveB hi v := by
  cases hi with
  | none => rfl
  | some b =>
    show (true && lt (cV b) (cV v)) = decide (vcmp v b > 0)
    rw [vcmp_flip, Bool.true_and]
    exact cV_lt (hb b rfl).1 hv (hb b rfl).2
theorem in_codes {lo hi : Bnd} {v : Vl} (hv : v.fit) (h1 : BndOk lo v.str) (h2 : BndOk hi v.str) : inB lo hi v = (!lt (cV v) (fromB lo) && !(hi.isSome && lt (fromB hi) (cV v))) := by
  rw [from_cmp hv h1, upto_cmp hv h2]
  rfl
/-- A span over rows in the order of a key whose front is a column's code. -/
theorem span_rows {f : List Vl → ByteArray} {g : List Vl → ByteArray} {c : Nat} {rows : List (List Vl)} {lo hi : Bnd} {s : Bool}
    (hs : rows.Pairwise (fun a b => lt (f a) (f b) = true)) (hlt : ∀ r ∈ rows, ∀ k : ByteArray, k.size = 8 ∨ k = eB → lt (f r) k = lt (cV (kyR c r)) k) (hfr : ∀ r ∈ rows, frontP (f r) = cV (kyR c r))
    (hmo : ∀ a ∈ rows, ∀ b ∈ rows, lt (f a) (f b) = true → lt (cV (kyR c b)) (cV (kyR c a)) = false)
    (hv : ∀ r ∈ rows, (kyR c r).fit ∧ (kyR c r).str = s) (h1 : BndOk lo s) (h2 : BndOk hi s) :
    spanP (kvsOf f g rows) (fromB lo) hi.isSome (fromB hi) = kvsOf f g (rows.filter (fun r => inB lo hi (kyR c r))) := by
  have fsz : (fromB lo).size = 8 ∨ fromB lo = eB := by
    cases lo with
    | none => exact .inr rfl
    | some v => exact .inl (cV_size v)
  have e1 : (kvsOf f g rows).dropWhile (fun e => lt e.1 (fromB lo)) = (kvsOf f g rows).filter (fun e => !lt e.1 (fromB lo)) := by
    refine dropWhile_filter ?_
    unfold kvsOf
    rw [List.pairwise_map]
    refine hs.imp ?_
    intro a b hab hb
    exact lt_trans hab hb
  unfold spanP
  rw [e1]
  have e2 : ((kvsOf f g rows).filter (fun e => !lt e.1 (fromB lo))).takeWhile (fun e => !stopP hi.isSome (fromB hi) e) = ((kvsOf f g rows).filter (fun e => !lt e.1 (fromB lo))).filter (fun e => !stopP hi.isSome (fromB hi) e) := by
    refine takeWhile_filter ?_
    refine List.Pairwise.filter _ ?_
    unfold kvsOf
    rw [List.pairwise_map]
    refine hs.imp_of_mem ?_
    intro a b ha hb hab hp
    unfold stopP at *
    simp only at *
    rw [hfr a ha]
    rw [hfr b hb] at hp
    cases hi with
    | none => simp
    | some u =>
      simp only [Option.isSome_some, Bool.true_and, Bool.not_eq_true'] at hp ⊢
      exact ge_trans hp (hmo a ha b hb hab)
  rw [e2, List.filter_filter]
  unfold kvsOf
  rw [List.filter_map]
  congr 1
  refine List.filter_congr (fun r hr => ?_)
  show (!stopP hi.isSome (fromB hi) (f r, g r) && !lt (f r) (fromB lo)) = inB lo hi (kyR c r)
  rw [in_codes (hv r hr).1 (by rw [(hv r hr).2]; exact h1) (by rw [(hv r hr).2]; exact h2), hlt r hr _ fsz]
  unfold stopP
  simp only
  rw [hfr r hr, Bool.and_comm]
end Go.Proofs.Qxb6500412aGreat
