/-
  OWN WORK. THE B-TREE: a node in memory stands for a list; what the node functions make of the lists.
-/
import Derived.Test.Qxb6500412aGreatBFrL
import Derived.Test.Qxb6500412aGreatBTr
namespace Go.Proofs.Qxb6500412aGreat
open Go.RowKit Go.PlainAid
set_option linter.unusedSimpArgs false
set_option linter.unusedVariables false

structure RepL (x : Node) (l : List KV) : Prop where
  k : x.k = 1
  n : x.n = l.length
  v : ∀ i e, l[i]? = some e → x.K i = e.1 ∧ x.V i = e.2
structure RepI (x : Node) (l : List (ByteArray × Nat)) : Prop where
  k : x.k = 2
  n : x.n = l.length
  c : ∀ i e, l[i]? = some e → x.C i = e.2
  s : ∀ i e, l[i + 1]? = some e → x.K i = e.1
def JnL (x y z : Node) : Prop := z.k = x.k ∧ z.n = x.n + y.n ∧ (∀ j, j < x.n → z.K j = x.K j ∧ z.V j = x.V j) ∧ ∀ j, j < y.n → z.K (x.n + j) = y.K j ∧ z.V (x.n + j) = y.V j
def JnI (x y : Node) (sep : ByteArray) (z : Node) : Prop := z.k = x.k ∧ z.n = x.n + y.n ∧ (∀ j, j < x.n → z.C j = x.C j) ∧ (∀ j, j < y.n → z.C (x.n + j) = y.C j) ∧ (∀ j, j + 1 < x.n → z.K j = x.K j) ∧ z.K (x.n - 1) = sep ∧ ∀ j, j + 1 < y.n → z.K (x.n + j) = y.K j
theorem get_ex {α : Type} {l : List α} {i : Nat} (h : i < l.length) : ∃ e, l[i]? = some e := ⟨l[i], List.getElem?_eq_getElem h⟩
theorem get_lt {α : Type} {l : List α} {i : Nat} {e : α} (h : l[i]? = some e) : i < l.length := (List.getElem?_eq_some_iff.mp h).1
theorem putL_old {k v : ByteArray} : ∀ {l : List KV} {i : Nat} {e : KV}, (∀ j f, j < i → l[j]? = some f → lt f.1 k = true) → l[i]? = some e → e.1 = k → putL k v l = l.set i (k, v)
  | [], i, e, _, h, _ => by simp at h
  | a :: r, 0, e, h1, h2, h3 => by
    simp at h2
    subst h2
    rw [putL, if_neg (by rw [h3, lt_irr]; simp), if_pos h3]
    rfl
  | a :: r, i + 1, e, h1, h2, h3 => by
    have := putL_old (k := k) (v := v) (l := r) (i := i) (e := e) (fun j f hj hf => h1 (j + 1) f (by omega) (by simpa using hf)) (by simpa using h2) h3
    rw [putL, if_pos (h1 0 a (by omega) (by simp)), this]
    rfl
theorem putL_new {k v : ByteArray} : ∀ {l : List KV} {i : Nat}, i ≤ l.length → (∀ j f, j < i → l[j]? = some f → lt f.1 k = true) → (∀ e, l[i]? = some e → lt e.1 k = false ∧ e.1 ≠ k) → putL k v l = l.take i ++ (k, v) :: l.drop i
  | [], i, hi, _, _ => by simp at hi; subst hi; rfl
  | a :: r, 0, hi, h1, h2 => by
    have := h2 a (by simp)
    rw [putL, if_neg (by rw [this.1]; simp), if_neg this.2]
    rfl
  | a :: r, i + 1, hi, h1, h2 => by
    have := putL_new (k := k) (v := v) (l := r) (i := i) (by simpa using hi) (fun j f hj hf => h1 (j + 1) f (by omega) (by simpa using hf)) (fun e he => h2 e (by simpa using he))
    rw [putL, if_pos (h1 0 a (by omega) (by simp)), this]
    rfl
theorem get_ins {α : Type} {l : List α} {i : Nat} {a : α} (hi : i ≤ l.length) (t : Nat) : (l.take i ++ a :: l.drop i)[t]? = if t < i then l[t]? else if t = i then some a else l[t - 1]? := by
  rw [List.getElem?_append, List.length_take, Nat.min_eq_left hi]
  by_cases h1 : t < i
  · rw [if_pos h1, if_pos h1, List.getElem?_take, if_pos h1]
  · rw [if_neg h1, if_neg h1]
    by_cases h2 : t = i
    · subst h2; simp
    · rw [if_neg h2]
      obtain ⟨d, rfl⟩ : ∃ d, t = i + d + 1 := ⟨t - i - 1, by omega⟩
      have e1 : i + d + 1 - i = d + 1 := by omega
      have e2 : i + d + 1 - 1 = i + d := by omega
      rw [e1, e2]
      simp
section
variable {x y z a b : Node} {l r : List KV}
theorem RepL.put {k v : ByteArray} (h : RepL x l) (hp : LPut x k v y) : RepL y (putL k v l) := by
  obtain ⟨i, sp, hk, hc⟩ := hp
  have hn := h.n
  have h1 : ∀ j f, j < i → l[j]? = some f → lt f.1 k = true := fun j f hj hf => by rw [← (h.v j f hf).1]; exact sp.lt_ j hj
  rcases hc with ⟨hi, hK, hyn, hyK, hyV⟩ | ⟨hne, hyn, hv⟩
  · obtain ⟨e, he⟩ := get_ex (l := l) (i := i) (by omega)
    rw [putL_old h1 he (by rw [← (h.v i e he).1]; exact hK)]
    refine ⟨by rw [hk]; exact h.k, by rw [hyn, hn]; simp, fun j f hf => ?_⟩
    rw [List.getElem?_set] at hf
    rw [hyK, hyV]
    by_cases e1 : i = j
    · subst e1
      rw [if_pos rfl, if_pos (by omega)] at hf
      cases hf
      exact ⟨hK, upF_same _ _ _⟩
    · rw [if_neg e1] at hf
      rw [upF_other _ _ _ _ (fun h => e1 h.symm)]
      exact h.v j f hf
  · have hi : i ≤ l.length := by have := sp.le; omega
    rw [putL_new hi h1 (fun e he => by
      rw [← (h.v i e he).1]
      have := get_lt he
      exact ⟨sp.stop (by omega), hne (by omega)⟩)]
    refine ⟨by rw [hk]; exact h.k, ?_, fun j f hf => ?_⟩
    · rw [hyn, hn]; simp; omega
    · have hj := get_lt hf
      have hj2 : j ≤ x.n := by simp at hj; omega
      rw [get_ins hi] at hf
      rw [(hv j hj2).1, (hv j hj2).2]
      unfold insF
      by_cases e1 : j < i
      · rw [if_pos e1] at hf
        rw [if_pos e1, if_pos e1]
        exact h.v j f hf
      · rw [if_neg e1] at hf
        rw [if_neg e1, if_neg e1]
        by_cases e2 : j = i
        · rw [if_pos e2] at hf
          cases hf
          rw [if_pos e2, if_pos e2]
          exact ⟨rfl, rfl⟩
        · rw [if_neg e2] at hf
          rw [if_neg e2, if_neg e2]
          exact h.v _ f hf
theorem RepL.cut {i : Nat} (h : RepL x l) (hc : LCut x i y) (hi : i < l.length) : RepL y (l.eraseIdx i) := by
  obtain ⟨hk, hn, hv⟩ := hc
  have hn2 := h.n
  refine ⟨by rw [hk]; exact h.k, by rw [List.length_eraseIdx, if_pos hi]; omega, fun j f hf => ?_⟩
  have hj := get_lt hf
  rw [List.length_eraseIdx, if_pos hi] at hj
  rw [List.getElem?_eraseIdx] at hf
  rw [(hv j (by omega)).1, (hv j (by omega)).2]
  by_cases e1 : j < i
  · rw [if_pos e1] at hf ⊢; exact h.v j f hf
  · rw [if_neg e1] at hf ⊢; exact h.v _ f hf
theorem RepL.split {up : ByteArray} (h : RepL x l) (h4 : l.length = 4) (hs : Split x a b up) : RepL a (l.take 2) ∧ RepL b (l.drop 2) ∧ ∀ e, l[2]? = some e → up = e.1 := by
  have hn := h.n
  refine ⟨⟨by rw [hs.ak]; exact h.k, by rw [hs.an]; simp; omega, fun j f hf => ?_⟩, ⟨by rw [hs.bk]; exact h.k, by have := hs.bn; simp; omega, fun j f hf => ?_⟩, fun e he => ?_⟩
  · have hj := get_lt hf
    simp at hj
    rw [List.getElem?_take, if_pos (by omega)] at hf
    rw [(hs.av j (by omega)).1, (hs.av j (by omega)).2.1]
    exact h.v j f hf
  · have hj := get_lt hf
    simp at hj
    rw [List.getElem?_drop, Nat.add_comm] at hf
    rw [(hs.bv j (by omega)).1, (hs.bv j (by omega)).2]
    exact h.v _ f hf
  · rw [hs.up, if_pos h.k]
    exact (h.v 2 e he).1
theorem RepL.fromLeft {m : Nat} {e : KV} (h : RepL x (l ++ [e])) (hy : RepL y r) (hm : x.n = m + 1) (he : ∀ f ∈ r, lt e.1 f.1 = true) (hp : LPut y (x.K m) (x.V m) b) : RepL { x with n := m } l ∧ RepL b (e :: r) ∧ b.K 0 = e.1 := by
  have hn := h.n
  simp at hn
  have hm2 : m = l.length := by omega
  have hl := h.v m e (by rw [hm2]; simp)
  rw [hl.1, hl.2] at hp
  have hb := hy.put hp
  rw [putL_more he] at hb
  refine ⟨⟨h.k, hm2, fun j f hf => ?_⟩, hb, (hb.v 0 (e.1, e.2) (by simp)).1⟩
  have := get_lt hf
  exact h.v j f (by rw [List.getElem?_append, if_pos this]; exact hf)
theorem RepL.fromRight {e e' : KV} (h : RepL x l) (hy : RepL y (e :: e' :: r)) (hc : LCut y 0 b) : RepL { x with K := upF x.K x.n (y.K 0), V := upF x.V x.n (y.V 0), n := x.n + 1 } (l ++ [e]) ∧ RepL b (e' :: r) ∧ b.K 0 = e'.1 := by
  have hn := h.n
  have h0 := hy.v 0 e (by simp)
  have hb := hy.cut hc (by simp)
  have hb2 : RepL b (e' :: r) := hb
  refine ⟨⟨h.k, by simp; omega, fun j f hf => ?_⟩, hb2, (hb2.v 0 e' (by simp)).1⟩
  rw [List.getElem?_append] at hf
  show upF x.K x.n (y.K 0) j = _ ∧ upF x.V x.n (y.V 0) j = _
  by_cases e1 : j < l.length
  · rw [if_pos e1] at hf
    rw [upF_other _ _ _ _ (by omega), upF_other _ _ _ _ (by omega)]
    exact h.v j f hf
  · rw [if_neg e1] at hf
    have := get_lt hf
    simp at this
    have e2 : j = x.n := by omega
    subst e2
    rw [upF_same, upF_same]
    have e3 : x.n - l.length = 0 := by omega
    rw [e3] at hf
    simp at hf
    subst hf
    exact h0
theorem RepL.join (h : RepL x l) (hy : RepL y r) (hj : JnL x y z) : RepL z (l ++ r) := by
  obtain ⟨hk, hn, h1, h2⟩ := hj
  have n1 := h.n
  have n2 := hy.n
  refine ⟨by rw [hk]; exact h.k, by simp; omega, fun j f hf => ?_⟩
  have hj := get_lt hf
  simp at hj
  rw [List.getElem?_append] at hf
  by_cases e1 : j < l.length
  · rw [if_pos e1] at hf
    rw [(h1 j (by omega)).1, (h1 j (by omega)).2]
    exact h.v j f hf
  · rw [if_neg e1] at hf
    have := h2 (j - l.length) (by omega)
    have e2 : x.n + (j - l.length) = j := by omega
    rw [e2] at this
    rw [this.1, this.2]
    exact hy.v _ f hf
end
section
variable {x y z a b : Node} {l r xs ys : List (ByteArray × Nat)}
theorem get_mid {α : Type} {xs ys : List α} {e : α} {t : Nat} : (xs ++ e :: ys)[t]? = if t < xs.length then xs[t]? else if t = xs.length then some e else ys[t - xs.length - 1]? := by
  rw [List.getElem?_append]
  by_cases h1 : t < xs.length
  · rw [if_pos h1, if_pos h1]
  · rw [if_neg h1, if_neg h1]
    by_cases h2 : t = xs.length
    · subst h2; simp
    · rw [if_neg h2]
      obtain ⟨d, hd⟩ : ∃ d, t - xs.length = d + 1 := ⟨t - xs.length - 1, by omega⟩
      rw [hd]
      simp
theorem RepI.put {e : ByteArray × Nat} {sep : ByteArray} {right : Nat} (h : RepI x (xs ++ e :: ys)) (hp : IPut x xs.length sep right y) : RepI y (xs ++ e :: (sep, right) :: ys) := by
  obtain ⟨hk, hn, hK, hC⟩ := hp
  have n1 := h.n
  simp at n1
  refine ⟨by rw [hk]; exact h.k, by simp; omega, fun j f hf => ?_, fun j f hf => ?_⟩
  · have hj := get_lt hf
    simp at hj
    rw [hC j (by omega)]
    unfold insF
    rw [get_mid] at hf
    by_cases e1 : j < xs.length
    · rw [if_pos e1] at hf
      rw [if_pos (by omega)]
      exact h.c j f (by rw [get_mid, if_pos e1]; exact hf)
    · rw [if_neg e1] at hf
      by_cases e2 : j = xs.length
      · rw [if_pos e2] at hf
        rw [if_pos (by omega)]
        exact h.c j f (by rw [get_mid, if_neg e1, if_pos e2]; exact hf)
      · rw [if_neg e2] at hf
        rw [if_neg (by omega)]
        by_cases e3 : j = xs.length + 1
        · rw [if_pos e3]
          subst e3
          have e4 : xs.length + 1 - xs.length - 1 = 0 := by omega
          rw [e4] at hf
          simp at hf
          subst hf
          rfl
        · rw [if_neg e3]
          obtain ⟨d, hd⟩ : ∃ d, j = xs.length + 2 + d := ⟨j - xs.length - 2, by omega⟩
          subst hd
          have e4 : xs.length + 2 + d - xs.length - 1 = d + 1 := by omega
          rw [e4] at hf
          simp at hf
          refine h.c _ f ?_
          rw [get_mid, if_neg (by omega), if_neg (by omega)]
          have e5 : xs.length + 2 + d - 1 - xs.length - 1 = d := by omega
          rw [e5]
          exact hf
  · have hj := get_lt hf
    simp at hj
    rw [hK j (by omega)]
    unfold insF
    rw [get_mid] at hf
    by_cases e1 : j < xs.length
    · rw [if_pos e1]
      refine h.s j f ?_
      rw [get_mid]
      by_cases e2 : j + 1 < xs.length
      · rw [if_pos e2] at hf ⊢; exact hf
      · rw [if_neg e2, if_pos (by omega)] at hf
        rw [if_neg e2, if_pos (by omega)]
        exact hf
    · rw [if_neg e1]
      rw [if_neg (by omega), if_neg (by omega)] at hf
      by_cases e2 : j = xs.length
      · rw [if_pos e2]
        subst e2
        have e4 : xs.length + 1 - xs.length - 1 = 0 := by omega
        rw [e4] at hf
        simp at hf
        subst hf
        rfl
      · rw [if_neg e2]
        obtain ⟨d, hd⟩ : ∃ d, j = xs.length + 1 + d := ⟨j - xs.length - 1, by omega⟩
        subst hd
        have e4 : xs.length + 1 + d + 1 - xs.length - 1 = d + 1 := by omega
        rw [e4] at hf
        simp at hf
        refine h.s _ f ?_
        rw [get_mid, if_neg (by omega), if_neg (by omega)]
        have e5 : xs.length + 1 + d - 1 + 1 - xs.length - 1 = d := by omega
        rw [e5]
        exact hf
theorem RepI.cut {e e' : ByteArray × Nat} (h : RepI x (xs ++ e :: e' :: ys)) (hc : ICut x xs.length y) : RepI y (xs ++ e :: ys) := by
  obtain ⟨hk, hn, hK, hC⟩ := hc
  have n1 := h.n
  simp at n1
  refine ⟨by rw [hk]; exact h.k, by simp; omega, fun j f hf => ?_, fun j f hf => ?_⟩
  · have hj := get_lt hf
    simp at hj
    rw [hC j (by omega)]
    rw [get_mid] at hf
    by_cases e1 : j < xs.length
    · rw [if_pos e1] at hf
      rw [if_pos (by omega)]
      exact h.c j f (by rw [get_mid, if_pos e1]; exact hf)
    · rw [if_neg e1] at hf
      by_cases e2 : j = xs.length
      · rw [if_pos e2] at hf
        rw [if_pos (by omega)]
        exact h.c j f (by rw [get_mid, if_neg e1, if_pos e2]; exact hf)
      · rw [if_neg e2] at hf
        rw [if_neg (by omega)]
        refine h.c _ f ?_
        rw [get_mid, if_neg (by omega), if_neg (by omega)]
        have e4 : j + 1 - xs.length - 1 = (j - xs.length - 1) + 1 := by omega
        rw [e4]
        simpa using hf
  · have hj := get_lt hf
    simp at hj
    rw [hK j (by omega)]
    rw [get_mid] at hf
    by_cases e1 : j < xs.length
    · rw [if_pos e1]
      refine h.s j f ?_
      rw [get_mid]
      by_cases e2 : j + 1 < xs.length
      · rw [if_pos e2] at hf ⊢; exact hf
      · rw [if_neg e2, if_pos (by omega)] at hf
        rw [if_neg e2, if_pos (by omega)]
        exact hf
    · rw [if_neg e1]
      rw [if_neg (by omega), if_neg (by omega)] at hf
      refine h.s _ f ?_
      rw [get_mid, if_neg (by omega), if_neg (by omega)]
      have e4 : j + 1 + 1 - xs.length - 1 = (j + 1 - xs.length - 1) + 1 := by omega
      rw [e4]
      simpa using hf
theorem RepI.split {up : ByteArray} (h : RepI x l) (h5 : l.length = 5) (hs : Split x a b up) : RepI a (l.take 2) ∧ RepI b (l.drop 2) ∧ ∀ e, l[2]? = some e → up = e.1 := by
  have hn := h.n
  have hbn := hs.bn
  refine ⟨⟨by rw [hs.ak]; exact h.k, by rw [hs.an]; simp; omega, fun j f hf => ?_, fun j f hf => ?_⟩, ⟨by rw [hs.bk]; exact h.k, by simp; omega, fun j f hf => ?_, fun j f hf => ?_⟩, fun e he => ?_⟩
  · have hj := get_lt hf
    simp at hj
    rw [List.getElem?_take, if_pos (by omega)] at hf
    rw [(hs.av j (by omega)).2.2]
    exact h.c j f hf
  · have hj := get_lt hf
    simp at hj
    rw [List.getElem?_take, if_pos (by omega)] at hf
    rw [(hs.av j (by omega)).1]
    exact h.s j f hf
  · have hj := get_lt hf
    simp at hj
    rw [List.getElem?_drop, Nat.add_comm] at hf
    rw [hs.bc j (by omega)]
    exact h.c _ f hf
  · have hj := get_lt hf
    simp at hj
    rw [List.getElem?_drop] at hf
    rw [(hs.bv j (by omega)).1]
    have e1 : 2 + (j + 1) = j + 2 + 1 := by omega
    rw [e1] at hf
    exact h.s _ f hf
  · rw [hs.up, if_neg (by rw [h.k]; omega)]
    exact h.s 1 e he
theorem RepI.fromLeft {m : Nat} {e : ByteArray × Nat} {sep s0 : ByteArray} {p0 : Nat} (h : RepI x (l ++ [e])) (hy : RepI y [(s0, p0)]) (hm : x.n = m + 2) : RepI { x with n := m + 1 } l ∧ RepI { y with n := 2, C := upF (upF y.C 1 (y.C 0)) 0 (x.C (m + 1)), K := upF y.K 0 sep } [e, (sep, p0)] ∧ x.K m = e.1 := by
  have hn := h.n
  simp at hn
  have hm2 : m + 1 = l.length := by omega
  have h1 := h.c (m + 1) e (by rw [hm2]; simp)
  have h2 := h.s m e (by rw [hm2]; simp)
  have h0 := hy.c 0 (s0, p0) (by simp)
  refine ⟨⟨h.k, hm2, fun j f hf => ?_, fun j f hf => ?_⟩, ⟨hy.k, rfl, fun j f hf => ?_, fun j f hf => ?_⟩, h2⟩
  · have := get_lt hf
    exact h.c j f (by rw [List.getElem?_append, if_pos this]; exact hf)
  · have := get_lt hf
    exact h.s j f (by rw [List.getElem?_append, if_pos this]; exact hf)
  · show upF (upF y.C 1 (y.C 0)) 0 (x.C (m + 1)) j = _
    match j, hf with
    | 0, hf => simp at hf; subst hf; rw [upF_same]; exact h1
    | 1, hf => simp at hf; subst hf; rw [upF_other _ _ _ _ (by omega), upF_same]; exact h0
    | j + 2, hf => simp at hf
  · show upF y.K 0 sep j = _
    match j, hf with
    | 0, hf => simp at hf; subst hf; rw [upF_same]
    | j + 1, hf => simp at hf
theorem RepI.fromRight {m : Nat} {e e' : ByteArray × Nat} {sep : ByteArray} (h : RepI x l) (hy : RepI y (e :: e' :: r)) (hm : x.n = m + 1) (hc : ICut { y with C := upF y.C 0 (y.C 1) } 0 b) : RepI { x with C := upF x.C (m + 1) (y.C 0), K := upF x.K m sep, n := m + 2 } (l ++ [(sep, e.2)]) ∧ RepI b (e' :: r) ∧ y.K 0 = e'.1 := by
  have hn := h.n
  have h0 := hy.c 0 e (by simp)
  have h1 := hy.s 0 e' (by simp)
  have hyn := hy.n
  simp at hyn
  have hy2 : RepI { y with C := upF y.C 0 (y.C 1) } ((e'.1, e'.2) :: e' :: r) := ⟨hy.k, by simp; omega, fun j f hf => by
    show upF y.C 0 (y.C 1) j = _
    match j, hf with
    | 0, hf => simp at hf; subst hf; rw [upF_same]; exact hy.c 1 e' (by simp)
    | j + 1, hf => rw [upF_other _ _ _ _ (by omega)]; exact hy.c (j + 1) f (by simpa using hf), fun j f hf => hy.s j f (by simpa using hf)⟩
  have hb : RepI b ((e'.1, e'.2) :: r) := RepI.cut (xs := []) hy2 hc
  refine ⟨⟨h.k, by simp; omega, fun j f hf => ?_, fun j f hf => ?_⟩, hb, h1⟩
  · show upF x.C (m + 1) (y.C 0) j = _
    rw [List.getElem?_append] at hf
    by_cases e1 : j < l.length
    · rw [if_pos e1] at hf
      rw [upF_other _ _ _ _ (by omega)]
      exact h.c j f hf
    · rw [if_neg e1] at hf
      have := get_lt hf
      simp at this
      have e2 : j = m + 1 := by omega
      subst e2
      rw [upF_same]
      have e3 : m + 1 - l.length = 0 := by omega
      rw [e3] at hf
      simp at hf
      subst hf
      exact h0
  · show upF x.K m sep j = _
    rw [List.getElem?_append] at hf
    by_cases e1 : j + 1 < l.length
    · rw [if_pos e1] at hf
      rw [upF_other _ _ _ _ (by omega)]
      exact h.s j f hf
    · rw [if_neg e1] at hf
      have := get_lt hf
      simp at this
      have e2 : j = m := by omega
      subst e2
      rw [upF_same]
      have e3 : j + 1 - l.length = 0 := by omega
      rw [e3] at hf
      simp at hf
      subst hf
      rfl
theorem RepI.join {e : ByteArray × Nat} {sep : ByteArray} (h : RepI x l) (hl : l ≠ []) (hy : RepI y (e :: r)) (hj : JnI x y sep z) : RepI z (l ++ (sep, e.2) :: r) := by
  obtain ⟨hk, hn, h1, h2, h3, h4, h5⟩ := hj
  have n1 := h.n
  have n2 := hy.n
  have n3 : 0 < l.length := List.length_pos_iff.mpr hl
  simp at n2
  refine ⟨by rw [hk]; exact h.k, by simp; omega, fun j f hf => ?_, fun j f hf => ?_⟩
  · have hj := get_lt hf
    simp at hj
    rw [get_mid] at hf
    by_cases e1 : j < l.length
    · rw [if_pos e1] at hf
      rw [h1 j (by omega)]
      exact h.c j f hf
    · rw [if_neg e1] at hf
      have := h2 (j - l.length) (by omega)
      have e2 : x.n + (j - l.length) = j := by omega
      rw [e2] at this
      rw [this]
      by_cases e3 : j = l.length
      · rw [if_pos e3] at hf
        subst e3
        cases hf
        exact hy.c _ e (by simp)
      · rw [if_neg e3] at hf
        refine hy.c _ f ?_
        have e4 : j - l.length = (j - l.length - 1) + 1 := by omega
        rw [e4]
        simpa using hf
  · have hj := get_lt hf
    simp at hj
    rw [get_mid] at hf
    by_cases e1 : j + 1 < l.length
    · rw [if_pos e1] at hf
      rw [h3 j (by omega)]
      exact h.s j f hf
    · rw [if_neg e1] at hf
      by_cases e3 : j + 1 = l.length
      · rw [if_pos e3] at hf
        cases hf
        have e4 : x.n - 1 = j := by omega
        rw [e4] at h4
        exact h4
      · rw [if_neg e3] at hf
        have := h5 (j - l.length) (by omega)
        have e2 : x.n + (j - l.length) = j := by omega
        rw [e2] at this
        rw [this]
        refine hy.s _ f ?_
        have e4 : j + 1 - l.length - 1 = j - l.length := by omega
        rw [e4] at hf
        simpa using hf
theorem RepI.sep {e : ByteArray × Nat} {sep : ByteArray} {c : Nat} (h : RepI x (xs ++ e :: ys)) (hc : xs.length = c + 1) : RepI { x with K := upF x.K c sep } (xs ++ (sep, e.2) :: ys) := by
  have hn := h.n
  refine ⟨h.k, by simp at hn; simp; omega, fun j f hf => ?_, fun j f hf => ?_⟩
  · rw [get_mid] at hf
    have := h.c j
    rw [get_mid] at this
    by_cases e1 : j < xs.length
    · rw [if_pos e1] at hf this; exact this f hf
    · rw [if_neg e1] at hf this
      by_cases e2 : j = xs.length
      · rw [if_pos e2] at hf this
        cases hf
        exact this e rfl
      · rw [if_neg e2] at hf this; exact this f hf
  · show upF x.K c sep j = _
    rw [get_mid] at hf
    have := h.s j
    rw [get_mid] at this
    by_cases e1 : j + 1 < xs.length
    · rw [if_pos e1] at hf this
      rw [upF_other _ _ _ _ (by omega)]
      exact this f hf
    · rw [if_neg e1] at hf this
      by_cases e2 : j + 1 = xs.length
      · rw [if_pos e2] at hf
        cases hf
        have e3 : j = c := by omega
        subst e3
        rw [upF_same]
      · rw [if_neg e2] at hf this
        rw [upF_other _ _ _ _ (by omega)]
        exact this f hf
end
end Go.Proofs.Qxb6500412aGreat
