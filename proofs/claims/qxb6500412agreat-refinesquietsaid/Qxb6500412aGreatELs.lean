/-
  OWN WORK. TABLE: rising lists: what they hold settles them; rows in the order of a key; the order of the trees' keys. No program in sight.
-/
import Derived.Test.Qxb6500412aGreatEDef
namespace Go.Proofs.Qxb6500412aGreat
open Go.RowKit Go.PlainAid
set_option linter.unusedSimpArgs false
set_option linter.unusedVariables false

theorem Srt.key {l : List KV} (h : Srt l) {a b : KV} (ha : a ∈ l) (hb : b ∈ l) (e : a.1 = b.1) : a = b := by
  induction l with
  | nil => simp at ha
  | cons x r ih =>
    obtain ⟨h1, h2⟩ := List.pairwise_cons.mp h
    rcases List.mem_cons.mp ha with c | c
    · rcases List.mem_cons.mp hb with d | d
      · rw [c, d]
      · have := h1 b d
        rw [← c, e, lt_irr] at this
        cases this
    · rcases List.mem_cons.mp hb with d | d
      · have := h1 a c
        rw [← d, e, lt_irr] at this
        cases this
      · exact ih h2 c d
theorem Srt.get {l : List KV} (h : Srt l) {k v : ByteArray} : getL k l = some v ↔ (k, v) ∈ l := by
  refine ⟨getL_some, fun hm => ?_⟩
  cases hg : getL k l with
  | none =>
    have := (getL_isSome (k := k) (l := l)).mpr ⟨(k, v), hm, rfl⟩
    rw [hg] at this
    cases this
  | some u =>
    have := h.key hm (getL_some hg) rfl
    simp at this
    rw [this]
theorem getN_iff {l : List KV} {k : ByteArray} : getL k l = none ↔ ∀ e ∈ l, e.1 ≠ k := by
  refine ⟨fun h e he c => ?_, getL_none⟩
  have := (getL_isSome (k := k) (l := l)).mpr ⟨e, he, c⟩
  rw [h] at this
  cases this
theorem Srt.ext : ∀ {a b : List KV}, Srt a → Srt b → (∀ e, e ∈ a ↔ e ∈ b) → a = b
  | [], [], _, _, _ => rfl
  | [], y :: b, _, _, h => by have := (h y).mpr (by simp); simp at this
  | x :: a, [], _, _, h => by have := (h x).mp (by simp); simp at this
  | x :: a, y :: b, ha, hb, h => by
    obtain ⟨a1, a2⟩ := List.pairwise_cons.mp ha
    obtain ⟨b1, b2⟩ := List.pairwise_cons.mp hb
    have hxy : x = y := by
      rcases List.mem_cons.mp ((h x).mp (by simp)) with c | c
      · exact c
      · rcases List.mem_cons.mp ((h y).mpr (by simp)) with d | d
        · exact d.symm
        · have e1 := b1 x c
          have e2 := a1 y d
          rw [lt_asymm e1] at e2
          cases e2
    subst hxy
    rw [Srt.ext a2 b2 (fun e => ?_)]
    have ne : ∀ z : KV, lt x.1 z.1 = true → z ≠ x := fun z hz c => by rw [c, lt_irr] at hz; cases hz
    constructor
    · intro he
      rcases List.mem_cons.mp ((h e).mp (by simp [he])) with c | c
      · exact absurd c (ne e (a1 e he))
      · exact c
    · intro he
      rcases List.mem_cons.mp ((h e).mpr (by simp [he])) with c | c
      · exact absurd c (ne e (b1 e he))
      · exact c
theorem putL_in (k v : ByteArray) (l : List KV) : (k, v) ∈ putL k v l := by
  induction l with
  | nil => simp [putL]
  | cons a r ih =>
    rw [putL]
    split
    · simp [ih]
    · split <;> simp
theorem putL_keep {k v : ByteArray} {l : List KV} {e : KV} (he : e ∈ l) (hk : e.1 ≠ k) : e ∈ putL k v l := by
  induction l with
  | nil => simp at he
  | cons a r ih =>
    rw [putL]
    rcases List.mem_cons.mp he with c | c
    · subst c
      split
      · simp
      · simp
    · split
      · simp [ih c]
      · split <;> simp [c]
theorem Srt.put_iff {l : List KV} (h : Srt l) {k v : ByteArray} {e : KV} : e ∈ putL k v l ↔ e = (k, v) ∨ (e ∈ l ∧ e.1 ≠ k) := by
  constructor
  · intro he
    by_cases c : e.1 = k
    · exact .inl ((putL_srt h).key he (putL_in k v l) c)
    · rcases putL_mem he with d | d
      · exact .inl d
      · exact .inr ⟨d, c⟩
  · rintro (c | c)
    · rw [c]; exact putL_in k v l
    · exact putL_keep c.1 c.2
theorem delL_iff {k : ByteArray} {l : List KV} {e : KV} : e ∈ delL k l ↔ e ∈ l ∧ e.1 ≠ k := by simp [delL]
theorem delL_srt {k : ByteArray} {l : List KV} (h : Srt l) : Srt (delL k l) := List.Pairwise.filter _ h
/-- Rows in the order of a key. -/
def putBy {α : Type} (f : α → ByteArray) (r : α) : List α → List α
  | [] => [r]
  | e :: l => if lt (f e) (f r) = true then e :: putBy f r l else if f e = f r then r :: l else r :: e :: l
section
variable {α : Type} (f : α → ByteArray) (g : α → ByteArray)
def kvsOf (l : List α) : List KV := l.map (fun r => (f r, g r))
theorem putBy_kvs (r : α) (l : List α) : kvsOf f g (putBy f r l) = putL (f r) (g r) (kvsOf f g l) := by
  induction l with
  | nil => rfl
  | cons e l ih =>
    show kvsOf f g (putBy f r (e :: l)) = putL (f r) (g r) ((f e, g e) :: kvsOf f g l)
    rw [putBy, putL]
    simp only
    split
    · show (f e, g e) :: kvsOf f g (putBy f r l) = _
      rw [ih]
    · split <;> rfl
theorem kvs_mem {l : List α} {e : KV} : e ∈ kvsOf f g l ↔ ∃ r ∈ l, e = (f r, g r) := by
  unfold kvsOf
  rw [List.mem_map]
  constructor
  · rintro ⟨r, h, rfl⟩; exact ⟨r, h, rfl⟩
  · rintro ⟨r, h, rfl⟩; exact ⟨r, h, rfl⟩
theorem kvs_srt {l : List α} : Srt (kvsOf f g l) ↔ l.Pairwise (fun a b => lt (f a) (f b) = true) := by
  unfold Srt kvsOf
  rw [List.pairwise_map]
theorem putBy_mem {r : α} {l : List α} {e : α} (h : e ∈ putBy f r l) : e = r ∨ e ∈ l := by
  induction l with
  | nil => simp [putBy] at h; exact .inl h
  | cons a t ih =>
    rw [putBy] at h
    split at h
    · rcases List.mem_cons.mp h with c | c
      · exact .inr (by simp [c])
      · rcases ih c with d | d
        · exact .inl d
        · exact .inr (by simp [d])
    · split at h
      · rcases List.mem_cons.mp h with c | c
        · exact .inl c
        · exact .inr (by simp [c])
      · rcases List.mem_cons.mp h with c | c
        · exact .inl c
        · exact .inr c
theorem putBy_in (r : α) (l : List α) : r ∈ putBy f r l := by
  induction l with
  | nil => simp [putBy]
  | cons a t ih =>
    rw [putBy]
    split
    · simp [ih]
    · split <;> simp
theorem putBy_keep {r : α} {l : List α} {e : α} (he : e ∈ l) (hk : f e ≠ f r) : e ∈ putBy f r l := by
  induction l with
  | nil => simp at he
  | cons a t ih =>
    rw [putBy]
    rcases List.mem_cons.mp he with c | c
    · subst c
      split
      · simp
      · simp
    · split
      · simp [ih c]
      · split <;> simp [c]
theorem putBy_srt {r : α} {l : List α} (h : l.Pairwise (fun a b => lt (f a) (f b) = true)) : (putBy f r l).Pairwise (fun a b => lt (f a) (f b) = true) := by
  have h1 := (kvs_srt f f).mpr h
  have h2 := putL_srt (k := f r) (v := f r) h1
  rw [← putBy_kvs f f r l] at h2
  exact (kvs_srt f f).mp h2
theorem by_key {l : List α} (h : l.Pairwise (fun a b => lt (f a) (f b) = true)) {a b : α} (ha : a ∈ l) (hb : b ∈ l) (e : f a = f b) : a = b := by
  induction l with
  | nil => simp at ha
  | cons x r ih =>
    obtain ⟨h1, h2⟩ := List.pairwise_cons.mp h
    rcases List.mem_cons.mp ha with c | c
    · rcases List.mem_cons.mp hb with d | d
      · rw [c, d]
      · have := h1 b d
        rw [← c, e, lt_irr] at this
        cases this
    · rcases List.mem_cons.mp hb with d | d
      · have := h1 a c
        rw [← d, e, lt_irr] at this
        cases this
      · exact ih h2 c d
theorem putBy_iff {r : α} {l : List α} (h : l.Pairwise (fun a b => lt (f a) (f b) = true)) {e : α} : e ∈ putBy f r l ↔ e = r ∨ (e ∈ l ∧ f e ≠ f r) := by
  constructor
  · intro he
    by_cases c : f e = f r
    · exact .inl (by_key f (putBy_srt f h) he (putBy_in f r l) c)
    · rcases putBy_mem f he with d | d
      · exact .inl d
      · exact .inr ⟨d, c⟩
  · rintro (c | c)
    · rw [c]; exact putBy_in f r l
    · exact putBy_keep f c.1 c.2
theorem by_ext : ∀ {a b : List α}, a.Pairwise (fun x y => lt (f x) (f y) = true) → b.Pairwise (fun x y => lt (f x) (f y) = true) → (∀ e, e ∈ a ↔ e ∈ b) → a = b
  | [], [], _, _, _ => rfl
  | [], y :: b, _, _, h => by have := (h y).mpr (by simp); simp at this
  | x :: a, [], _, _, h => by have := (h x).mp (by simp); simp at this
  | x :: a, y :: b, ha, hb, h => by
    obtain ⟨a1, a2⟩ := List.pairwise_cons.mp ha
    obtain ⟨b1, b2⟩ := List.pairwise_cons.mp hb
    have hxy : x = y := by
      rcases List.mem_cons.mp ((h x).mp (by simp)) with c | c
      · exact c
      · rcases List.mem_cons.mp ((h y).mpr (by simp)) with d | d
        · exact d.symm
        · have e1 := b1 x c
          have e2 := a1 y d
          rw [lt_asymm e1] at e2
          cases e2
    subst hxy
    rw [by_ext a2 b2 (fun e => ?_)]
    have ne : ∀ z : α, lt (f x) (f z) = true → z ≠ x := fun z hz c => by rw [c, lt_irr] at hz; cases hz
    constructor
    · intro he
      rcases List.mem_cons.mp ((h e).mp (by simp [he])) with c | c
      · exact absurd c (ne e (a1 e he))
      · exact c
    · intro he
      rcases List.mem_cons.mp ((h e).mpr (by simp [he])) with c | c
      · exact absurd c (ne e (b1 e he))
      · exact c
theorem putBy_len_new {r : α} {l : List α} (h : ∀ e ∈ l, f e ≠ f r) : (putBy f r l).length = l.length + 1 := by
  have h1 := congrArg List.length (putBy_kvs f f r l)
  rw [putL_len_new (fun e he => by obtain ⟨x, hx, rfl⟩ := (kvs_mem f f).mp he; exact h x hx)] at h1
  simpa [kvsOf] using h1
theorem putBy_len_old {r : α} {l : List α} (hs : l.Pairwise (fun a b => lt (f a) (f b) = true)) (h : ∃ e ∈ l, f e = f r) : (putBy f r l).length = l.length := by
  have h1 := congrArg List.length (putBy_kvs f f r l)
  obtain ⟨x, hx, e⟩ := h
  rw [putL_len_old ((kvs_srt f f).mpr hs) ⟨_, (kvs_mem f f).mpr ⟨x, hx, rfl⟩, e⟩] at h1
  simpa [kvsOf] using h1
end
/- The order of keys made of two parts. -/
theorem ls_append (a b : ByteArray) : ls (a ++ b) = ls a ++ ls b := by simp [ls]
theorem bl_app : ∀ (a b x y : Str), a.length = b.length → bl (a ++ x) (b ++ y) = (bl a b || (a == b && bl x y))
  | [], [], x, y, _ => by simp [bl_nil]
  | [], _ :: _, _, _, h => by simp at h
  | _ :: _, [], _, _, h => by simp at h
  | a :: s, b :: t, x, y, h => by
    have ih := bl_app s t x y (by simpa using h)
    rw [List.cons_append, List.cons_append, bl_cons, bl_cons, ih]
    by_cases c : a = b
    · subst c
      simp
    · have e1 : (a == b) = false := by simpa using c
      have e2 : (a :: s == b :: t) = false := by simp [c]
      rw [e1, e2]
      simp
theorem lt_app {a b x y : ByteArray} (h : a.size = b.size) : lt (a ++ x) (b ++ y) = (lt a b || (decide (a = b) && lt x y)) := by
  rw [lt_ls, lt_ls, lt_ls, ls_append, ls_append, bl_app _ _ _ _ (by rw [ls_len, ls_len]; exact h)]
  congr 2
  by_cases c : a = b
  · subst c; simp
  · have : ls a ≠ ls b := fun e => c (ls_inj e)
    simp [c, this]
theorem ba_app_nil (a : ByteArray) : a ++ (⟨#[]⟩ : ByteArray) = a := ls_inj (by rw [ls_append]; simp [ls])
theorem app_inj {a b x y : ByteArray} (h : a.size = b.size) (e : a ++ x = b ++ y) : a = b ∧ x = y := by
  have e2 := congrArg ls e
  rw [ls_append, ls_append] at e2
  have := List.append_inj e2 (by rw [ls_len, ls_len]; exact h)
  exact ⟨ls_inj this.1, ls_inj this.2⟩
theorem lt_mk1 {i j : Nat} (hi : i < 256) (hj : j < 256) : lt (mkB 1 (fun _ => i)) (mkB 1 (fun _ => j)) = decide (i < j) := by
  rw [lt_ls, mkB_ls, mkB_ls]
  simp only [List.range_one, List.map_cons, List.map_nil]
  rw [bl_cons, bl_nil]
  simp only [Bool.and_false, Bool.or_false]
  exact decide_eq_decide.mpr (u8_lt hi hj)
theorem mk1_inj {i j : Nat} (hi : i < 256) (hj : j < 256) (e : mkB 1 (fun _ => i) = mkB 1 (fun _ => j)) : i = j := by
  have h1 := lt_mk1 hi hj
  have h2 := lt_mk1 hj hi
  rw [e, lt_irr] at h1 h2
  have := of_decide_eq_false h1.symm
  have := of_decide_eq_false h2.symm
  omega
theorem catK_size (nm : ByteArray) (i : Nat) : (catK nm i).size = 8 := by
  unfold catK
  rw [ByteArray.size_append, cP_size, mkB_size]
theorem catK_lt {a b : ByteArray} {i j : Nat} (ha : a.size ≤ 6) (hb : b.size ≤ 6) (hi : i < 256) (hj : j < 256) : lt (catK a i) (catK b j) = (lt a b || (decide (a = b) && decide (i < j))) := by
  unfold catK
  rw [lt_app (by rw [cP_size, cP_size]), cP_lt (by omega) ha hb, lt_mk1 hi hj]
  congr 2
  exact decide_eq_decide.mpr ⟨fun e => cP_inj (by omega) ha hb e, fun e => by rw [e]⟩
theorem catK_inj {a b : ByteArray} {i j : Nat} (ha : a.size ≤ 6) (hb : b.size ≤ 6) (hi : i < 256) (hj : j < 256) (e : catK a i = catK b j) : a = b ∧ i = j := by
  unfold catK at e
  obtain ⟨e1, e2⟩ := app_inj (by rw [cP_size, cP_size]) e
  exact ⟨cP_inj (by omega) ha hb e1, mk1_inj hi hj e2⟩
def kyR (c : Nat) (r : List Vl) : Vl := (r[c]?).getD (vI 0)
theorem idxK_eq (r : List Vl) (c pk : Nat) : idxK r c pk = cV (kyR c r) ++ cV (kyR pk r) := rfl
theorem idxK_size (r : List Vl) (c pk : Nat) : (idxK r c pk).size = 16 := by rw [idxK_eq, ByteArray.size_append, cV_size, cV_size]
theorem idxK_lt (r s : List Vl) (c pk : Nat) : lt (idxK r c pk) (idxK s c pk) = (lt (cV (kyR c r)) (cV (kyR c s)) || (decide (cV (kyR c r) = cV (kyR c s)) && lt (cV (kyR pk r)) (cV (kyR pk s)))) := by
  rw [idxK_eq, idxK_eq, lt_app (by rw [cV_size, cV_size])]
theorem idxK_inj {r s : List Vl} {c pk : Nat} (e : idxK r c pk = idxK s c pk) : cV (kyR c r) = cV (kyR c s) ∧ cV (kyR pk r) = cV (kyR pk s) := by
  rw [idxK_eq, idxK_eq] at e
  exact app_inj (by rw [cV_size, cV_size]) e
end Go.Proofs.Qxb6500412aGreat
