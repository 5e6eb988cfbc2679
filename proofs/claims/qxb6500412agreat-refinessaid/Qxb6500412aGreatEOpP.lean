/-
  OWN WORK. TABLE: how many entries and trees there are; a table created, dropped, indexed. No program in sight.
-/
import Derived.Test.Qxb6500412aGreatEScP
namespace Go.Proofs.Qxb6500412aGreat
open Go.RowKit Go.PlainAid
set_option linter.unusedSimpArgs false
set_option linter.unusedVariables false

theorem nodup_len : ∀ (l m : List Nat), l.Nodup → (∀ x ∈ l, x ∈ m) → l.length ≤ m.length
  | [], m, _, _ => by simp
  | x :: l, m, hn, h => by
    obtain ⟨h1, h2⟩ := List.nodup_cons.mp hn
    have hx := h x (by simp)
    have := nodup_len l (m.erase x) h2 (fun y hy => by
      have hne : y ≠ x := fun e => h1 (by rw [← e]; exact hy)
      exact (List.mem_erase_of_ne hne).mpr (h y (by simp [hy])))
    rw [List.length_erase_of_mem hx] at this
    have hpos : 0 < m.length := List.length_pos_of_mem hx
    simp only [List.length_cons]
    omega
theorem sum_le8 (g : Nat → Nat) (p : Nat → Bool) : ∀ l : List Nat, (∀ i ∈ l, (p i = false → g i = 0) ∧ g i ≤ 8) → (l.map g).sum ≤ 8 * (l.filter p).length
  | [], _ => by simp
  | x :: l, h => by
    have ih := sum_le8 g p l (fun i hi => h i (by simp [hi]))
    have hx := h x (by simp)
    simp only [List.map_cons, List.sum_cons]
    cases c : p x with
    | true => rw [List.filter_cons_of_pos c]; simp only [List.length_cons]; omega
    | false => rw [List.filter_cons_of_neg (by simp [c]), hx.1 c]; omega
theorem sum_upd (g g' : Nat → Nat) (i : Nat) (h : ∀ j, j ≠ i → g' j = g j) : ∀ n, i < n → ((List.range n).map g').sum + g i = ((List.range n).map g).sum + g' i
  | 0, hi => by omega
  | n + 1, hi => by
    rw [List.range_succ, List.map_append, List.map_append, List.sum_append, List.sum_append]
    simp only [List.map_cons, List.map_nil, List.sum_cons, List.sum_nil]
    by_cases c : i = n
    · have hm : (List.range n).map g' = (List.range n).map g := List.map_congr_left (fun j hj => h j (fun e => by have := List.mem_range.mp hj; omega))
      rw [hm, c]
      omega
    · have := sum_upd g g' i h n (by omega)
      rw [h n (fun e => c e.symm)]
      omega
theorem al8_sum (S : Vu) : (al8 S).length = ((List.range 8).map (fun i => ((S i).getD []).length)).sum := by
  unfold al8
  rw [List.length_flatMap]
theorem al8_upd (S : Vu) {i : Nat} (hi : i < 8) (o : Option (List KV)) : (al8 (updV S i o)).length + ((S i).getD []).length = (al8 S).length + (o.getD []).length := by
  rw [al8_sum, al8_sum]
  have := sum_upd (fun j => ((S j).getD []).length) (fun j => ((updV S i o j).getD []).length) i (fun j hj => by simp [updV, hj]) 8 hi
  have e : ((updV S i o i).getD []).length = (o.getD []).length := by simp [updV]
  simp only [e] at this
  omega
theorem updV_at (S : Vu) (i : Nat) (o : Option (List KV)) : updV S i o i = o := by simp [updV]
theorem updV_ne (S : Vu) {i j : Nat} (o : Option (List KV)) (h : j ≠ i) : updV S i o j = S j := by simp [updV, h]
theorem Vz_nat (S : Vu) {i : Nat} (h : i < 8) : Vz S (i : Int) = S i := by unfold Vz; rw [if_pos (by omega)]; rfl
theorem put_ok {S : Vu} {i : Nat} (hi : i < 8) {l : List KV} (hl : S i = some l) {k v : ByteArray} (hk : k.size ≤ 16) (hv : v.size ≤ 16) (hc : (al8 S).length < 64 ∨ getL k l ≠ none) : putS S (i : Int) k v = (updV S i (some (putL k v l)), 0) := by
  unfold putS
  rw [Vz_nat S hi, hl]
  simp only
  rw [if_neg (by omega), if_neg (fun c => by rcases hc with d | d; omega; exact d c.1)]
  rfl
theorem del_ok {S : Vu} {i : Nat} (hi : i < 8) {l : List KV} (hl : S i = some l) {k : ByteArray} (hg : getL k l ≠ none) : delS S (i : Int) k = (updV S i (some (delL k l)), 0) := by
  unfold delS
  rw [Vz_nat S hi, hl]
  simp only
  rw [if_neg hg]
  rfl
theorem drop_ok {S : Vu} {i : Nat} (hi : i < 8) {l : List KV} (hl : S i = some l) : dropS S (i : Int) = (updV S i none, 0) := by
  unfold dropS
  rw [Vz_nat S hi, hl]
  rfl
section
variable {S S' : Vu} {T : List (Tb × Hd)}
theorem idxR_len (pk c : Nat) (rows : List (List Vl)) : (idxR pk c rows).length ≤ rows.length := by
  unfold idxR
  have : ∀ (l : List (List Vl)) (a : List (List Vl)), (l.foldl (fun l r => putBy (fun r => idxK r c pk) r l) a).length ≤ a.length + l.length := by
    intro l
    induction l with
    | nil => intro a; simp
    | cons x r ih =>
      intro a
      simp only [List.foldl_cons, List.length_cons]
      have h1 := ih (putBy (fun r => idxK r c pk) x a)
      have h2 : (putBy (fun r => idxK r c pk) x a).length ≤ a.length + 1 := by
        have h3 := congrArg List.length (putBy_kvs (fun r => idxK r c pk) (fun _ => eB) x a)
        have h4 : ∀ (k v : ByteArray) (l : List KV), (putL k v l).length ≤ l.length + 1 := by
          intro k v l
          induction l with
          | nil => simp [putL]
          | cons e t ih2 => rw [putL]; split; simpa using ih2; split <;> simp
        have h5 := h4 (idxK x c pk) eB (kvsOf (fun r => idxK r c pk) (fun _ => eB) a)
        rw [← h3] at h5
        simpa [kvsOf] using h5
      omega
  simpa using this rows []
theorem Lay.le8 (L : Lay S T) : ∀ i, i ≠ 0 → ((S i).getD []).length ≤ 8 := by
  intro i h0
  cases hs : S i with
  | none => simp
  | some l =>
    obtain ⟨x, hx, hi⟩ := mem_hands.mp (L.used i h0 (by rw [hs]; simp))
    have hlen := (L.tb x hx).len
    unfold hnd at hi
    rcases List.mem_cons.mp hi with c | c
    · have := L.rows x hx
      rw [← c, hs] at this
      have : l = _ := Option.some.inj this
      rw [this]
      simpa [rowsL, kvsOf] using hlen
    · have hid : x.2.idx = some i := by simpa using c
      have hf := L.hd x hx
      cases hix : x.1.ix with
      | none =>
        have := hf.ok.both.mp (by rw [hf.ix]; exact hix)
        rw [this] at hid; cases hid
      | some cc =>
        have := L.idx x hx cc i hix hid
        rw [hs] at this
        have : l = _ := Option.some.inj this
        rw [this]
        have h2 := idxR_len x.1.pk cc x.1.rows
        simp only [Option.getD_some, idxL, kvsOf, List.length_map]
        omega
theorem Lay.cnt (L : Lay S T) : (al8 S).length ≤ (catL T).length + 8 * (hands T).length := by
  rw [al8_sum]
  have h8 : List.range 8 = 0 :: (List.range 7).map (· + 1) := rfl
  rw [h8, List.map_cons, List.sum_cons, L.cat]
  have h1 := sum_le8 (fun i => ((S i).getD []).length) (fun i => (S i).isSome) ((List.range 7).map (· + 1)) (fun i hi => by
    obtain ⟨j, _, rfl⟩ := List.mem_map.mp hi
    refine ⟨fun c => ?_, L.le8 _ (by omega)⟩
    have : S (j + 1) = none := by simpa using c
    simp only [this]
    rfl)
  have h2 : (((List.range 7).map (· + 1)).filter (fun i => (S i).isSome)).length ≤ (hands T).length := by
    refine nodup_len _ _ (List.Pairwise.filter _ (show ((List.range 7).map (· + 1)).Nodup by decide)) (fun i hi => ?_)
    obtain ⟨h3, h4⟩ := List.mem_filter.mp hi
    obtain ⟨j, _, rfl⟩ := List.mem_map.mp h3
    exact L.used _ (by omega) (fun c => by rw [c] at h4; cases h4)
  have : 8 * (((List.range 7).map (· + 1)).filter (fun i => (S i).isSome)).length ≤ 8 * (hands T).length := Nat.mul_le_mul_left _ h2
  simp only [Option.getD_some]
  omega
theorem Lay.clen (L : Lay S T) : (catL T).length ≤ 4 * T.length := by
  have h := L.small
  unfold catL
  clear L
  induction T with
  | nil => simp
  | cons x r ih =>
    have h1 := (h x (by simp)).2
    have h2 := ih (fun y hy => h y (by simp [hy]))
    simp only [List.flatMap_cons, List.length_append, List.length_cons]
    have h3 : (catT x).length = 1 + x.1.cols.length := by simp [catT]
    omega
theorem hands_len : (hands T).length ≤ 2 * T.length := by
  unfold hands
  induction T with
  | nil => simp
  | cons x r ih =>
    simp only [List.flatMap_cons, List.length_append, List.length_cons]
    have : (hnd x).length ≤ 2 := by
      unfold hnd
      cases x.2.idx <;> simp
    omega
theorem hands_less {x : Tb × Hd} (hx : x ∈ T) (hn : x.2.idx = none) : (hands T).length + 1 ≤ 2 * T.length := by
  induction T with
  | nil => simp at hx
  | cons y r ih =>
    have e : (hands (y :: r)).length = (hnd y).length + (hands r).length := by simp [hands]
    rw [e, List.length_cons]
    have h2 : (hnd y).length ≤ 2 := by
      unfold hnd
      cases y.2.idx <;> simp
    rcases List.mem_cons.mp hx with c | c
    · subst c
      have h3 : (hnd x).length = 1 := by unfold hnd; rw [hn]; rfl
      have := hands_len (T := r)
      omega
    · have := ih c
      omega
/-- There is a free tree. -/
theorem Lay.low (L : Lay S T) (h : (hands T).length < 7) : ∃ i, lowS S = some i ∧ 1 ≤ i ∧ i < 8 ∧ S i = none ∧ newS S = (updV S i (some []), (i : Int), 0) := by
  have hex : ∃ i, i < 8 ∧ S i = none := by
    refine Classical.byContradiction (fun hc => ?_)
    have := nodup_len ((List.range 7).map (· + 1)) (hands T) (by decide) (fun i hi => by
      obtain ⟨j, hj, rfl⟩ := List.mem_map.mp hi
      have := List.mem_range.mp hj
      exact L.used _ (by omega) (fun c => hc ⟨j + 1, by omega, c⟩))
    simp at this
    omega
  cases hl : lowS S with
  | none =>
    unfold lowS at hl
    rw [List.find?_eq_none] at hl
    obtain ⟨i, h1, h2⟩ := hex
    have := hl i (List.mem_range.mpr h1)
    rw [h2] at this
    simp at this
  | some i =>
    have hl2 := hl
    unfold lowS at hl
    have h1 := List.find?_some hl
    have h2 := List.mem_range.mp (List.mem_of_find?_eq_some hl)
    have h3 : S i = none := by simpa using h1
    refine ⟨i, rfl, ?_, h2, h3, ?_⟩
    · rcases Nat.eq_zero_or_pos i with c | c
      · rw [c, L.cat] at h3; cases h3
      · exact c
    · unfold newS
      rw [hl2]
theorem Lay.free (L : Lay S T) {i : Nat} (h : S i = none) : i ∉ hands T := by
  intro c
  obtain ⟨x, hx, hi⟩ := mem_hands.mp c
  unfold hnd at hi
  rcases List.mem_cons.mp hi with d | d
  · have := L.rows x hx
    rw [← d, h] at this; cases this
  · have hid : x.2.idx = some i := by simpa using d
    have hf := L.hd x hx
    cases hix : x.1.ix with
    | none =>
      have := hf.ok.both.mp (by rw [hf.ix]; exact hix)
      rw [this] at hid; cases hid
    | some cc =>
      have := L.idx x hx cc i hix hid
      rw [h] at this; cases this
end
end Go.Proofs.Qxb6500412aGreat
