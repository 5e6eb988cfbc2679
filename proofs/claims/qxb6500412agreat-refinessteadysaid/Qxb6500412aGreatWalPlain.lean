/-
  OWN WORK. THE PLAIN LAW OF THE LOG: what a recovery shows, wherever a Commit or a recovery was cut. No Go in sight.
-/
import Derived.Test.Qxb6500412aGreatLogF
import Derived.Test.Qxb6500412aGreatLogX
namespace Go.Proofs.Qxb6500412aGreat
set_option linter.unusedSimpArgs false
set_option linter.unusedVariables false

/-- The last write to block j. -/
def lastOf (l : List (Nat × ByteArray)) (j : Nat) : Option ByteArray := (l.reverse.find? (fun r => r.1 == j)).map (·.2)

theorem lastOf_snoc (l : List (Nat × ByteArray)) (r : Nat × ByteArray) (j : Nat) : lastOf (l ++ [r]) j = if r.1 = j then some r.2 else lastOf l j := by
  unfold lastOf
  rw [List.reverse_append, List.reverse_singleton, List.singleton_append, List.find?_cons]
  by_cases h : r.1 = j
  · simp [h]
  · have h' : (r.1 == j) = false := by simpa using h
    rw [h', if_neg h]

theorem snoc_cases {α : Type} (l : List α) : l = [] ∨ ∃ a r, l = a ++ [r] := by
  rcases List.eq_nil_or_concat l with h | ⟨a, r, h⟩
  · exact .inl h
  · exact .inr ⟨a, r, by rw [h, List.concat_eq_append]⟩

theorem replay_getD (n : Nat) : ∀ (l : List (Nat × ByteArray)) (D : List ByteArray) (j : Nat), l.length = n → j < D.length → (replay D l).getD j emptyB = (lastOf l j).getD (D.getD j emptyB) := by
  induction n with
  | zero =>
    intro l D j hl hj
    obtain rfl : l = [] := List.eq_nil_of_length_eq_zero hl
    rfl
  | succ n ih =>
    intro l D j hl hj
    rcases snoc_cases l with rfl | ⟨a, r, rfl⟩
    · simp at hl
    · rw [replay_snoc, lastOf_snoc]
      have ih' := ih a D j (by simpa using hl) hj
      by_cases h : r.1 = j
      · subst h
        rw [if_pos rfl]
        simp [List.getD_eq_getElem?_getD, List.getElem?_set, hj]
      · rw [if_neg h, ← ih']
        simp [List.getD_eq_getElem?_getD, List.getElem?_set, h]

theorem replay_get (l : List (Nat × ByteArray)) (D : List ByteArray) (j : Nat) (hj : j < D.length) : (replay D l).getD j emptyB = (lastOf l j).getD (D.getD j emptyB) := replay_getD _ l D j rfl hj

theorem lastOf_none {l : List (Nat × ByteArray)} {j : Nat} (h : ∀ r ∈ l, r.1 ≠ j) : lastOf l j = none := by
  unfold lastOf
  simp only [Option.map_eq_none_iff, List.find?_eq_none, List.mem_reverse]
  intro r hr
  simpa using h r hr

theorem lastOf_isSome {l : List (Nat × ByteArray)} {j : Nat} (h : ∃ r ∈ l, r.1 = j) : ∃ x, lastOf l j = some x := by
  obtain ⟨r, hr, he⟩ := h
  unfold lastOf
  cases hf : l.reverse.find? (fun r => r.1 == j) with
  | none =>
    rw [List.find?_eq_none] at hf
    have := hf r (List.mem_reverse.2 hr)
    simp [he] at this
  | some x => exact ⟨x.2, rfl⟩

theorem getD_ext {D E : List ByteArray} (hl : D.length = E.length) (h : ∀ j, j < D.length → D.getD j emptyB = E.getD j emptyB) : D = E := by
  apply List.ext_getElem hl
  intro j h1 h2
  have := h j h1
  simpa [List.getD_eq_getElem?_getD, h1, h2] using this

/-- A prefix replayed ahead of the whole turns nothing. -/
theorem replay_prefix (D : List ByteArray) (l : List (Nat × ByteArray)) (k : Nat) : replay (replay D (l.take k)) l = replay D l := by
  apply getD_ext (by simp)
  intro j hj
  simp at hj
  rw [replay_get l _ j (by simpa using hj), replay_get l D j hj]
  by_cases h : ∃ r ∈ l, r.1 = j
  · obtain ⟨x, hx⟩ := lastOf_isSome h
    rw [hx]; rfl
  · have h' : ∀ r ∈ l, r.1 ≠ j := fun r hr he => h ⟨r, hr, he⟩
    rw [lastOf_none h']
    rw [replay_get _ D j hj, lastOf_none (fun r hr => h' r (List.mem_of_mem_take hr))]
    rfl

theorem lastOf_nodup {l : List (Nat × ByteArray)} {j : Nat} {x : ByteArray} (hn : (l.map (·.1)).Nodup) (hm : (j, x) ∈ l) : lastOf l j = some x := by
  unfold lastOf
  cases hf : l.reverse.find? (fun r => r.1 == j) with
  | none =>
    rw [List.find?_eq_none] at hf
    have := hf _ (List.mem_reverse.2 hm)
    simp at this
  | some r =>
    have h1 := List.find?_some hf
    have h2 := List.mem_reverse.1 (List.mem_of_find?_eq_some hf)
    simp only [beq_iff_eq] at h1
    obtain ⟨i, hi, e1⟩ := List.mem_iff_getElem.1 h2
    obtain ⟨i', hi', e2⟩ := List.mem_iff_getElem.1 hm
    have : i = i' := by
      rcases Nat.lt_trichotomy i i' with h | h | h
      · have := (List.pairwise_iff_getElem.1 hn) i i' (by simpa using hi) (by simpa using hi') h
        simp [e1, e2, h1] at this
      · exact h
      · have := (List.pairwise_iff_getElem.1 hn) i' i (by simpa using hi') (by simpa using hi) h
        simp [e1, e2, h1] at this
    subst this
    rw [e1] at e2
    subst e2
    rfl

theorem take_append_cases {α : Type} (a b : List α) (k : Nat) : (k ≤ a.length ∧ (a ++ b).take k = a.take k) ∨ ∃ j, k = a.length + j ∧ (a ++ b).take k = a ++ b.take j := by
  rcases Nat.le_total k a.length with h | h
  · exact .inl ⟨h, by rw [List.take_append_of_le_length h]⟩
  · refine .inr ⟨k - a.length, by omega, ?_⟩
    rw [List.take_append, List.take_of_length_le h]

/-- The disk behind a recovery. -/
def recov (D : List ByteArray) : List ByteArray := replay D (recRecs D)
@[simp] theorem recov_length (D : List ByteArray) : (recov D).length = D.length := by simp [recov]

theorem emptyB_byte (i : Nat) : byteAt emptyB i = 0 := by simp [byteAt, emptyB]
theorem zeroB_byte : byteAt zeroB 0 = 0 := by
  unfold byteAt zeroB
  rw [Array.toList_replicate, List.getD_eq_getElem?_getD, List.getElem?_replicate]
  rfl

theorem recov_zero (D : List ByteArray) : byteAt ((recov D).getD 0 emptyB) 0 = 0 := by
  unfold recov recRecs
  split
  · rename_i h; exact h
  · rename_i h
    have hD : 0 < D.length := by
      cases D with
      | nil => exact absurd (emptyB_byte 0) h
      | cons a r => simp
    unfold installRecs
    rw [replay_get _ _ 0 hD, lastOf_snoc, if_pos rfl]
    exact zeroB_byte

theorem homeRecs_congr (D E : List ByteArray) (h : ByteArray) (n : Nat) (hE : ∀ i, i < n → E.getD (1 + i) emptyB = D.getD (1 + i) emptyB) : homeRecs E h n = homeRecs D h n := by
  unfold homeRecs
  apply List.map_congr_left
  intro i hi
  rw [hE i (List.mem_range.1 hi)]

/-- A recovery that was cut anywhere and run again comes to the same. -/
theorem recov_idem (D : List ByteArray) (k : Nat) : recov (replay D ((recRecs D).take k)) = recov D := by
  by_cases hz : byteAt (D.getD 0 emptyB) 0 = 0
  · have : recRecs D = [] := by unfold recRecs; rw [if_pos hz]
    rw [this]; simp [replay]
  · have hr : recRecs D = homeRecs D (D.getD 0 emptyB) (logged (D.getD 0 emptyB)) ++ [(0, zeroB)] := by unfold recRecs; rw [if_neg hz]; rfl
    rw [hr]
    rcases take_append_cases (homeRecs D (D.getD 0 emptyB) (logged (D.getD 0 emptyB))) [(0, zeroB)] k with ⟨hk, ht⟩ | ⟨j, hj, ht⟩
    · rw [ht]
      generalize hh : D.getD 0 emptyB = h at *
      have hlg := logged_le h
      have off : ∀ i, i < 73 → (replay D ((homeRecs D h (logged h)).take k)).getD i emptyB = D.getD i emptyB := fun i hi =>
        replay_off _ _ _ (fun r hr => homeRecs_off D h _ i hi r (List.mem_of_mem_take hr))
      have h0 := off 0 (by omega)
      rw [hh] at h0
      have hr2 : recRecs (replay D ((homeRecs D h (logged h)).take k)) = homeRecs D h (logged h) ++ [(0, zeroB)] := by
        unfold recRecs
        rw [h0, if_neg hz]
        unfold installRecs
        rw [homeRecs_congr D _ h _ (fun i hi => off (1 + i) (by omega))]
      unfold recov
      rw [hr2, hr]
      have := replay_prefix D (homeRecs D h (logged h) ++ [(0, zeroB)]) k
      rw [ht] at this
      exact this
    · cases j with
      | zero =>
        rw [ht, List.take_zero, List.append_nil]
        generalize hh : D.getD 0 emptyB = h at *
        have hlg := logged_le h
        have off : ∀ i, i < 73 → (replay D (homeRecs D h (logged h))).getD i emptyB = D.getD i emptyB := fun i hi =>
          replay_off _ _ _ (fun r hr => homeRecs_off D h _ i hi r hr)
        have h0 := off 0 (by omega)
        rw [hh] at h0
        have hr2 : recRecs (replay D (homeRecs D h (logged h))) = homeRecs D h (logged h) ++ [(0, zeroB)] := by
          unfold recRecs
          rw [h0, if_neg hz]
          unfold installRecs
          rw [homeRecs_congr D _ h _ (fun i hi => off (1 + i) (by omega))]
        unfold recov
        rw [hr2, hr]
        have := replay_prefix D (homeRecs D h (logged h) ++ [(0, zeroB)]) (logged h)
        rw [List.take_left' (by simp)] at this
        exact this
      | succ j =>
        rw [ht, List.take_of_length_le (by simp), ← hr]
        have hz2 := recov_zero D
        have h3 : replay D (recRecs D) = recov D := rfl
        rw [h3]
        have : recRecs (recov D) = [] := by rw [recRecs, if_pos hz2]
        rw [recov, this]; rfl

theorem recov_sizes (D : List ByteArray) (hl : D.length = 153) (hs : ∀ x ∈ D, x.size = 128) : ∀ x ∈ recov D, x.size = 128 :=
  replay_sizes _ _ hs (recRecs_size D hl hs)

/-! ### The header -/
theorem headBytes_get0 (ns : List Nat) (h : ns.length ≤ 72) : byteAt (header ns) 0 = ns.length := by
  unfold byteAt header
  simp [headBytes]
  omega
theorem headBytes_get (ns : List Nat) (h : ns.length ≤ 72) (hn : ∀ n ∈ ns, n < 80) (i : Nat) (hi : i < ns.length) : byteAt (header ns) (1 + i) = ns[i] := by
  unfold byteAt header
  have := hn _ (List.getElem_mem hi)
  rw [Nat.add_comm 1 i]
  simp [headBytes, List.getD_eq_getElem?_getD, List.getElem?_append_left, hi]
  omega
theorem logged_header (ns : List Nat) (h : ns.length ≤ 72) (hn : ∀ n ∈ ns, n < 80) : logged (header ns) = ns.length := by
  refine logged_eq (header_size ns h) (headBytes_get0 ns h).symm h (fun j hj => ?_)
  rw [headBytes_get ns h hn j hj]
  exact hn _ (List.getElem_mem hj)

/-! ### A Commit -/
section
variable {blk : List ByteArray} {op : Bool} {es : List (Nat × ByteArray)}

theorem slotRecs_keys (es : List (Nat × ByteArray)) (n : Nat) : ∀ r ∈ slotRecs es n, 1 ≤ r.1 ∧ r.1 ≤ n := by
  intro r hr
  simp only [slotRecs, List.mem_map, List.mem_range] at hr
  obtain ⟨i, hi, rfl⟩ := hr
  simp; omega

theorem slot_nodup (es : List (Nat × ByteArray)) (n : Nat) : ((slotRecs es n).map (·.1)).Nodup := by
  unfold slotRecs
  rw [List.map_map]
  refine List.pairwise_map.2 ((List.nodup_range (n := n)).imp ?_)
  intro a b h
  simp only [Function.comp]
  omega

theorem headRecs_get0 (hl : blk.length = 153) : (replay blk (headRecs es)).getD 0 emptyB = header (es.map (·.1)) := by
  rw [replay_get _ _ _ (by omega), headRecs, lastOf_snoc, if_pos rfl]; rfl
theorem headRecs_slot (hl : blk.length = 153) (h72 : es.length ≤ 72) {i : Nat} (hi : i < es.length) : (replay blk (headRecs es)).getD (1 + i) emptyB = es[i].2 := by
  rw [replay_get _ _ _ (by omega), headRecs, lastOf_snoc, if_neg (by simp; omega)]
  have : lastOf (slotRecs es es.length) (1 + i) = some es[i].2 := by
    apply lastOf_nodup (slot_nodup _ _)
    simp only [slotRecs, List.mem_map, List.mem_range]
    exact ⟨i, hi, by simp [hi]⟩
  rw [this]; rfl
theorem headRecs_home (hl : blk.length = 153) (h72 : es.length ≤ 72) {j : Nat} (hj : 73 ≤ j) (hj2 : j < 153) : (replay blk (headRecs es)).getD j emptyB = blk.getD j emptyB := by
  rw [replay_get _ _ _ (by omega), headRecs, lastOf_snoc, if_neg (by simp; omega), lastOf_none (fun r hr => by have := slotRecs_keys es _ r hr; omega)]
  rfl

theorem head_rec (hl : blk.length = 153) (h72 : es.length ≤ 72) (hne : es ≠ []) (hin : ∀ e ∈ es, e.1 < 80) :
    recRecs (replay blk (headRecs es)) = installRecs (replay blk (headRecs es)) (header (es.map (·.1))) := by
  unfold recRecs
  rw [headRecs_get0 hl, headBytes_get0 _ (by simpa using h72)]
  have : 0 < es.length := List.length_pos_iff.2 hne
  rw [if_neg (by simp; exact hne)]

theorem home_list (hl : blk.length = 153) (h72 : es.length ≤ 72) (hin : ∀ e ∈ es, e.1 < 80) :
    homeRecs (replay blk (headRecs es)) (header (es.map (·.1))) es.length = es.map (fun e => (73 + e.1, e.2)) := by
  apply List.ext_getElem (by simp)
  intro i h1 h2
  simp at h1
  simp only [homeRecs, List.getElem_map, List.getElem_range]
  rw [headBytes_get (es.map (·.1)) (by simpa using h72) (by intro n hn; simp only [List.mem_map] at hn; obtain ⟨e, he, rfl⟩ := hn; exact hin e he) i (by simpa using h1), headRecs_slot hl h72 h1]
  simp

theorem home_nodup (hn : (es.map (·.1)).Nodup) : ((es.map (fun e => (73 + e.1, e.2))).map (·.1)).Nodup := by
  rw [List.map_map]
  have := List.pairwise_map.1 hn
  refine List.pairwise_map.2 (this.imp ?_)
  intro a b h
  simp only [Function.comp]
  omega

/-- What a committed disk shows, once recovered from behind its commit point. -/
theorem commit_shows (hl : blk.length = 153) (h72 : es.length ≤ 72) (hne : es ≠ []) (hg : GoodSet op es) {b : Nat} (hb : b < 80) :
    (recov (replay blk (headRecs es))).getD (73 + b) emptyB = shown blk es b := by
  have hin := hg.inn
  unfold recov
  rw [head_rec hl h72 hne hin, installRecs, logged_header _ (by simpa using h72) (by intro n hn; simp only [List.mem_map] at hn; obtain ⟨e, he, rfl⟩ := hn; exact hin e he), List.length_map, home_list hl h72 hin]
  rw [replay_get _ _ _ (by simp; omega), lastOf_snoc, if_neg (by simp; omega)]
  unfold shown
  cases hat : at? es b with
  | some i =>
    obtain ⟨hi, he, _⟩ := at?_some hat
    have hm : (73 + b, es[i].2) ∈ es.map (fun e => (73 + e.1, e.2)) := by
      simp only [List.mem_map]
      refine ⟨es[i], List.getElem_mem hi, ?_⟩
      have : es[i].1 = b := by omega
      rw [this]
    rw [lastOf_nodup (home_nodup hg.nodup) hm]
    simp [hi]
  | none =>
    have := at?_none hat
    rw [lastOf_none, headRecs_home hl h72 (by omega) (by omega)]
    · rfl
    · intro r hr
      simp only [List.mem_map] at hr
      obtain ⟨e, he, rfl⟩ := hr
      obtain ⟨i, hi, rfl⟩ := List.mem_iff_getElem.1 he
      have := this i hi
      simp only
      omega

/-- The commit's whole record is: up to the commit point, then a recovery. -/
theorem commit_split (hl : blk.length = 153) (h72 : es.length ≤ 72) (hne : es ≠ []) (hin : ∀ e ∈ es, e.1 < 80) :
    commitAll blk es = headRecs es ++ recRecs (replay blk (headRecs es)) := by
  unfold commitAll
  rw [if_neg hne, commitRecs, head_rec hl h72 hne hin]

/-- A COMMIT CUT AFTER k WRITES, RECOVERED: the old homes or the new ones; none: the old; all: the new. -/
theorem commit_cut (hl : blk.length = 153) (h72 : es.length ≤ 72) (hg : GoodSet op es) (hz : byteAt (blk.getD 0 emptyB) 0 = 0) (k : Nat) :
    (∀ b, b < 80 → (recov (replay blk ((commitAll blk es).take k))).getD (73 + b) emptyB = blk.getD (73 + b) emptyB) ∧ k < (commitAll blk es).length ∨
    (∀ b, b < 80 → (recov (replay blk ((commitAll blk es).take k))).getD (73 + b) emptyB = shown blk es b) ∧ (0 < k ∨ es = []) := by
  by_cases hne : es = []
  · subst hne
    refine .inr ⟨fun b hb => ?_, .inr rfl⟩
    have h1 : commitAll blk [] = [] := by simp [commitAll]
    rw [h1]
    have h2 : recRecs blk = [] := by unfold recRecs; rw [if_pos hz]
    simp only [List.take_nil]
    show (replay blk (recRecs blk)).getD _ _ = _
    rw [h2]; rfl
  · have hin := hg.inn
    have hsp := commit_split hl h72 hne hin
    have hpos : 0 < es.length := List.length_pos_iff.2 hne
    have hslot : ∀ q, q ≤ es.length → ∀ b, b < 80 → (recov (replay blk ((slotRecs es es.length).take q))).getD (73 + b) emptyB = blk.getD (73 + b) emptyB := by
      intro q hq b hb
      have h0 : (replay blk ((slotRecs es es.length).take q)).getD 0 emptyB = blk.getD 0 emptyB := replay_off _ _ _ (fun r hr => by have := slotRecs_keys es es.length r (List.mem_of_mem_take hr); omega)
      have hr : recRecs (replay blk ((slotRecs es es.length).take q)) = [] := by unfold recRecs; rw [h0, if_pos hz]
      show (replay (replay blk ((slotRecs es es.length).take q)) (recRecs (replay blk ((slotRecs es es.length).take q)))).getD _ _ = _
      rw [hr]
      exact replay_off blk ((slotRecs es es.length).take q) (73 + b) (fun r hr => by have := slotRecs_keys es es.length r (List.mem_of_mem_take hr); omega)
    rcases take_append_cases (headRecs es) (recRecs (replay blk (headRecs es))) k with ⟨hk, ht⟩ | ⟨j, hj, ht⟩
    · rw [hsp, ht]
      by_cases hkn : k ≤ es.length
      · refine .inl ⟨?_, ?_⟩
        · have : (headRecs es).take k = (slotRecs es es.length).take k := by unfold headRecs; rw [List.take_append_of_le_length (by simpa using hkn)]
          rw [this]
          exact hslot k hkn
        · simp [headRecs]; omega
      · have : (headRecs es).take k = headRecs es := List.take_of_length_le (by simp [headRecs] at hk ⊢; omega)
        rw [this]
        exact .inr ⟨fun b hb => commit_shows hl h72 hne hg hb, .inl (by omega)⟩
    · rw [hsp, ht]
      refine .inr ⟨fun b hb => ?_, .inl (by simp [headRecs] at hj; omega)⟩
      rw [replay_append, recov_idem]
      exact commit_shows hl h72 hne hg hb

theorem commitAll_length (hl : blk.length = 153) (h72 : es.length ≤ 72) : (commitAll blk es).length ≤ 146 := by
  unfold commitAll
  split
  · simp
  · have := installRecs_length (replay blk (headRecs es)) (header (es.map (·.1)))
    have h2 : (headRecs es).length = es.length + 1 := by simp [headRecs]
    rw [commitRecs, List.length_append, h2]; omega
theorem headRecs_in (h72 : es.length ≤ 72) : ∀ r ∈ headRecs es, r.1 < 153 := by
  intro r hr
  rcases List.mem_append.1 hr with hr | hr
  · have := slotRecs_keys es _ r hr; omega
  · simp at hr; subst hr; simp
theorem commitAll_in (h72 : es.length ≤ 72) : ∀ r ∈ commitAll blk es, r.1 < 153 := by
  unfold commitAll
  split
  · simp
  · intro r hr
    rcases List.mem_append.1 hr with hr | hr
    · exact headRecs_in h72 r hr
    · exact installRecs_in _ _ r hr
theorem commitAll_size (hl : blk.length = 153) (h72 : es.length ≤ 72) (hs : ∀ x ∈ blk, x.size = 128) (hg : GoodSet op es) : ∀ r ∈ commitAll blk es, r.2.size = 128 := by
  unfold commitAll
  split
  · simp
  · intro r hr
    rcases List.mem_append.1 hr with hr | hr
    · exact headRecs_size es h72 hg.size r hr
    · exact installRecs_size _ _ (by simpa using hl) (replay_sizes _ _ hs (headRecs_size es h72 hg.size)) r hr

theorem commit_end (hl : blk.length = 153) (h72 : es.length ≤ 72) (hg : GoodSet op es) (hz : byteAt (blk.getD 0 emptyB) 0 = 0) :
    byteAt ((replay blk (commitAll blk es)).getD 0 emptyB) 0 = 0 ∧ ∀ b, b < 80 → (replay blk (commitAll blk es)).getD (73 + b) emptyB = shown blk es b := by
  by_cases hne : es = []
  · subst hne
    have h1 : commitAll blk [] = [] := by simp [commitAll]
    rw [h1]
    exact ⟨hz, fun b _ => rfl⟩
  · have hsp := commit_split hl h72 hne hg.inn
    rw [hsp, replay_append]
    exact ⟨recov_zero _, fun b hb => commit_shows hl h72 hne hg hb⟩
end

end Go.Proofs.Qxb6500412aGreat
