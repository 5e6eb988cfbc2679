/-
  OWN WORK. THE INVARIANT THAT TIES THE LOG, THE DISK AND THE LAW's GHOST; each step keeps it. No Go in sight.
-/
import Derived.Test.Qxb6500412aGreatWalPlain
import Derived.Test.Qxb6500412aGreatWalDefs
namespace Go.Proofs.Qxb6500412aGreat
set_option linter.unusedSimpArgs false
set_option linter.unusedVariables false

structure Inv (blk : List ByteArray) (op : Bool) (es : List (Nat × ByteArray)) (com cur : List ByteArray) (dirty : List Bool) : Prop where
  len : blk.length = 153
  sz : ∀ x ∈ blk, x.size = 128
  zero : byteAt (blk.getD 0 emptyB) 0 = 0
  good : GoodSet op es
  short : es.length ≤ 72
  dirt : ∀ b, b < 80 → dirty.getD b false = (at? es b).isSome
  curs : ∀ b, b < 80 → shown blk es b = cur.getD b emptyB
  coms : ∀ b, b < 80 → blk.getD (73 + b) emptyB = com.getD b emptyB
  lc : com.length = 80
  lcur : cur.length = 80
  ld : dirty.length = 80

theorem Inv.tells {blk : List ByteArray} {op : Bool} {es : List (Nat × ByteArray)} {com cur : List ByteArray} {dirty : List Bool} (h : Inv blk op es com cur dirty) : Tells dirty es := ⟨h.good.inn, h.dirt⟩

theorem shown_nil (blk : List ByteArray) (b : Nat) : shown blk [] b = blk.getD (73 + b) emptyB := rfl
theorem nots_getD (b : Nat) : (nots 80).getD b false = false := by
  unfold nots
  rw [List.getD_eq_getElem?_getD, List.getElem?_replicate]
  split <;> rfl

section
variable {blk : List ByteArray} {es : List (Nat × ByteArray)} {com cur : List ByteArray} {dirty : List Bool}

theorem Inv.begin_ (h : Inv blk false es com cur dirty) : Inv blk true es com cur dirty :=
  { h with good := { h.good with shut := fun e => by cases e } }

/-- A closed log over a disk that shows X. -/
theorem Inv.fresh {D : List ByteArray} {X : List ByteArray} (hl : D.length = 153) (hs : ∀ x ∈ D, x.size = 128) (hz : byteAt (D.getD 0 emptyB) 0 = 0) (hX : ∀ b, b < 80 → D.getD (73 + b) emptyB = X.getD b emptyB) (lX : X.length = 80) :
    Inv D false [] X X (nots 80) :=
  { len := hl, sz := hs, zero := hz, good := ⟨fun _ => rfl, fun e he => by simp at he, fun e he => by simp at he, by simp⟩, short := by simp,
    dirt := fun b hb => by rw [nots_getD]; rfl, curs := fun b hb => by rw [shown_nil]; exact hX b hb, coms := hX, lc := lX, lcur := lX, ld := by simp }

theorem Inv.abort_ (h : Inv blk true es com cur dirty) : Inv blk false [] com com (nots 80) := Inv.fresh h.len h.sz h.zero h.coms h.lc

theorem Inv.commit_ (h : Inv blk true es com cur dirty) : Inv (replay blk (commitAll blk es)) false [] cur cur (nots 80) := by
  obtain ⟨hz, hh⟩ := commit_end h.len h.short h.good h.zero
  refine Inv.fresh (by simpa using h.len) (replay_sizes _ _ h.sz (commitAll_size h.len h.short h.sz h.good)) hz (fun b hb => ?_) h.lcur
  rw [hh b hb, h.curs b hb]

theorem at?_keys (es : List (Nat × ByteArray)) (b : Int) : at? es b = (es.map (·.1)).findIdx? (fun k : Nat => (k : Int) == b) := by
  unfold at?
  rw [List.findIdx?_map]
  rfl
theorem keys_set {es : List (Nat × ByteArray)} {i b : Nat} {x : ByteArray} (hi : i < es.length) (he : es[i].1 = b) : (es.set i (b, x)).map (·.1) = es.map (·.1) := by
  apply List.ext_getElem (by simp)
  intro j h1 h2
  simp only [List.getElem_map, List.getElem_set]
  split
  · rename_i h; subst h; exact he.symm
  · rfl

theorem shown_set (blk : List ByteArray) {es : List (Nat × ByteArray)} {i b : Nat} {x : ByteArray} (hat : at? es b = some i) (c : Nat) : shown blk (es.set i (b, x)) c = if c = b then x else shown blk es c := by
  obtain ⟨hi, he, hn⟩ := at?_some hat
  have he' : es[i].1 = b := by omega
  unfold shown
  have hk : at? (es.set i (b, x)) c = at? es c := by rw [at?_keys, at?_keys, keys_set hi he']
  rw [hk]
  by_cases hc : c = b
  · subst hc
    rw [hat, if_pos rfl]
    simp [hi]
  · rw [if_neg hc]
    cases hac : at? es c with
    | none => rfl
    | some j =>
      obtain ⟨hj, hej, _⟩ := at?_some hac
      have : i ≠ j := by intro e; subst e; omega
      simp [List.getElem?_set, this]

theorem at?_snoc (es : List (Nat × ByteArray)) (b : Nat) (x : ByteArray) (c : Int) : at? (es ++ [(b, x)]) c = match at? es c with | some i => some i | none => if (b : Int) = c then some es.length else none := by
  unfold at?
  rw [List.findIdx?_append]
  cases es.findIdx? (fun e => (e.1 : Int) == c) with
  | some i => simp
  | none =>
    by_cases h : (b : Int) = c
    · simp [h]
    · have : ((b : Int) == c) = false := by simpa using h
      simp [this, h]

theorem shown_snoc (blk : List ByteArray) {es : List (Nat × ByteArray)} {b : Nat} {x : ByteArray} (hat : at? es b = none) (c : Nat) : shown blk (es ++ [(b, x)]) c = if c = b then x else shown blk es c := by
  unfold shown
  rw [at?_snoc]
  by_cases hc : c = b
  · subst hc
    rw [hat, if_pos rfl]
    simp
  · rw [if_neg hc]
    cases hac : at? es c with
    | none =>
      have : ¬ (b : Int) = (c : Int) := by omega
      simp [this]
    | some j =>
      obtain ⟨hj, _⟩ := at?_some hac
      simp [List.getElem?_append_left hj]

theorem getD_set {α : Type} (l : List α) (b c : Nat) (x d : α) (hb : b < l.length) : (l.set b x).getD c d = if c = b then x else l.getD c d := by
  by_cases h : c = b
  · subst h; simp [List.getD_eq_getElem?_getD, List.getElem?_set, hb]
  · have : ¬ b = c := fun e => h e.symm
    simp [List.getD_eq_getElem?_getD, List.getElem?_set, h, this]

theorem good_set (h : GoodSet true es) {b i : Nat} {x : ByteArray} (hb : b < 80) (hx : x.size = 128) (hi : i < es.length) (he : es[i].1 = b) : GoodSet true (es.set i (b, x)) := by
  refine ⟨fun e => (by cases e), fun e hm => ?_, fun e hm => ?_, ?_⟩
  · rcases List.mem_or_eq_of_mem_set hm with hm | hm
    · exact h.inn e hm
    · subst hm; exact hb
  · rcases List.mem_or_eq_of_mem_set hm with hm | hm
    · exact h.size e hm
    · subst hm; exact hx
  · rw [keys_set hi he]; exact h.nodup

theorem good_snoc (h : GoodSet true es) {b : Nat} {x : ByteArray} (hb : b < 80) (hx : x.size = 128) (hat : at? es b = none) : GoodSet true (es ++ [(b, x)]) := by
  have hno := at?_none hat
  refine ⟨fun e => (by cases e), fun e hm => ?_, fun e hm => ?_, ?_⟩
  · rcases List.mem_append.1 hm with hm | hm
    · exact h.inn e hm
    · simp at hm; subst hm; exact hb
  · rcases List.mem_append.1 hm with hm | hm
    · exact h.size e hm
    · simp at hm; subst hm; exact hx
  · rw [List.map_append, List.nodup_append]
    refine ⟨h.nodup, by simp, ?_⟩
    intro a ha c hc
    simp at hc
    subst hc
    simp only [List.mem_map] at ha
    obtain ⟨e, he, rfl⟩ := ha
    obtain ⟨i, hi, rfl⟩ := List.mem_iff_getElem.1 he
    have := hno i hi
    omega

theorem Inv.write_old (h : Inv blk true es com cur dirty) {b i : Nat} {x : ByteArray} (hb : b < 80) (hx : x.size = 128) (hat : at? es b = some i) : Inv blk true (es.set i (b, x)) com (cur.set b x) dirty := by
  obtain ⟨hi, he, hn⟩ := at?_some hat
  have he' : es[i].1 = b := by omega
  refine ⟨h.len, h.sz, h.zero, good_set h.good hb hx hi he', by simpa using h.short, fun c hc => ?_, fun c hc => ?_, h.coms, h.lc, by simpa using h.lcur, h.ld⟩
  · rw [h.dirt c hc, at?_keys, at?_keys, keys_set hi he']
  · rw [shown_set blk hat, getD_set _ _ _ _ _ (by rw [h.lcur]; exact hb), h.curs c hc]

theorem Inv.write_new (h : Inv blk true es com cur dirty) {b : Nat} {x : ByteArray} (hb : b < 80) (hx : x.size = 128) (hat : at? es b = none) (hlt : es.length < 72) : Inv blk true (es ++ [(b, x)]) com (cur.set b x) (dirty.set b true) := by
  refine ⟨h.len, h.sz, h.zero, good_snoc h.good hb hx hat, by simp; omega, fun c hc => ?_, fun c hc => ?_, h.coms, h.lc, by simpa using h.lcur, by simpa using h.ld⟩
  · rw [getD_set _ _ _ _ _ (by rw [h.ld]; exact hb), at?_snoc]
    by_cases hcb : c = b
    · subst hcb; rw [hat]; simp
    · rw [if_neg hcb, h.dirt c hc]
      have : ¬ (b : Int) = (c : Int) := by omega
      cases at? es (c : Int) with
      | none => simp [this]
      | some j => simp
  · rw [shown_snoc blk hat, getD_set _ _ _ _ _ (by rw [h.lcur]; exact hb), h.curs c hc]

theorem Inv.due_shut (h : Inv blk false es com cur dirty) (n : Nat) (a : Int) : due false dirty n a = 2 := by simp [due]
theorem Inv.due_bad (n : Nat) {a : Int} (hin : ¬ (0 ≤ a ∧ a < 80)) : due true dirty n a = 1 := by unfold due; rw [if_neg (by simp), if_pos hin]
theorem Inv.due_old (h : Inv blk true es com cur dirty) {b i : Nat} (hb : b < 80) (hat : at? es b = some i) (n : Nat) : due true dirty n b = 0 := by
  have := h.dirt b hb
  rw [hat] at this
  unfold due
  rw [if_neg (by simp), if_neg (by omega), Int.toNat_natCast, this, if_neg (by simp)]
theorem Inv.due_new (h : Inv blk true es com cur dirty) {b : Nat} (hb : b < 80) (hat : at? es b = none) {n : Nat} (hn : n < 72) : due true dirty n b = 0 := by
  unfold due
  rw [if_neg (by simp), if_neg (by omega), if_neg (by omega)]
theorem Inv.due_full (h : Inv blk true es com cur dirty) {b : Nat} (hb : b < 80) (hat : at? es b = none) {n : Nat} (hn : n = 72) : due true dirty n b = 4 := by
  have := h.dirt b hb
  rw [hat] at this
  unfold due
  rw [if_neg (by simp), if_neg (by omega), Int.toNat_natCast, this, if_pos ⟨rfl, by omega⟩]
end

end Go.Proofs.Qxb6500412aGreat
