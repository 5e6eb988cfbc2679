/-
  OWN WORK. THE OBJECT STORE's INVARIANT, in plain terms.
-/
import Derived.Test.Qxb6500417aGreatOPick
namespace Go.Proofs.Qxb6500417aGreat
open Go.RowKit
set_option linter.unusedSimpArgs false
set_option linter.unusedVariables false

def In (i : Nat) : Prop := 1 ≤ i ∧ i ≤ 48
def Ob.free : Ob := ⟨0, 0, [], []⟩
def liveO (o : Ob) : Bool := o.st == 1 || o.st == 2
def lastO (o : Ob) : Bool := o.st == 2 || o.st == 3

def cntTo (p : Nat → Bool) : Nat → Nat
  | 0 => 0
  | n + 1 => cntTo p n + (if p n = true then 1 else 0)
theorem cntTo_congr {p q : Nat → Bool} : ∀ n, (∀ i, i < n → p i = q i) → cntTo p n = cntTo q n
  | 0, _ => rfl
  | n + 1, h => by unfold cntTo; rw [cntTo_congr n (fun i hi => h i (by omega)), h n (by omega)]
theorem cntTo_turn {p q : Nat → Bool} {j : Nat} (hp : p j = true) (hq : q j = false) (he : ∀ i, i ≠ j → p i = q i) : ∀ n, j < n → cntTo p n = cntTo q n + 1
  | 0, h => by omega
  | n + 1, h => by
    unfold cntTo
    by_cases e : j = n
    · subst e
      rw [cntTo_congr j (p := p) (q := q) (fun i hi => he i (by omega)), hp, hq]
      simp
    · rw [cntTo_turn hp hq he n (by omega), he n (by omega)]
      omega
theorem cntTo_le (p : Nat → Bool) : ∀ n, cntTo p n ≤ n
  | 0 => Nat.le_refl _
  | n + 1 => by
    unfold cntTo
    have := cntTo_le p n
    split <;> omega
def isFree (ob : Nat → Ob) (i : Nat) : Bool := i != 0 && (ob i).st == 0
def cntF (ob : Nat → Ob) : Nat := cntTo (isFree ob) 49
theorem cntF_le (ob : Nat → Ob) : cntF ob ≤ 48 := by
  unfold cntF
  have h : cntTo (isFree ob) 49 = cntTo (fun i => isFree ob (i + 1)) 48 := by
    have : ∀ (p : Nat → Bool), p 0 = false → ∀ n, cntTo p (n + 1) = cntTo (fun i => p (i + 1)) n := by
      intro p hp n
      induction n with
      | zero => simp [cntTo, hp]
      | succ n ih => rw [cntTo, ih]; rfl
    exact this _ rfl 48
  rw [h]
  exact cntTo_le _ 48

structure Rows (D : Nat → Nat) (tab : Nat → Ent) (us : Nat → Nat) (nf : Nat) (ob : Nat → Ob) : Prop where
  st : ∀ i, In i → (tab i).state = (ob i).st
  le3 : ∀ i, In i → (ob i).st ≤ 3
  free : ∀ i, In i → (ob i).st = 0 → tab i = Ent.zero ∧ ob i = Ob.free
  held : ∀ i, In i → (ob i).st ≠ 0 → Held D (tab i) (ob i)
  nodup : ∀ i, In i → (ob i).ch.Nodup
  disj : ∀ i j, In i → In j → i ≠ j → ∀ b ∈ (ob i).ch, b ∉ (ob j).ch
  used : ∀ b, b < 145 → (usedW us b = true ↔ ∃ i, In i ∧ b ∈ (ob i).ch)
  words : wordsOk us
  high : ∀ j, 17 ≤ j → (us 2).testBit j = false
  nfree : nf = cntF ob

structure Bucks (tab : Nat → Ent) (hd : Nat → Nat) (ob : Nat → Ob) (bk : Nat → List Nat) : Prop where
  link : ∀ b, b < 8 → Linked tab (hd b) (bk b)
  mem : ∀ b, b < 8 → ∀ a, a ∈ bk b ↔ (In a ∧ liveO (ob a) = true ∧ (tab a).hash % 8 = b)

structure Super (D : Nat → Nat) (rt : Nat) (ob : Nat → Ob) : Prop where
  root0 : D 0 = rt
  root1 : rt ≤ 48
  root2 : rt ≠ 0 → lastO (ob rt) = true
  row : ∀ i, In i → D i = if lastO (ob i) = true then (ob i).ch.getD 0 0 else 0
  rest : ∀ i, 49 ≤ i → i < 64 → D i = 0

def Tw (p : Ob → Bool) (ob : Nat → Ob) : Prop := ∀ i j, In i → In j → p (ob i) = true → p (ob j) = true → (ob i).kd = (ob j).kd → (ob i).dat = (ob j).dat → i = j

structure SInv (D : Nat → Nat) (tab : Nat → Ent) (hd us : Nat → Nat) (nf rt : Nat) (ob : Nat → Ob) (bk : Nat → List Nat) : Prop where
  rows : Rows D tab us nf ob
  bucks : Bucks tab hd ob bk
  super : Super D rt ob
  twl : Tw liveO ob
  twp : Tw lastO ob

theorem Lies.congr {D D' : Nat → Nat} {k n : Nat} {x : Nat → Nat} {ch : List Nat} (h : Lies D k n x ch) (he : ∀ b ∈ ch, ∀ j, j < 64 → blkF D' b j = blkF D b j) : Lies D' k n x ch :=
  ⟨h.len, h.rng, fun i hi j hj => by rw [he _ (getD_mem hi) j hj]; exact h.dat i hi j hj⟩
theorem Held.congr {D D' : Nat → Nat} {e : Ent} {o : Ob} (h : Held D e o) (he : ∀ b ∈ o.ch, ∀ j, j < 64 → blkF D' b j = blkF D b j) : Held D' e o :=
  ⟨h.kind, h.k1, h.k4, h.size, h.n180, h.first, h.hash, h.lies.congr he, h.by8⟩
theorem Held.ent {D : Nat → Nat} {e e' : Ent} {o o' : Ob} (h : Held D e o) (h1 : e'.kind = e.kind) (h2 : e'.size = e.size) (h3 : e'.first = e.first) (h4 : e'.hash = e.hash) (g1 : o'.kd = o.kd) (g2 : o'.dat = o.dat) (g3 : o'.ch = o.ch) : Held D e' o' := by
  obtain ⟨a1, a2, a3, a4, a5, a6, a7, a8, a9⟩ := h
  obtain ⟨st, kd, dat, ch⟩ := o'
  subst g1 g2 g3
  exact ⟨by rw [h1]; exact a1, a2, a3, by rw [h2]; exact a4, a5, by rw [h3]; exact a6, by rw [h4]; exact a7, a8, a9⟩

section
variable {D : Nat → Nat} {tab : Nat → Ent} {hd us : Nat → Nat} {nf rt : Nat} {ob : Nat → Ob} {bk : Nat → List Nat}

theorem Rows.chfree (h : Rows D tab us nf ob) {i : Nat} (hi : In i) (h0 : (ob i).st = 0) : (ob i).ch = [] := by rw [(h.free i hi h0).2]; rfl
theorem Rows.chlt (h : Rows D tab us nf ob) {i : Nat} (hi : In i) : ∀ b ∈ (ob i).ch, 1 ≤ b ∧ b < 145 := by
  intro b hb
  by_cases h0 : (ob i).st = 0
  · rw [h.chfree hi h0] at hb; simp at hb
  · exact (h.held i hi h0).lies.mem b hb
theorem Rows.next {tab' : Nat → Ent} (h : Rows D tab us nf ob) (hn : NextOnly tab tab') (h0 : ∀ i, In i → (ob i).st = 0 → tab' i = tab i) : Rows D tab' us nf ob := by
  refine ⟨?_, h.le3, ?_, ?_, h.nodup, h.disj, h.used, h.words, h.high, h.nfree⟩
  · intro i hi
    obtain ⟨x, hx⟩ := hn i
    rw [hx]; exact h.st i hi
  · intro i hi hz
    rw [h0 i hi hz]; exact h.free i hi hz
  · intro i hi hz
    obtain ⟨x, hx⟩ := hn i
    exact (h.held i hi hz).ent (by rw [hx]) (by rw [hx]) (by rw [hx]) (by rw [hx]) rfl rfl rfl
theorem markW_high {us : Nat → Nat} (hw : wordsOk us) (h : ∀ j, 17 ≤ j → (us 2).testBit j = false) (b : Nat) (hb : b < 145) (on : Bool) : ∀ j, 17 ≤ j → (markW us b on 2).testBit j = false := by
  intro j hj
  unfold markW updT
  by_cases e : 2 = b / 64
  · rw [if_pos e, ← e]
    have hb6 : b % 64 < 17 := by omega
    cases on
    · simp only [Bool.false_eq_true, if_false]
      by_cases h64 : j < 64
      · rw [clrW_bit _ _ _ (hw 2 (by omega)) (by omega) h64, if_neg (by omega)]; exact h j hj
      · apply Nat.testBit_lt_two_pow
        have := clrW_lt (us 2) (b % 64)
        have : 2 ^ 64 ≤ 2 ^ j := Nat.pow_le_pow_right (by omega) (by omega)
        omega
    · simp only [if_true]
      rw [orW_bit, if_neg (by omega)]; exact h j hj
  · rw [if_neg e]; exact h j hj
theorem markL_high {us : Nat → Nat} (on : Bool) : ∀ (L : List Nat) (us : Nat → Nat), wordsOk us → (∀ j, 17 ≤ j → (us 2).testBit j = false) → (∀ b ∈ L, b < 145) → ∀ j, 17 ≤ j → (markL us L on 2).testBit j = false := by
  intro L
  induction L with
  | nil => intro us _ h _; exact h
  | cons a r ih =>
    intro us hw h hb
    exact ih (markW us a on) (markW_ok hw a (hb a (by simp)) on) (markW_high hw h a (hb a (by simp)) on) (fun b hb' => hb b (by simp [hb']))

/-- A row turns its state (not free before, not free behind). -/
theorem Rows.setState (h : Rows D tab us nf ob) {i : Nat} (hi : In i) (h0 : (ob i).st ≠ 0) (x : Nat) (hx : x ≠ 0) (hx3 : x ≤ 3) : Rows D (updT tab i { tab i with state := x }) us nf (updT ob i { ob i with st := x }) := by
  have hch : ∀ j, (updT ob i { ob i with st := x } j).ch = (ob j).ch := by
    intro j
    by_cases e : j = i
    · subst e; rw [updT_same]
    · rw [updT_other _ _ _ _ e]
  refine ⟨?_, ?_, ?_, ?_, ?_, ?_, ?_, h.words, h.high, ?_⟩
  · intro j hj
    by_cases e : j = i
    · subst e; rw [updT_same, updT_same]
    · rw [updT_other _ _ _ _ e, updT_other _ _ _ _ e]; exact h.st j hj
  · intro j hj
    by_cases e : j = i
    · subst e; rw [updT_same]; exact hx3
    · rw [updT_other _ _ _ _ e]; exact h.le3 j hj
  · intro j hj hz
    by_cases e : j = i
    · subst e; rw [updT_same] at hz; exact absurd hz hx
    · rw [updT_other _ _ _ _ e] at hz
      rw [updT_other _ _ _ _ e, updT_other _ _ _ _ e]; exact h.free j hj hz
  · intro j hj hz
    by_cases e : j = i
    · subst e; rw [updT_same, updT_same]
      exact (h.held j hj h0).ent rfl rfl rfl rfl rfl rfl rfl
    · rw [updT_other _ _ _ _ e] at hz
      rw [updT_other _ _ _ _ e, updT_other _ _ _ _ e]; exact h.held j hj hz
  · intro j hj; rw [hch]; exact h.nodup j hj
  · intro j l hj hl hne b hb
    rw [hch] at hb ⊢; exact h.disj j l hj hl hne b hb
  · intro b hb
    rw [h.used b hb]
    constructor
    · rintro ⟨j, hj, hm⟩; exact ⟨j, hj, by rw [hch]; exact hm⟩
    · rintro ⟨j, hj, hm⟩; exact ⟨j, hj, by rw [hch] at hm; exact hm⟩
  · rw [h.nfree]
    unfold cntF
    apply cntTo_congr
    intro j hj
    unfold isFree
    by_cases e : j = i
    · subst e; rw [updT_same]
      have : ((ob j).st == 0) = false := by simpa using h0
      have h2 : (x == 0) = false := by simpa using hx
      simp [this, h2]
    · rw [updT_other _ _ _ _ e]

/-- A row falls free; its blocks are given back. -/
theorem Rows.release (h : Rows D tab us nf ob) {i : Nat} (hi : In i) (h0 : (ob i).st ≠ 0) : Rows D (updT tab i Ent.zero) (markL us (ob i).ch false) (nf + 1) (updT ob i Ob.free) := by
  have hlt : ∀ b ∈ (ob i).ch, b < 145 := fun b hb => (h.chlt hi b hb).2
  refine ⟨?_, ?_, ?_, ?_, ?_, ?_, ?_, markL_ok h.words false _ hlt, markL_high (us := us) false _ us h.words h.high hlt, ?_⟩
  · intro j hj
    by_cases e : j = i
    · subst e; rw [updT_same, updT_same]; rfl
    · rw [updT_other _ _ _ _ e, updT_other _ _ _ _ e]; exact h.st j hj
  · intro j hj
    by_cases e : j = i
    · subst e; rw [updT_same]; exact Nat.zero_le _
    · rw [updT_other _ _ _ _ e]; exact h.le3 j hj
  · intro j hj hz
    by_cases e : j = i
    · subst e; rw [updT_same, updT_same]; exact ⟨rfl, rfl⟩
    · rw [updT_other _ _ _ _ e] at hz
      rw [updT_other _ _ _ _ e, updT_other _ _ _ _ e]; exact h.free j hj hz
  · intro j hj hz
    by_cases e : j = i
    · subst e; rw [updT_same] at hz; exact absurd rfl hz
    · rw [updT_other _ _ _ _ e] at hz
      rw [updT_other _ _ _ _ e, updT_other _ _ _ _ e]; exact h.held j hj hz
  · intro j hj
    by_cases e : j = i
    · subst e; rw [updT_same]; exact List.nodup_nil
    · rw [updT_other _ _ _ _ e]; exact h.nodup j hj
  · intro j l hj hl hne b hb
    by_cases e : j = i
    · subst e; rw [updT_same] at hb; simp [Ob.free] at hb
    · rw [updT_other _ _ _ _ e] at hb
      by_cases e2 : l = i
      · subst e2; rw [updT_same]; simp [Ob.free]
      · rw [updT_other _ _ _ _ e2]; exact h.disj j l hj hl hne b hb
  · intro b hb
    rw [markL_bit h.words false b hb _ hlt]
    by_cases hm : b ∈ (ob i).ch
    · rw [if_pos hm]
      constructor
      · intro h1; cases h1
      · rintro ⟨j, hj, hm2⟩
        by_cases e : j = i
        · subst e; rw [updT_same] at hm2; simp [Ob.free] at hm2
        · rw [updT_other _ _ _ _ e] at hm2
          exact absurd hm (h.disj j i hj hi e b hm2)
    · rw [if_neg hm, h.used b hb]
      constructor
      · rintro ⟨j, hj, hm2⟩
        have e : j ≠ i := fun e => hm (e ▸ hm2)
        exact ⟨j, hj, by rw [updT_other _ _ _ _ e]; exact hm2⟩
      · rintro ⟨j, hj, hm2⟩
        by_cases e : j = i
        · subst e; rw [updT_same] at hm2; simp [Ob.free] at hm2
        · rw [updT_other _ _ _ _ e] at hm2
          exact ⟨j, hj, hm2⟩
  · rw [h.nfree]
    unfold cntF
    symm
    apply cntTo_turn (j := i)
    · unfold isFree; rw [updT_same]; have := hi.1; simp [Ob.free]; omega
    · unfold isFree; have : ((ob i).st == 0) = false := by simpa using h0
      simp [this]
    · intro j hj; unfold isFree; rw [updT_other _ _ _ _ hj]
    · have := hi.2; omega

/-- A free row takes an object laid into blocks that nothing used. -/
theorem Rows.take {D' : Nat → Nat} (h : Rows D tab us nf ob) {i : Nat} (hi : In i) (h0 : (ob i).st = 0) (e : Ent) (o : Ob) (ho : o.st ≠ 0) (ho3 : o.st ≤ 3) (hes : e.state = o.st) (hH : Held D' e o) (hn : o.ch.Nodup) (hu : ∀ b ∈ o.ch, usedW us b = false)
    (hD : ∀ c, c < 145 → c ∉ o.ch → ∀ j, j < 64 → blkF D' c j = blkF D c j) : Rows D' (updT tab i e) (markL us o.ch true) (nf - 1) (updT ob i o) := by
  have hlt : ∀ b ∈ o.ch, b < 145 := fun b hb => (hH.lies.mem b hb).2
  have hnot : ∀ j, In j → ∀ b ∈ (ob j).ch, b ∉ o.ch := by
    intro j hj b hb hm
    have := hu b hm
    have := (h.used b (hlt b hm)).2 ⟨j, hj, hb⟩
    simp_all
  refine ⟨?_, ?_, ?_, ?_, ?_, ?_, ?_, markL_ok h.words true _ hlt, markL_high (us := us) true _ us h.words h.high hlt, ?_⟩
  · intro j hj
    by_cases e1 : j = i
    · subst e1; rw [updT_same, updT_same]; exact hes
    · rw [updT_other _ _ _ _ e1, updT_other _ _ _ _ e1]; exact h.st j hj
  · intro j hj
    by_cases e1 : j = i
    · subst e1; rw [updT_same]; exact ho3
    · rw [updT_other _ _ _ _ e1]; exact h.le3 j hj
  · intro j hj hz
    by_cases e1 : j = i
    · subst e1; rw [updT_same] at hz; exact absurd hz ho
    · rw [updT_other _ _ _ _ e1] at hz
      rw [updT_other _ _ _ _ e1, updT_other _ _ _ _ e1]; exact h.free j hj hz
  · intro j hj hz
    by_cases e1 : j = i
    · subst e1; rw [updT_same, updT_same]; exact hH
    · rw [updT_other _ _ _ _ e1] at hz
      rw [updT_other _ _ _ _ e1, updT_other _ _ _ _ e1]
      exact (h.held j hj hz).congr (fun b hb => hD b (h.chlt hj b hb).2 (hnot j hj b hb))
  · intro j hj
    by_cases e1 : j = i
    · subst e1; rw [updT_same]; exact hn
    · rw [updT_other _ _ _ _ e1]; exact h.nodup j hj
  · intro j l hj hl hne b hb
    by_cases e1 : j = i
    · subst e1; rw [updT_same] at hb
      rw [updT_other _ _ _ _ (Ne.symm hne)]
      exact fun hm => hnot l hl b hm hb
    · rw [updT_other _ _ _ _ e1] at hb
      by_cases e2 : l = i
      · subst e2; rw [updT_same]; exact hnot j hj b hb
      · rw [updT_other _ _ _ _ e2]; exact h.disj j l hj hl hne b hb
  · intro b hb
    rw [markL_bit h.words true b hb _ hlt]
    by_cases hm : b ∈ o.ch
    · rw [if_pos hm]
      exact ⟨fun _ => ⟨i, hi, by rw [updT_same]; exact hm⟩, fun _ => rfl⟩
    · rw [if_neg hm, h.used b hb]
      constructor
      · rintro ⟨j, hj, hm2⟩
        have e1 : j ≠ i := fun e1 => by subst e1; rw [h.chfree hj h0] at hm2; simp at hm2
        exact ⟨j, hj, by rw [updT_other _ _ _ _ e1]; exact hm2⟩
      · rintro ⟨j, hj, hm2⟩
        by_cases e1 : j = i
        · subst e1; rw [updT_same] at hm2; exact absurd hm2 hm
        · rw [updT_other _ _ _ _ e1] at hm2
          exact ⟨j, hj, hm2⟩
  · rw [h.nfree]
    unfold cntF
    have ho2 : (o.st == 0) = false := by simpa using ho
    have := cntTo_turn (p := isFree ob) (q := isFree (updT ob i o)) (j := i) (by unfold isFree; have := hi.1; simp [h0]; omega) (by unfold isFree; rw [updT_same]; simp [ho2]) (by intro j hj; unfold isFree; rw [updT_other _ _ _ _ hj]) 49 (by have := hi.2; omega)
    omega

theorem Bucks.congr {tab' : Nat → Ent} {ob' : Nat → Ob} (h : Bucks tab hd ob bk) (hl : ∀ a, In a → liveO (ob' a) = liveO (ob a)) (ht : ∀ a, In a → liveO (ob a) = true → (tab' a).next = (tab a).next ∧ (tab' a).hash = (tab a).hash) : Bucks tab' hd ob' bk := by
  refine ⟨fun b hb => (h.link b hb).congr (fun a ha => ?_), fun b hb a => ?_⟩
  · have := (h.mem b hb a).1 ha
    exact (ht a this.1 this.2.1).1
  · rw [h.mem b hb a]
    constructor
    · rintro ⟨h1, h2, h3⟩; exact ⟨h1, by rw [hl a h1]; exact h2, by rw [(ht a h1 h2).2]; exact h3⟩
    · rintro ⟨h1, h2, h3⟩
      rw [hl a h1] at h2
      exact ⟨h1, h2, by rw [← (ht a h1 h2).2]; exact h3⟩

theorem Bucks.hang {tab' : Nat → Ent} {ob' : Nat → Ob} (h : Bucks tab hd ob bk) {i b : Nat} (hi : In i) (hb8 : b < 8) (h0 : liveO (ob i) = false) (h1 : liveO (ob' i) = true) (ho : ∀ j, j ≠ i → ob' j = ob j) (ht : ∀ j, j ≠ i → tab' j = tab j) (hn : (tab' i).next = hd b) (hh : (tab' i).hash % 8 = b) :
    Bucks tab' (updT hd b i) ob' (updT bk b (i :: bk b)) := by
  have hni : ∀ c, c < 8 → i ∉ bk c := fun c hc hm => by
    have := ((h.mem c hc i).1 hm).2.1
    rw [h0] at this; cases this
  refine ⟨fun c hc => ?_, fun c hc a => ?_⟩
  · by_cases e : c = b
    · subst e
      rw [updT_same, updT_same]
      exact (h.link c hc).cons i hi.1 hi.2 (hni c hc) (fun a ha => by rw [ht a (fun e => hni c hc (e ▸ ha))]) hn
    · rw [updT_other _ _ _ _ e, updT_other _ _ _ _ e]
      exact (h.link c hc).congr (fun a ha => by rw [ht a (fun e => hni c hc (e ▸ ha))])
  · by_cases ea : a = i
    · subst ea
      by_cases e : c = b
      · subst e; rw [updT_same]; simp [hi, h1, hh]
      · rw [updT_other _ _ _ _ e]
        constructor
        · intro hm; exact absurd hm (hni c hc)
        · rintro ⟨_, _, h3⟩; rw [hh] at h3; exact absurd h3.symm e
    · rw [ho a ea, ht a ea, ← h.mem c hc a]
      by_cases e : c = b
      · subst e; rw [updT_same]; simp [ea]
      · rw [updT_other _ _ _ _ e]

theorem Bucks.unhang {tab' tab'' : Nat → Ent} {hd' : Nat → Nat} {ob' : Nat → Ob} (h : Bucks tab hd ob bk) {i b p : Nat} (hb8 : b < 8) (hp : p < (bk b).length) (hip : (bk b).getD p 0 = i) (hU : Unhung tab tab' hd hd' b i p (bk b))
    (h1 : liveO (ob' i) = false) (ho : ∀ j, j ≠ i → ob' j = ob j) (ht : ∀ j, j ≠ i → (tab'' j).next = (tab' j).next ∧ (tab'' j).hash = (tab' j).hash) :
    Bucks tab'' hd' ob' (updT bk b ((bk b).eraseIdx p)) := by
  have hash' : ∀ j, (tab' j).hash = (tab j).hash := fun j => by obtain ⟨x, hx⟩ := hU.nx j; rw [hx]
  have hlive : ∀ c, c < 8 → c ≠ b → ∀ a ∈ bk c, a ∉ bk b := by
    intro c hc hne a ha hb
    have h2 := ((h.mem c hc a).1 ha).2.2
    have h3 := ((h.mem b hb8 a).1 hb).2.2
    omega
  have him : i ∈ bk b := by rw [← hip]; exact getD_mem hp
  refine ⟨fun c hc => ?_, fun c hc a => ?_⟩
  · by_cases e : c = b
    · subst e
      rw [updT_same]
      refine hU.link.congr (fun a ha => ?_)
      have := (erase_mem (h.link c hc).nodup hp a).1 ha
      exact (ht a (by rw [hip] at this; exact this.2)).1
    · rw [updT_other _ _ _ _ e, hU.heads c e]
      refine (h.link c hc).congr (fun a ha => ?_)
      have hn := hlive c hc e a ha
      rw [(ht a (fun e => hn (e ▸ him))).1, hU.out a hn]
  · by_cases ea : a = i
    · subst ea
      constructor
      · intro hm
        by_cases e : c = b
        · subst e
          rw [updT_same, erase_mem (h.link c hc).nodup hp a, hip] at hm
          exact absurd rfl hm.2
        · rw [updT_other _ _ _ _ e] at hm
          exact absurd him (hlive c hc e a hm)
      · rintro ⟨_, h2, _⟩; rw [h1] at h2; cases h2
    · rw [ho a ea, (ht a ea).2, hash' a, ← h.mem c hc a]
      by_cases e : c = b
      · subst e; rw [updT_same, erase_mem (h.link c hc).nodup hp a, hip]; simp [ea]
      · rw [updT_other _ _ _ _ e]
end
end Go.Proofs.Qxb6500417aGreat
