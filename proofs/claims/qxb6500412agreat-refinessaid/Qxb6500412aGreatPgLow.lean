/-
  OWN WORK. THE LOG BELOW, AS THE LAYER ABOVE SEES IT: the committed list and the list that the open transaction sees; all writes below block 72.
-/
import Derived.Test.Qxb6500412aGreatWalCut
namespace Go.Proofs.Qxb6500412aGreat
open Go.RowKit
set_option linter.unusedSimpArgs false
set_option linter.unusedVariables false

structure LG (w : World) (l d : Nat) (blk base : List ByteArray) (recs : List (Nat × ByteArray)) (op : Bool) (com cur : List ByteArray) (F G : Nat → Prop) : Prop where
  ex : ∃ es dirty, LogAt w l d op es G ∧ Inv blk op es com cur dirty ∧ ∀ e ∈ es, e.1 < 72
  dk : DiskAt w d blk base recs F
  FG : ∀ k, F k → ¬ G k

section
variable {w : World} {l d : Nat} {blk base : List ByteArray} {recs : List (Nat × ByteArray)} {op : Bool} {com cur : List ByteArray} {F G : Nat → Prop}

theorem LG.keep {S : Nat → Prop} {w' : World} (h : LG w l d blk base recs op com cur F G) (ho : Only S w w') (hF : ∀ k, F k → ¬ S k) (hG : ∀ k, G k → ¬ S k) : LG w' l d blk base recs op com cur F G := by
  obtain ⟨⟨es, dirty, hl, hi, hk⟩, hd, hFG⟩ := h
  exact ⟨⟨es, dirty, hl.keep ho hG, hi, hk⟩, hd.keep ho hF, hFG⟩
theorem LG.quiet {w' : World} (h : LG w l d blk base recs op com cur F G) (ho : Only (fun _ => False) w w') : LG w' l d blk base recs op com cur F G := h.keep ho (fun _ _ h => h) (fun _ _ h => h)
theorem LG.inF (h : LG w l d blk base recs op com cur F G) : ∀ k, F k → k < w.heap.size := h.dk.inn
theorem LG.inG (h : LG w l d blk base recs op com cur F G) : ∀ k, G k → k < w.heap.size := by
  obtain ⟨⟨es, dirty, hl, hi, hk⟩, hd, hFG⟩ := h
  exact hl.inn
theorem LG.lcom (h : LG w l d blk base recs op com cur F G) : com.length = 80 := by obtain ⟨⟨es, dirty, hl, hi, hk⟩, _⟩ := h; exact hi.lc
theorem LG.lcur (h : LG w l d blk base recs op com cur F G) : cur.length = 80 := by obtain ⟨⟨es, dirty, hl, hi, hk⟩, _⟩ := h; exact hi.lcur
theorem LG.blk_sz (h : LG w l d blk base recs op com cur F G) : ∀ x ∈ blk, x.size = 128 := by obtain ⟨⟨es, dirty, hl, hi, hk⟩, _⟩ := h; exact hi.sz
theorem LG.still (h : LG w l d blk base recs op com cur F G) : CutInv blk [] com com := by obtain ⟨⟨es, dirty, hl, hi, hk⟩, _⟩ := h; exact hi.still

theorem inv_size {es : List (Nat × ByteArray)} {dirty : List Bool} (h : Inv blk op es com cur dirty) (b : Nat) (hb : b < 80) : (cur.getD b emptyB).size = 128 := by
  rw [← h.curs b hb]
  unfold shown
  cases hat : at? es b with
  | none =>
    have hlt : 73 + b < blk.length := by have := h.len; omega
    simp only
    rw [List.getD_eq_getElem?_getD, List.getElem?_eq_getElem hlt]
    exact h.sz _ (List.getElem_mem hlt)
  | some i =>
    obtain ⟨hi, _, _⟩ := at?_some hat
    have := h.good.size es[i] (List.getElem_mem hi)
    simpa [hi] using this
theorem LG.cur_size (h : LG w l d blk base recs op com cur F G) (b : Nat) (hb : b < 80) : (cur.getD b emptyB).size = 128 := by obtain ⟨⟨es, dirty, hl, hi, hk⟩, _⟩ := h; exact inv_size hi b hb
theorem LG.com_size (h : LG w l d blk base recs op com cur F G) (b : Nat) (hb : b < 80) : (com.getD b emptyB).size = 128 := by
  obtain ⟨⟨es, dirty, hl, hi, hk⟩, _⟩ := h
  rw [← hi.coms b hb]
  have hlt : 73 + b < blk.length := by have := hi.len; omega
  rw [List.getD_eq_getElem?_getD, List.getElem?_eq_getElem hlt]
  exact hi.sz _ (List.getElem_mem hlt)

theorem lread_any (h : LG w l d blk base recs op com cur F G) (b : Nat) (hb : b < 80) :
    Calls Tryz.prog 205 #[.pointer (some ⟨l, 0, none⟩), .int .i64 b] w fun e w' => e = .returned (.tuple #[.string (cur.getD b emptyB), .int .i64 0]) ∧ w = w' := by
  obtain ⟨⟨es, dirty, hl, hi, hk⟩, hd, hFG⟩ := h
  have := wread_in l d op es G blk base recs F b w hl hd hb
  rw [hi.curs b hb] at this
  exact this

theorem lbegin_any (h : LG w l d blk base recs false com cur F G) :
    Calls Tryz.prog 144 #[.pointer (some ⟨l, 0, none⟩)] w fun e w' => e = .returned (.int .i64 0) ∧ LG w' l d blk base recs true com cur F G ∧ Only G w w' := by
  obtain ⟨⟨es, dirty, hl, hi, hk⟩, hd, hFG⟩ := h
  refine (wbegin_shut l d es G w hl).mono ?_
  rintro e w' ⟨rfl, hl1, ho⟩
  exact ⟨rfl, ⟨⟨es, dirty, hl1, hi.begin_, hk⟩, hd.keep ho hFG, hFG⟩, ho⟩

theorem labort_any (h : LG w l d blk base recs true com cur F G) :
    Calls Tryz.prog 351 #[.pointer (some ⟨l, 0, none⟩)] w fun e w' => e = .returned (.int .i64 0) ∧ LG w' l d blk base recs false com com F G ∧ Only G w w' := by
  obtain ⟨⟨es, dirty, hl, hi, hk⟩, hd, hFG⟩ := h
  refine (wabort_open l d es G w hl).mono ?_
  rintro e w' ⟨rfl, hl1, ho⟩
  exact ⟨rfl, ⟨⟨[], _, hl1, hi.abort_, by simp⟩, hd.keep ho hFG, hFG⟩, ho⟩

theorem lcommit_any (h : LG w l d blk base recs true com cur F G) (hrc : recs.length ≤ 300) :
    Calls Tryz.prog 149 #[.pointer (some ⟨l, 0, none⟩)] w fun e w' => e = .returned (.int .i64 0) ∧
      ∃ rs, LG w' l d (replay blk rs) base (recs ++ rs) false cur cur (Ext F w w') G ∧ CutInv blk rs com cur ∧ Only (fun k => F k ∨ G k) w w' := by
  obtain ⟨⟨es, dirty, hl, hi, hk⟩, hd, hFG⟩ := h
  refine (wcommit_open l d es G blk base recs F w hl hd (fun k hk hf => hFG k hf hk) hi.sz hi.good hrc).mono ?_
  rintro e w' ⟨rfl, hd1, hl1, ho⟩
  exact ⟨rfl, commitAll blk es, ⟨⟨[], _, hl1, hi.commit_, by simp⟩, hd1, Ext.off hFG hl.inn⟩, hi.committed, ho⟩

theorem nodup_lt : ∀ (n : Nat) (l : List Nat), l.Nodup → (∀ x ∈ l, x < n) → l.length ≤ n := by
  intro n
  induction n with
  | zero =>
    intro l _ hb
    cases l with
    | nil => simp
    | cons a r => have := hb a (by simp); omega
  | succ n ih =>
    intro l hn hb
    by_cases hm : n ∈ l
    · have h1 := ih (l.erase n) (hn.erase n) (fun x hx => by
        have hx' := (List.Nodup.mem_erase_iff hn).1 hx
        have := hb x hx'.2
        have := hx'.1
        omega)
      rw [List.length_erase_of_mem hm] at h1
      omega
    · have := ih l hn (fun x hx => by
        have := hb x hx
        have : x ≠ n := fun e => hm (e ▸ hx)
        omega)
      omega

theorem keys_short {es : List (Nat × ByteArray)} (hg : GoodSet true es) (hk : ∀ e ∈ es, e.1 < 72) {b : Nat} (hb : b < 72) (hat : at? es b = none) : es.length < 72 := by
  have hno := at?_none hat
  have h1 : (b :: es.map (·.1)).Nodup := by
    refine List.nodup_cons.2 ⟨?_, hg.nodup⟩
    intro hm
    simp only [List.mem_map] at hm
    obtain ⟨e, he, rfl⟩ := hm
    obtain ⟨i, hi, rfl⟩ := List.mem_iff_getElem.1 he
    have := hno i hi
    omega
  have h2 : ∀ x ∈ b :: es.map (·.1), x < 72 := by
    intro x hx
    rcases List.mem_cons.1 hx with rfl | hx
    · exact hb
    · simp only [List.mem_map] at hx
      obtain ⟨e, he, rfl⟩ := hx
      exact hk e he
  have := nodup_lt 72 _ h1 h2
  simp at this
  omega

theorem blockOf_self {x : ByteArray} (h : x.size = 128) : blockOf x = x := by
  unfold blockOf
  rw [if_pos (by omega)]
  exact extract_all x 128 h

theorem lwrite_any (h : LG w l d blk base recs true com cur F G) (b : Nat) (x : ByteArray) (hb : b < 72) (hx : x.size = 128) :
    Calls Tryz.prog 148 #[.pointer (some ⟨l, 0, none⟩), .int .i64 b, .string x] w fun e w' => e = .returned (.int .i64 0) ∧ LG w' l d blk base recs true com (cur.set b x) F G ∧ Only G w w' := by
  obtain ⟨⟨es, dirty, hl, hi, hk⟩, hd, hFG⟩ := h
  have hml : x.size ≤ maxLen := by rw [hx]; decide
  have hb8 : b < 80 := by omega
  cases hat : at? es b with
  | some i =>
    refine (wwrite_old l d es G b i x w hl hb8 hat hml).mono ?_
    rintro e w' ⟨rfl, hl1, ho⟩
    rw [blockOf_self hx] at hl1
    refine ⟨rfl, ⟨⟨_, _, hl1, hi.write_old hb8 hx hat, ?_⟩, hd.keep ho hFG, hFG⟩, ho⟩
    intro e he
    rcases List.mem_or_eq_of_mem_set he with he | he
    · exact hk e he
    · subst he; exact hb
  | none =>
    have hlt := keys_short hi.good hk hb hat
    refine (wwrite_new l d es G b x w hl hb8 hat hlt hml).mono ?_
    rintro e w' ⟨rfl, hl1, ho⟩
    rw [blockOf_self hx] at hl1
    refine ⟨rfl, ⟨⟨_, _, hl1, hi.write_new hb8 hx hat hlt, ?_⟩, hd.keep ho hFG, hFG⟩, ho⟩
    intro e he
    rcases List.mem_append.1 he with he | he
    · exact hk e he
    · simp at he; subst he; exact hb
end
end Go.Proofs.Qxb6500412aGreat
