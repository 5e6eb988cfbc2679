/-
  OWN WORK. THE PAGER LAW's LOOKS BELOW: LowInTxn, LowRead, Lazy, Bracket, Bounded, Quiet, Outer.
-/
import Derived.Test.Qxb6500411aGreatVLook
import Derived.Test.Qxb6500411aGreatQBelow
import Derived.Test.Qxb6500411aGreatPgLazy
namespace Go.Proofs.Qxb6500411aGreat
open Go.RowKit
set_option linter.unusedSimpArgs false
set_option linter.unusedVariables false

section
variable {w : World} {p l d q : Nat} {blk base : List ByteArray} {recs : List (Nat × ByteArray)} {op : Bool} {com view cur : List ByteArray} {F G H : Nat → Prop}
variable {uc : List Bool} {pc : List ByteArray} {um : List Bool} {pm : List ByteArray} {ub : List Bool} {pb : List ByteArray} {hist : Option (List Bool × List ByteArray)}

theorem lintxn_any (h : LG w l d blk base recs op com cur F G) :
    Calls Tryz.prog 58 #[.pointer (some ⟨l, 0, none⟩)] w fun e w' => e = .returned (.bool op) ∧ w = w' := by
  obtain ⟨⟨es, dirty, k1, k2, k3⟩, _, _⟩ := h
  exact wintxn_any l d op es G w k1

theorem lowInTxn_any (h : LG w l d blk base recs op com cur F G) :
    Calls Tryz.prog 33 #[belowV d l] w fun e w' => e = .returned (.bool op) ∧ Only (fun _ => False) w w' := by
  have o1 : Only (fun _ => False) w (w.alloc (.cells (belowC d l) 30)) := (Only.refl _ w).alloc _
  have C1 := hide (lintxn_any (h.quiet o1))
  unfold belowC at C1 o1
  unfold belowV
  go_enter Tryz.func33, Tryz.ntmps33
  go_wp2_with fail
  refine (unhide C1).mono ?_
  rintro e w1 ⟨rfl, rfl⟩
  go_wp2
  go_ret
  exact ⟨rfl, o1⟩

theorem lowRead_in (h : LG w l d blk base recs op com cur F G) (n : Nat) (hn : n < 80) :
    Calls Tryz.prog 35 #[belowV d l, .int .i64 n] w fun e w' => e = .returned (.string (cur.getD n emptyB)) ∧ Only (fun _ => False) w w' := by
  have o1 : Only (fun _ => False) w (w.alloc (.cells (belowC d l) 30)) := (Only.refl _ w).alloc _
  have C1 := hide (lread_any (h.quiet o1) n hn)
  unfold belowC at C1 o1
  unfold belowV
  generalize cur.getD n emptyB = x at *
  go_enter Tryz.func35, Tryz.ntmps35
  go_wp2_with fail
  refine (unhide C1).mono ?_
  rintro e w1 ⟨rfl, rfl⟩
  go_wp2_with fail
  go_ret
  exact ⟨rfl, o1⟩
theorem lowRead_any (h : LG w l d blk base recs op com cur F G) (n : Int) :
    Calls Tryz.prog 35 #[belowV d l, .int .i64 n] w fun e w' => ∃ x, e = .returned (.string x) ∧ Only (fun _ => False) w w' := by
  by_cases hin : 0 ≤ n ∧ n < 80
  · obtain ⟨k, rfl⟩ := Int.eq_ofNat_of_zero_le hin.1
    exact (lowRead_in h k (by omega)).mono fun e w' ⟨a, b⟩ => ⟨_, a, b⟩
  · have o1 : Only (fun _ => False) w (w.alloc (.cells (belowC d l) 30)) := (Only.refl _ w).alloc _
    have C1 := wread_out l n (w.alloc (.cells (belowC d l) 30)) hin
    unfold emptyB at C1
    unfold belowC at C1 o1
    unfold belowV
    have C1 := hide C1
    clear hin
    go_enter Tryz.func35, Tryz.ntmps35
    go_wp2_with fail
    refine (unhide C1).mono ?_
    rintro e w1 ⟨rfl, rfl⟩
    go_wp2_with fail
    go_ret
    exact ⟨_, rfl, o1⟩

theorem lazy_any (h : LG w l d blk base recs op com cur F G) (n : Nat) (hn : n < 80) (low old : ByteArray) (hor : cur.getD n emptyB = low ∨ cur.getD n emptyB = old) :
    Calls Tryz.prog 76 #[belowV d l, .int .i64 n, .string low, .string old] w fun e w' => e = .returned (.bool true) ∧ Only (fun _ => False) w w' := by
  have o1 : Only (fun _ => False) w (w.alloc (.cells (belowC d l) 30)) := (Only.refl _ w).alloc _
  have C1 := lowRead_in (h.quiet o1) n hn
  generalize cur.getD n emptyB = x at *
  unfold belowC at C1 o1
  have C1 := hide C1
  unfold belowV
  by_cases hx : x = low
  · subst hx
    have C2 := hide (fun w => qsameBlock_eq x w)
    clear hor
    go_enter Tryz.func76, Tryz.ntmps76
    go_wp2_with fail
    refine (unhide C1).mono ?_
    rintro e w1 ⟨rfl, ho1⟩
    go_wp2_with fail
    refine (unhide C2 _).mono ?_
    rintro e w2 ⟨rfl, rfl⟩
    go_wp2_with fail
    go_ret
    exact ⟨rfl, o1.trans ho1 (fun _ _ h => h)⟩
  · obtain rfl : x = old := hor.resolve_left hx
    have C2 := hide (fun w => qsameBlock_ne x low hx w)
    have C3 := hide (fun w => qsameBlock_eq x w)
    clear hor hx
    go_enter Tryz.func76, Tryz.ntmps76
    go_wp2_with fail
    refine (unhide C1).mono ?_
    rintro e w1 ⟨rfl, ho1⟩
    go_wp2_with fail
    refine (unhide C2 _).mono ?_
    rintro e w2 ⟨rfl, rfl⟩
    go_wp2_with fail
    refine (unhide C3 _).mono ?_
    rintro e w2 ⟨rfl, rfl⟩
    go_wp2_with fail
    go_ret
    exact ⟨rfl, o1.trans ho1 (fun _ _ h => h)⟩

theorem bracket_any (h : LG w l d blk base recs op com cur F G) (hm : MPAt w q uc pc um pm ub pb hist op H) :
    Calls Tryz.prog 15 #[belowV d l, .pointer (some ⟨q, 0, none⟩)] w fun e w' => e = .returned (.bool true) ∧ Only (fun _ => False) w w' := by
  have o1 : Only (fun _ => False) w (w.alloc (.cells (belowC d l) 30)) := (Only.refl _ w).alloc _
  have C1 := hide (lowInTxn_any (h.quiet o1))
  have hm1 := hm.quiet o1
  unfold belowC at C1 o1 hm1
  unfold belowV
  go_enter Tryz.func15, Tryz.ntmps15
  go_wp2_with fail
  refine (unhide C1).mono ?_
  rintro e w1 ⟨rfl, ho1⟩
  have C2 := hide (nintxn_any (hm1.quiet ho1))
  go_wp2_with fail
  refine (unhide C2).mono ?_
  rintro e w2 ⟨rfl, rfl⟩
  go_wp2_with fail
  go_ret
  exact ⟨by first | exact rfl | simp, o1.trans ho1 (fun _ _ h => h)⟩

/-- The pages that stand otherwise than the log reads them. -/
def offB (uc : List Bool) (pc cur : List ByteArray) (n : Nat) : Bool := decide (1 ≤ n) && (usedL uc n && !decide (pc.getD n emptyB = cur.getD n emptyB))
theorem offB_iff (uc : List Bool) (pc cur : List ByteArray) (n : Nat) : offB uc pc cur n = true ↔ 1 ≤ n ∧ usedL uc n = true ∧ pc.getD n emptyB ≠ cur.getD n emptyB := by
  unfold offB
  rw [Bool.and_eq_true, Bool.and_eq_true, decide_eq_true_iff, Bool.not_eq_true', decide_eq_false_iff_not]
def offL (uc : List Bool) (pc cur : List ByteArray) (k : Nat) : List Nat := (List.range k).filter (offB uc pc cur)
theorem offL_succ (uc : List Bool) (pc cur : List ByteArray) (k : Nat) (hk : 1 ≤ k) : (offL uc pc cur (k + 1)).length = (offL uc pc cur k).length + (if usedL uc k = true ∧ pc.getD k emptyB ≠ cur.getD k emptyB then 1 else 0) := by
  unfold offL
  rw [List.range_succ, List.filter_append, List.length_append]
  congr 1
  have hb := offB_iff uc pc cur k
  by_cases h : usedL uc k = true ∧ pc.getD k emptyB ≠ cur.getD k emptyB
  · rw [if_pos h, List.filter_cons_of_pos (hb.2 ⟨hk, h⟩)]; rfl
  · rw [if_neg h, List.filter_cons_of_neg (fun h' => h (hb.1 h').2)]; rfl
theorem offL_le (uc : List Bool) (pc cur : List ByteArray) (k : Nat) : (offL uc pc cur k).length ≤ k := by
  unfold offL
  have := List.length_filter_le (offB uc pc cur) (List.range k)
  rwa [List.length_range] at this

theorem offL_small {fr : List Frame} {ord : List Nat} (hi : PInv fr ord op cur view) (hs : SeesAll view uc pc) : (offL uc pc cur 72).length ≤ 5 := by
  have hmem : ∀ n ∈ offL uc pc cur 72, ∃ i, frameOf fr n = some i := by
    intro n hn
    unfold offL at hn
    rw [List.mem_filter, List.mem_range, offB_iff] at hn
    obtain ⟨h72, h1, hu, hne⟩ := hn
    obtain ⟨e1, e2⟩ := hs n h1 h72
    have hv := e2 (by rw [← e1]; exact hu)
    cases hfo : frameOf fr n with
    | some i => exact ⟨i, rfl⟩
    | none =>
      have := hi.miss n h72 (frameOf_no hfo)
      exact absurd (hv.symm.trans this) hne
  have hnd : (offL uc pc cur 72).Nodup := by
    unfold offL
    exact List.Pairwise.filter _ List.nodup_range
  have h5 := nodup_lt 5 ((offL uc pc cur 72).map (fun n : Nat => (frameOf fr n).getD 0)) ?_ ?_
  · rwa [List.length_map] at h5
  · unfold List.Nodup
    rw [List.pairwise_map]
    refine List.Pairwise.imp_of_mem ?_ hnd
    intro a b ha hb hab he
    obtain ⟨i, hfi⟩ := hmem a ha
    obtain ⟨j, hfj⟩ := hmem b hb
    rw [hfi, hfj] at he
    have he' : i = j := he
    subst he'
    obtain ⟨_, _, hp1⟩ := frameOf_hit hfi
    obtain ⟨_, _, hp2⟩ := frameOf_hit hfj
    exact hab (hp1.symm.trans hp2)
  · intro x hx
    obtain ⟨n, hn, rfl⟩ := List.mem_map.1 hx
    obtain ⟨i, hfi⟩ := hmem n hn
    rw [hfi]
    have := (frameOf_hit hfi).1
    rw [hi.lf] at this
    exact this

set_option maxRecDepth 100000 in
set_option maxHeartbeats 1000000 in
theorem bounded_any (h : PGc w p l d blk base recs op com view cur F G) (hm : MPAt w q uc pc um pm ub pb hist op H) (hs : SeesAll view uc pc) :
    Calls Tryz.prog 16 #[belowV d l, .pointer (some ⟨q, 0, none⟩)] w fun e w' => e = .returned (.bool true) ∧ Only (fun _ => False) w w' := by
  have o1 : Only (fun _ => False) w (w.alloc (.cells (belowC d l) 30)) := (Only.refl _ w).alloc _
  have hl := h.lg
  have h5 : (offL uc pc cur 72).length ≤ 5 := by
    obtain ⟨⟨fr, ord, g1, g2, g3⟩, _, _⟩ := h
    exact offL_small g3 hs
  have kv := Has.new w (belowC d l) 30
  unfold belowC at o1 kv
  unfold belowV
  clear h hs
  go_enter Tryz.func16, Tryz.ntmps16
  go_wp2_with fail
  go_loopw [5, 6] (fun c v wr => ∃ k : Nat, 1 ≤ k ∧ k ≤ 72 ∧ v = .int .i64 k ∧ c = .int .i64 ((offL uc pc cur k).length : Int) ∧ Only (fun _ => False) (w.alloc (.cells #[.pointer (some ⟨d, 0, none⟩), .pointer (some ⟨l, 0, none⟩)] 30)) wr) (fun _ v _ => (72 - intOf v).toNat)
  case atStart => exact ⟨1, by omega, by omega, rfl, rfl, Only.refl _ _⟩
  case round =>
    obtain ⟨k, hk1, hk, rfl, rfl, ho⟩ := hrel
    have ho' := o1.trans ho (fun _ _ h => h)
    have hm1 := hm.quiet ho'
    have hl1 := hl.quiet ho'
    have kv1 := kv.keep ho (fun h => h)
    have v0 := kv1.cell 0
    have v1 := kv1.cell 1
    by_cases hk8 : k < 72
    · have hsu := offL_succ uc pc cur k hk1
      have hle := offL_le uc pc cur k
      have hk' : (k : Int) < 72 := by omega
      cases hu : usedL uc k with
      | false =>
        have C1 := nget_free hm1 k hk1 hk8 hu
        rw [if_neg (by rw [hu]; simp)] at hsu
        unfold emptyB at C1
        have C1 := hide C1
        have Hsu := hide hsu
        clear hsu hu
        generalize (offL uc pc cur k).length = ck at *
        go_wp2_with fail
        refine (unhide C1).mono ?_
        rintro e w1 ⟨rfl, rfl⟩
        go_wp2_with fail
        go_roundw
        case rel => exact ⟨k + 1, by omega, by omega, by go_num, by rw [unhide Hsu]; rfl, ho⟩
        case measure => simp [intOf]; omega
      | true =>
        have C1 := nget_used hm1 k hk1 hk8 hu
        have C2 := lowRead_in hl1 k (by omega)
        generalize pc.getD k emptyB = x at *
        generalize cur.getD k emptyB = y at *
        have C1 := hide C1
        have C2 := hide C2
        by_cases hxy : x = y
        · rw [if_neg (fun h => h.2 hxy)] at hsu
          subst hxy
          have C3 := hide (fun w => qsameBlock_eq x w)
          have Hsu := hide hsu
          clear hsu hu
          generalize (offL uc pc cur k).length = ck at *
          go_wp2_with fail
          refine (unhide C1).mono ?_
          rintro e w1 ⟨rfl, rfl⟩
          go_wp2_with fail
          refine (unhide C2).mono ?_
          rintro e w1 ⟨rfl, ho1⟩
          go_wp2_with fail
          refine (unhide C3 _).mono ?_
          rintro e w2 ⟨rfl, rfl⟩
          go_wp2_with fail
          go_roundw
          case rel => exact ⟨k + 1, by omega, by omega, by go_num, by rw [unhide Hsu]; rfl, ho.trans ho1 (fun _ _ h => h)⟩
          case measure => simp [intOf]; omega
        · rw [if_pos ⟨hu, hxy⟩] at hsu
          have C3 := hide (fun w => qsameBlock_ne x y hxy w)
          have Hsu := hide hsu
          clear hsu hu hxy
          generalize (offL uc pc cur k).length = ck at *
          go_wp2_with fail
          refine (unhide C1).mono ?_
          rintro e w1 ⟨rfl, rfl⟩
          go_wp2_with fail
          refine (unhide C2).mono ?_
          rintro e w1 ⟨rfl, ho1⟩
          go_wp2_with fail
          refine (unhide C3 _).mono ?_
          rintro e w2 ⟨rfl, rfl⟩
          go_wp2_with fail
          go_roundw
          case rel => exact ⟨k + 1, by omega, by omega, by go_num, by rw [unhide Hsu]; go_num, ho.trans ho1 (fun _ _ h => h)⟩
          case measure => simp [intOf]; omega
    · obtain rfl : k = 72 := by omega
      generalize (offL uc pc cur 72).length = ck at *
      have hle : decide ((ck : Int) ≤ 5) = true := by simp; omega
      go_wp2_with fail
      go_ret
      exact ⟨by first | exact rfl | simp; omega, ho'⟩

theorem qmaxSteps_any (w : World) : Calls Tryz.prog 85 #[] w fun e w' => e = .returned (.int .i64 146) ∧ w = w' := by
  go_enter Tryz.func85, Tryz.ntmps85
  go_wp2_with fail
  go_ret
  exact ⟨rfl, rfl⟩

set_option maxRecDepth 100000 in
theorem qquiet_any (hd : DiskAt w d blk base recs F) (kind a b c : Int) (s t : ByteArray) (open_ : Bool) (hq : recs = [] ∨ (kind = 2 ∧ open_ = true)) (h146 : recs.length ≤ 146) :
    Calls Tryz.prog 50 #[belowV d l, .agg #[.int .i64 kind, .int .i64 a, .int .i64 b, .int .i64 c, .string s, .string t], .bool open_] w fun e w' => e = .returned (.bool true) ∧ Only (fun _ => False) w w' := by
  have o1 : Only (fun _ => False) w ((w.alloc (.cells (belowC d l) 30)).alloc (.cells #[.int .i64 kind, .int .i64 a, .int .i64 b, .int .i64 c, .string s, .string t] 40)) := ((Only.refl _ w).alloc _).alloc _
  have ko : Has ((w.alloc (.cells (belowC d l) 30)).alloc (.cells #[.int .i64 kind, .int .i64 a, .int .i64 b, .int .i64 c, .string s, .string t] 40)) (w.heap.size + 1) #[.int .i64 kind, .int .i64 a, .int .i64 b, .int .i64 c, .string s, .string t] 40 := Has.new' _ _ _ _ (by simp)
  have C1 := qsteps_any d l blk base recs F _ (hd.keep o1 (fun _ _ h => h))
  have hn : recs.length = 0 ∨ (kind = 2 ∧ open_ = true) := by
    rcases hq with h | h
    · left; rw [h]; rfl
    · exact .inr h
  generalize recs.length = n at *
  unfold belowC at C1 o1 ko
  have C1 := hide C1
  unfold belowV
  by_cases h0 : n = 0
  · subst h0
    clear hn hq h146
    go_enter Tryz.func50, Tryz.ntmps50
    go_wp2_with fail
    refine (unhide C1).mono ?_
    rintro e w1 ⟨rfl, ho1⟩
    go_wp2_with fail
    go_ret
    exact ⟨rfl, o1.trans ho1 (fun _ _ h => h)⟩
  · obtain ⟨rfl, rfl⟩ := hn.resolve_left h0
    have h0b : ((n : Int) == 0) = false := ne_int (by omega)
    have hle : decide ((n : Int) ≤ 146) = true := by simp; omega
    have C2 := hide (fun w => qmaxSteps_any w)
    clear hn hq h0
    go_enter Tryz.func50, Tryz.ntmps50
    go_wp2_with fail
    refine (unhide C1).mono ?_
    rintro e w1 ⟨rfl, ho1⟩
    have c0 := (ko.keep ho1 (fun h => h)).cell 0
    go_wp2_with fail
    refine (unhide C2 _).mono ?_
    rintro e w2 ⟨rfl, rfl⟩
    go_wp2_with fail
    go_ret
    exact ⟨by first | exact rfl | simp; omega, o1.trans ho1 (fun _ _ h => h)⟩

set_option maxRecDepth 100000 in
theorem outer_any (h : PGc w p l d blk base recs op com view cur F G) (hm : MPAt w q uc pc um pm ub pb hist op H) (hs : SeesAll view uc pc) (kind a b c : Int) (s t : ByteArray) (open_ : Bool) (hq : recs = [] ∨ (kind = 2 ∧ open_ = true)) (h146 : recs.length ≤ 146) :
    Calls Tryz.prog 20 #[belowV d l, .pointer (some ⟨q, 0, none⟩), .agg #[.int .i64 kind, .int .i64 a, .int .i64 b, .int .i64 c, .string s, .string t], .bool open_] w fun e w' => e = .returned (.bool true) ∧ Only (fun _ => False) w w' := by
  have o1 : Only (fun _ => False) w ((w.alloc (.cells (belowC d l) 30)).alloc (.cells #[.int .i64 kind, .int .i64 a, .int .i64 b, .int .i64 c, .string s, .string t] 40)) := ((Only.refl _ w).alloc _).alloc _
  have kv : Has ((w.alloc (.cells (belowC d l) 30)).alloc (.cells #[.int .i64 kind, .int .i64 a, .int .i64 b, .int .i64 c, .string s, .string t] 40)) w.heap.size (belowC d l) 30 := (Has.new w _ _).alloc _
  have ko : Has ((w.alloc (.cells (belowC d l) 30)).alloc (.cells #[.int .i64 kind, .int .i64 a, .int .i64 b, .int .i64 c, .string s, .string t] 40)) (w.heap.size + 1) #[.int .i64 kind, .int .i64 a, .int .i64 b, .int .i64 c, .string s, .string t] 40 := Has.new' _ _ _ _ (by simp)
  have h1 := h.quiet o1
  have hm1 := hm.quiet o1
  have C1 := hide (bracket_any h1.lg hm1)
  unfold belowC at C1 o1 ko kv h1 hm1
  unfold belowV
  have Hs := hide hs
  clear h hm hs
  go_enter Tryz.func20, Tryz.ntmps20
  go_wp2_with fail
  refine (unhide C1).mono ?_
  rintro e w1 ⟨rfl, ho1⟩
  have kv1 := kv.keep ho1 (fun h => h)
  have v0 := kv1.cell 0
  have v1 := kv1.cell 1
  have C2 := hide (bounded_any (h1.quiet ho1) (hm1.quiet ho1) (unhide Hs))
  go_wp2_with fail
  refine (unhide C2).mono ?_
  rintro e w2 ⟨rfl, ho2⟩
  have kv2 := kv1.keep ho2 (fun h => h)
  have u0 := kv2.cell 0
  have u1 := kv2.cell 1
  have ko2 := (ko.keep ho1 (fun h => h)).keep ho2 (fun h => h)
  have t0 := ko2.cell 0
  have t1 := ko2.cell 1
  have t2 := ko2.cell 2
  have t3 := ko2.cell 3
  have t4 := ko2.cell 4
  have t5 := ko2.cell 5
  have C3 := hide (qquiet_any (l := l) ((h1.quiet ho1).quiet ho2).lg.dk kind a b c s t open_ hq h146)
  clear hq
  go_wp2_with fail
  refine (unhide C3).mono ?_
  rintro e w3 ⟨rfl, ho3⟩
  go_wp2_with fail
  go_ret
  exact ⟨rfl, ((o1.trans ho1 (fun _ _ h => h)).trans ho2 (fun _ _ h => h)).trans ho3 (fun _ _ h => h)⟩
end
end Go.Proofs.Qxb6500411aGreat
