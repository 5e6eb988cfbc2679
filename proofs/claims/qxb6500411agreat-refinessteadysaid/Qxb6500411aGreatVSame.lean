/-
  OWN WORK. THE PAGER LAW's REFINEMENT: SameAlloc, SameFree, SamePut, SameGet, SameUsed.
-/
import Derived.Test.Qxb6500411aGreatVJoint
namespace Go.Proofs.Qxb6500411aGreat
open Go.RowKit
set_option linter.unusedSimpArgs false
set_option linter.unusedVariables false

section
variable {w : World} {p l d q : Nat} {blk base : List ByteArray} {recs : List (Nat × ByteArray)} {op : Bool} {com view : List ByteArray} {uc : List Bool} {pc : List ByteArray} {um : List Bool} {pm : List ByteArray} {hist : Option (List Bool × List ByteArray)} {F G H : Nat → Prop}

/-- Pager and model have turned, each its own. -/
theorem JR.both {kind : Int} {w1 w2 : World} {view' : List ByteArray} {uc' : List Bool} {pc' : List ByteArray} {ub : List Bool} {pb : List ByteArray} (j : JR w p l d q blk base recs op com view uc pc um pm hist F G H) (h1 : PG w1 p l d blk base recs op com view' F G) (ho1 : Only (fun x => G x ∨ x = p) w w1) (h2 : MPAt w2 q uc' pc' um pm ub pb hist op H) (ho2 : Only H w1 w2)
    (hh : (hist = none ∧ ub = um ∧ pb = pm) ∨ hist = some (um, pm)) (hs : SeesAll view' uc' pc') (hm : MapOk (view'.getD 0 emptyB)) : RP w p l d q base F G H blk recs op com kind w2 := by
  obtain ⟨oF, oG, op_⟩ := j.offF
  refine j.post (op' := op) (view' := view') (uc' := uc') (pc' := pc') (H' := H) ⟨h1.keep ho2 oF oG op_, ⟨ub, pb, h2, hh⟩, hs, j.sem, hm, j.mac, j.HF⟩ (fun x hx => .inl hx) ?_
  exact (ho1.mono (fun _ _ h => by rcases h with h | h; exact .inr (.inl h); exact .inr (.inr (.inr h)))).trans ho2 (fun _ _ h => .inr (.inr (.inl h)))
theorem RP.quiet {kind : Int} {w1 w2 : World} (h : RP w p l d q base F G H blk recs op com kind w1) (ho : Only (fun _ => False) w1 w2) : RP w p l d q base F G H blk recs op com kind w2 := by
  obtain ⟨blk', recs', op', com', view', uc', pc', um', pm', hist', F', H', j, h1, h2, h3⟩ := h
  exact ⟨blk', recs', op', com', view', uc', pc', um', pm', hist', F', H', j.keep ho, h1, h2.trans ho (fun _ _ h => h.elim), h3⟩

set_option maxRecDepth 100000 in
set_option maxHeartbeats 1000000 in
theorem rsame_alloc (kind : Int) (see : Bool) (j : JR w p l d q blk base recs op com view uc pc um pm hist F G H) :
    Calls Tryz.prog 41 #[.pointer (some ⟨p, 0, none⟩), .pointer (some ⟨q, 0, none⟩), .bool see] w fun e w' => e = .returned (.bool true) ∧ RP w p l d q base F G H blk recs op com kind w' := by
  have J := hide j
  obtain ⟨ub, pb, hm, hh⟩ := j.md
  obtain ⟨oF, oG, op_⟩ := j.offF
  cases op with
  | false =>
    have C1 := hide (palloc_shut j.pg)
    have C2 := hide (nalloc_shut hm)
    go_enter Tryz.func41, Tryz.ntmps41
    go_wp2_with fail
    refine (unhide C1).mono ?_
    rintro e w1 ⟨rfl, rfl⟩
    go_wp2_with fail
    refine (unhide C2).mono ?_
    rintro e w1 ⟨rfl, rfl⟩
    go_wp2_with fail
    go_ret
    exact ⟨rfl, (unhide J).same (Only.refl _ _)⟩
  | true =>
    have hlow := j.see.low
    by_cases hf : lowOf (usedV view) = 0
    · have C1 := hide (palloc_full j.pg hf)
      have Hf := hide (hlow.trans hf)
      clear hf hlow
      go_enter Tryz.func41, Tryz.ntmps41
      go_wp2_with fail
      refine (unhide C1).mono ?_
      rintro e w1 ⟨rfl, h1, ho1⟩
      have C2 := hide (nalloc_open (hm.keep ho1 j.off))
      go_wp2_with fail
      refine (unhide C2).mono ?_
      rintro e w2 h2
      rcases h2 with ⟨_, rfl, rfl⟩ | ⟨h2, _⟩
      · go_wp2_with fail
        go_ret
        exact ⟨rfl, (unhide J).looked ho1 h1⟩
      · exact absurd (unhide Hf) h2
    · obtain ⟨n, hn⟩ : ∃ n, lowOf (usedV view) = n := ⟨_, rfl⟩
      have hn0 : n ≠ 0 := by rw [← hn]; exact hf
      have hnl : n < 72 := by rw [← hn]; exact lowOf_lt _
      have C1 := hide (palloc_some j.pg n hn hn0)
      have Hf := hide (hlow.trans hn)
      have hlens := hm.lens
      have Hsee := hide (j.see.alloc j.pg.lv (j.pg.sz 0 (by omega)) hlens.1 hlens.2.1 (n := n) (by omega) hnl)
      have hmap : MapOk (((view.set 0 (setB (view.getD 0 emptyB) n)).set n zeroB).getD 0 emptyB) := by
        rw [getD_setQ _ _ _ _ _ (by simp [j.pg.lv]; omega), if_neg (by omega), getD_setQ _ _ _ _ _ (by rw [j.pg.lv]; omega), if_pos rfl]
        exact j.map.set (by omega) hnl
      have Hmap := hide hmap
      generalize (view.set 0 (setB (view.getD 0 emptyB) n)).set n zeroB = view' at *
      clear hf hlow hmap hn
      go_enter Tryz.func41, Tryz.ntmps41
      go_wp2_with fail
      refine (unhide C1).mono ?_
      rintro e w1 ⟨rfl, h1, ho1⟩
      have C2 := nalloc_open (hm.keep ho1 j.off)
      rw [unhide Hf] at C2
      have C2 := hide C2
      go_wp2_with fail
      refine (unhide C2).mono ?_
      rintro e w2 h2
      rcases h2 with ⟨h2, _⟩ | ⟨_, rfl, h2, ho2⟩
      · exact absurd h2 hn0
      · have hall := (unhide J).both (kind := kind) h1.pg ho1 h2 ho2 hh (unhide Hsee) (unhide Hmap)
        have Hall := hide hall
        have C3 := hide (front_any (h1.keep ho2 oF oG op_))
        clear hall h2
        cases see with
        | false =>
          go_wp2_with fail
          go_ret
          exact ⟨by first | exact rfl | simp, unhide Hall⟩
        | true =>
          go_wp2_with fail
          refine (unhide C3).mono ?_
          rintro e w3 ⟨rfl, ho3⟩
          go_wp2_with fail
          go_ret
          exact ⟨by first | exact rfl | simp, (unhide Hall).quiet ho3⟩

set_option maxRecDepth 100000 in
theorem rsame_free (kind n : Int) (j : JR w p l d q blk base recs op com view uc pc um pm hist F G H) :
    Calls Tryz.prog 42 #[.pointer (some ⟨p, 0, none⟩), .pointer (some ⟨q, 0, none⟩), .int .i64 n] w fun e w' => e = .returned (.bool true) ∧ RP w p l d q base F G H blk recs op com kind w' := by
  have J := hide j
  obtain ⟨ub, pb, hm, hh⟩ := j.md
  cases op with
  | false =>
    have C1 := hide (pfree_shut j.pg n)
    have C2 := hide (nfree_shut hm n)
    go_enter Tryz.func42, Tryz.ntmps42
    go_wp2_with fail
    refine (unhide C1).mono ?_
    rintro e w1 ⟨rfl, rfl⟩
    go_wp2_with fail
    refine (unhide C2).mono ?_
    rintro e w1 ⟨rfl, rfl⟩
    go_wp2_with fail
    go_ret
    exact ⟨rfl, (unhide J).same (Only.refl _ _)⟩
  | true =>
    by_cases hin : 1 ≤ n ∧ n < 72
    · obtain ⟨k, rfl⟩ := Int.eq_ofNat_of_zero_le (show 0 ≤ n by omega)
      have h1 : 1 ≤ k := by omega
      have hn : k < 72 := by omega
      cases hu : usedV view k with
      | false =>
        have C1 := hide (pfree_free j.pg k h1 hn hu)
        have hu' := (j.see k h1 hn).1.trans hu
        have Hu := hide hu'
        clear hu hu' hin
        go_enter Tryz.func42, Tryz.ntmps42
        go_wp2_with fail
        refine (unhide C1).mono ?_
        rintro e w1 ⟨rfl, h1', ho1⟩
        have hm1 := hm.keep ho1 j.off
        have C2 := hide (nfree_bad hm1 k (by have := nused_in hm1 k h1 hn; rw [unhide Hu] at this; exact this))
        go_wp2_with fail
        refine (unhide C2).mono ?_
        rintro e w2 ⟨rfl, rfl⟩
        go_wp2_with fail
        go_ret
        exact ⟨rfl, (unhide J).looked ho1 h1'⟩
      | true =>
        have C1 := hide (pfree_used j.pg k h1 hn hu)
        have hu' := (j.see k h1 hn).1.trans hu
        have Hu := hide hu'
        clear hu hu' hin
        go_enter Tryz.func42, Tryz.ntmps42
        go_wp2_with fail
        refine (unhide C1).mono ?_
        rintro e w1 ⟨rfl, ⟨view', h1', e0, ek⟩, ho1⟩
        have C2 := hide (nfree_ok (hm.keep ho1 j.off) k h1 hn (unhide Hu))
        have Hs := hide (j.see.freed h1 hn (j.pg.sz 0 (by omega)) hm.lens.1 e0 ek)
        have hmap : MapOk (view'.getD 0 emptyB) := by rw [e0]; exact j.map.clr h1 hn
        have Hmap := hide hmap
        clear e0 ek hmap
        go_wp2_with fail
        refine (unhide C2).mono ?_
        rintro e w2 ⟨rfl, h2, ho2⟩
        have Hall := hide ((unhide J).both (kind := kind) h1' ho1 h2 ho2 hh (unhide Hs) (unhide Hmap))
        go_wp2_with fail
        go_ret
        exact ⟨rfl, unhide Hall⟩
    · have C1 := hide (pfree_out j.pg n hin)
      have C2 := hide (nfree_bad hm n (nused_out q w n hin))
      clear hin
      go_enter Tryz.func42, Tryz.ntmps42
      go_wp2_with fail
      refine (unhide C1).mono ?_
      rintro e w1 ⟨rfl, rfl⟩
      go_wp2_with fail
      refine (unhide C2).mono ?_
      rintro e w1 ⟨rfl, rfl⟩
      go_wp2_with fail
      go_ret
      exact ⟨rfl, (unhide J).same (Only.refl _ _)⟩

theorem rsame_used (kind n : Int) (j : JR w p l d q blk base recs op com view uc pc um pm hist F G H) :
    Calls Tryz.prog 45 #[.pointer (some ⟨p, 0, none⟩), .pointer (some ⟨q, 0, none⟩), .int .i64 n] w fun e w' => e = .returned (.bool true) ∧ RP w p l d q base F G H blk recs op com kind w' := by
  obtain ⟨ub, pb, hm, hh⟩ := j.md
  by_cases hin : 1 ≤ n ∧ n < 72
  · obtain ⟨k, rfl⟩ := Int.eq_ofNat_of_zero_le (show 0 ≤ n by omega)
    refine (sameUsed_in j.pg hm j.off k (by omega) (by omega)).mono ?_
    rintro e w' ⟨rfl, h1, ho⟩
    have e1 : (usedV view k == usedL uc k) = true := by rw [(j.see k (by omega) (by omega)).1]; simp
    rw [e1]
    exact ⟨rfl, j.looked ho h1⟩
  · refine (sameUsed_out n hin).mono ?_
    rintro e w' ⟨rfl, rfl⟩
    exact ⟨rfl, j.same (Only.refl _ _)⟩
theorem rsame_get (kind n : Int) (see : Bool) (j : JR w p l d q blk base recs op com view uc pc um pm hist F G H) :
    Calls Tryz.prog 43 #[.pointer (some ⟨p, 0, none⟩), .pointer (some ⟨q, 0, none⟩), .int .i64 n, .bool see] w fun e w' => e = .returned (.bool true) ∧ RP w p l d q base F G H blk recs op com kind w' := by
  obtain ⟨ub, pb, hm, hh⟩ := j.md
  by_cases hin : 1 ≤ n ∧ n < 72
  · obtain ⟨k, rfl⟩ := Int.eq_ofNat_of_zero_le (show 0 ≤ n by omega)
    obtain ⟨e1, e2⟩ := j.see k (by omega) (by omega)
    cases hu : usedV view k with
    | false =>
      refine (sameGet_free j.pg hm j.off k (by omega) (by omega) hu (e1.trans hu) see).mono ?_
      rintro e w' ⟨rfl, h1, ho⟩
      exact ⟨rfl, j.looked ho h1⟩
    | true =>
      refine (sameGet_used j.pg hm j.off k (by omega) (by omega) hu (e1.trans hu) see).mono ?_
      rintro e w' ⟨⟨b, rfl, hb⟩, h1, ho⟩
      obtain rfl : b = true := hb.2 (e2 hu)
      exact ⟨rfl, j.looked ho h1⟩
  · refine (sameGet_out n hin see).mono ?_
    rintro e w' ⟨rfl, rfl⟩
    exact ⟨rfl, j.same (Only.refl _ _)⟩

theorem nget_any {ub : List Bool} {pb : List ByteArray} (hm : MPAt w q uc pc um pm ub pb hist op H) (n : Int) :
    Calls Tryz.prog 34 #[.pointer (some ⟨q, 0, none⟩), .int .i64 n] w fun e w' => ∃ x r, e = .returned (.tuple #[.string x, .int .i64 r]) ∧ w = w' := by
  by_cases hin : 1 ≤ n ∧ n < 72
  · obtain ⟨k, rfl⟩ := Int.eq_ofNat_of_zero_le (show 0 ≤ n by omega)
    cases hu : usedL uc k with
    | false => exact (nget_free hm k (by omega) (by omega) hu).mono fun e w' ⟨a, b⟩ => ⟨_, _, a, b⟩
    | true => exact (nget_used hm k (by omega) (by omega) hu).mono fun e w' ⟨a, b⟩ => ⟨_, _, a, b⟩
  · exact (nget_out q w n hin).mono fun e w' ⟨a, b⟩ => ⟨_, _, a, b⟩

set_option maxRecDepth 100000 in
theorem rsame_put_no (kind n : Int) (x : ByteArray) (see : Bool) (e0 : Int) (he : e0 = 2 ∨ e0 = 5) (j : JR w p l d q blk base recs op com view uc pc um pm hist F G H)
    (P : ∀ w1, JR w1 p l d q blk base recs op com view uc pc um pm hist F G H → Calls Tryz.prog 74 #[.pointer (some ⟨p, 0, none⟩), .int .i64 n, .string x] w1 fun e w' => e = .returned (.int .i64 e0) ∧ PG w' p l d blk base recs op com view F G ∧ Only (fun x => G x ∨ x = p) w1 w')
    (N : ∀ w1, JR w1 p l d q blk base recs op com view uc pc um pm hist F G H → Calls Tryz.prog 75 #[.pointer (some ⟨q, 0, none⟩), .int .i64 n, .string x] w1 fun e w' => e = .returned (.int .i64 e0) ∧ w1 = w') :
    Calls Tryz.prog 44 #[.pointer (some ⟨p, 0, none⟩), .pointer (some ⟨q, 0, none⟩), belowV d l, .int .i64 n, .string x, .bool see] w fun e w' => e = .returned (.bool true) ∧ RP w p l d q base F G H blk recs op com kind w' := by
  have o0 : Only (fun _ => False) w (w.alloc (.cells (belowC d l) 30)) := (Only.refl _ w).alloc _
  have j0 := j.keep o0
  have J := hide j
  obtain ⟨cur, hc⟩ := j0.pg.c
  have C1 := hide (lowRead_any hc.lg n)
  have P := hide P
  have N := hide N
  unfold belowC at o0 j0 C1
  unfold belowV
  clear hc j
  rcases he with rfl | rfl
  all_goals
    go_enter Tryz.func44, Tryz.ntmps44
    go_wp2_with fail
    refine (unhide C1).mono ?_
    rintro e w1 ⟨low, rfl, ho1⟩
    have j1 := j0.keep ho1
    obtain ⟨ub, pb, hm1, _⟩ := j1.md
    have C2 := hide (nget_any hm1 n)
    have C3 := hide (unhide P w1 j1)
    go_wp2_with fail
    refine (unhide C2).mono ?_
    rintro e w2 ⟨old, r, rfl, rfl⟩
    go_wp2_with fail
    refine (unhide C3).mono ?_
    rintro e w3 ⟨rfl, h3, ho3⟩
    have C4 := hide (unhide N w3 (j1.pager ho3 h3))
    go_wp2_with fail
    refine (unhide C4).mono ?_
    rintro e w4 ⟨rfl, rfl⟩
    go_wp2_with fail
    go_ret
    exact ⟨rfl, RP.pre (o0.trans ho1 (fun _ _ h => h)) (j1.looked ho3 h3)⟩

set_option maxRecDepth 100000 in
set_option maxHeartbeats 1000000 in
theorem rsame_put_ok (kind : Int) (n : Nat) (x : ByteArray) (hx : x.size ≤ maxLen) (see : Bool) (h1 : 1 ≤ n) (hn : n < 72) (j : JR w p l d q blk base recs true com view uc pc um pm hist F G H) (hu : usedV view n = true) :
    Calls Tryz.prog 44 #[.pointer (some ⟨p, 0, none⟩), .pointer (some ⟨q, 0, none⟩), belowV d l, .int .i64 n, .string x, .bool see] w fun e w' => e = .returned (.bool true) ∧ RP w p l d q base F G H blk recs true com kind w' := by
  have o0 : Only (fun _ => False) w (w.alloc (.cells (belowC d l) 30)) := (Only.refl _ w).alloc _
  have kv := Has.new w (belowC d l) 30
  have j0 := j.keep o0
  obtain ⟨oF, oG, op_⟩ := j.offF
  obtain ⟨cur, hc⟩ := j0.pg.c
  have C1 := lowRead_in hc.lg n (by omega)
  obtain ⟨e1, e2⟩ := j.see n h1 hn
  have hu' := e1.trans hu
  have hvp := e2 hu
  have Hs := hide (j.see.put j.pg.lv (by obtain ⟨ub, pb, hm, _⟩ := j.md; exact hm.lens.2.1) h1 hn (blockOf x))
  have hmap : MapOk ((view.set n (blockOf x)).getD 0 emptyB) := by rw [getD_setQ _ _ _ _ _ (by rw [j.pg.lv]; omega), if_neg (by omega)]; exact j.map
  have Hmap := hide hmap
  have Hu := hide hu
  have Hu' := hide hu'
  have hpl := j.pg.plt
  have hvp' : w.heap.size ≠ p := by omega
  have hvG : ¬ G w.heap.size := fun h => by have := j.pg.inG _ h; omega
  have hvH : ¬ H w.heap.size := fun h => by have := j.inH _ h; omega
  unfold belowC at o0 j0 C1 kv
  unfold belowV
  generalize hcx : cur.getD n emptyB = low at *
  have Hcx := hide hcx
  have Hvp := hide hvp
  have C1 := hide C1
  clear hu hu' hmap hcx hvp e1 e2 j
  go_enter Tryz.func44, Tryz.ntmps44
  go_wp2_with fail
  refine (unhide C1).mono ?_
  rintro e w1 ⟨rfl, ho1⟩
  have j1 := j0.keep ho1
  obtain ⟨ub, pb, hm1, hh⟩ := j1.md
  have C2 := nget_used hm1 n h1 hn (unhide Hu')
  generalize hpx : pc.getD n emptyB = old at *
  have C2 := hide C2
  have Hpx := hide hpx
  clear hpx
  have C3 := hide (pput_c (hc.quiet ho1) n x hx h1 hn (unhide Hu))
  have kv1 := kv.keep ho1 (fun h => h)
  go_wp2_with fail
  refine (unhide C2).mono ?_
  rintro e w2 ⟨rfl, rfl⟩
  go_wp2_with fail
  refine (unhide C3).mono ?_
  rintro e w3 ⟨rfl, ⟨cur3, h3, hev⟩, ho3⟩
  have C4 := hide (nput_ok (hm1.keep ho3 j1.off) n x hx h1 hn (unhide Hu'))
  have kv3 := kv1.keep ho3 (by rintro (h | h); exact hvG h; exact hvp' h)
  go_wp2_with fail
  refine (unhide C4).mono ?_
  rintro e w4 ⟨rfl, h4, ho4⟩
  have kv4 := kv3.keep ho4 hvH
  have v0 := kv4.cell 0
  have v1 := kv4.cell 1
  have hall := j1.both (kind := kind) h3.pgf.pg ho3 h4 ho4 hh (unhide Hs) (unhide Hmap)
  have Hall := hide (RP.pre (o0.trans ho1 (fun _ _ h => h)) hall)
  have hor : cur3.getD n emptyB = low ∨ cur3.getD n emptyB = old := by
    rcases hev n with e | e
    · left; rw [e]; exact unhide Hcx
    · right; rw [e, unhide Hvp]
  have C5 := hide (lazy_any (h3.c.lg.keep ho4 oF oG) n (by omega) low old hor)
  have C6 := fun (w5 : World) (ho5 : Only (fun _ => False) w4 w5) => front_any ((h3.pgf.keep ho4 oF oG op_).quiet ho5)
  have C6 := hide C6
  clear hall hor hev
  go_wp2_with fail
  refine (unhide C5).mono ?_
  rintro e w5 ⟨rfl, ho5⟩
  cases see with
  | false =>
    go_wp2_with fail
    go_ret
    exact ⟨rfl, (unhide Hall).quiet ho5⟩
  | true =>
    go_wp2_with fail
    refine (unhide C6 _ ho5).mono ?_
    rintro e w6 ⟨rfl, ho6⟩
    go_wp2_with fail
    go_ret
    exact ⟨rfl, (unhide Hall).quiet (ho5.trans ho6 (fun _ _ h => h))⟩

theorem rsame_put (kind n : Int) (x : ByteArray) (hx : x.size ≤ maxLen) (see : Bool) (j : JR w p l d q blk base recs op com view uc pc um pm hist F G H) :
    Calls Tryz.prog 44 #[.pointer (some ⟨p, 0, none⟩), .pointer (some ⟨q, 0, none⟩), belowV d l, .int .i64 n, .string x, .bool see] w fun e w' => e = .returned (.bool true) ∧ RP w p l d q base F G H blk recs op com kind w' := by
  cases op with
  | false =>
    refine rsame_put_no kind n x see 2 (.inl rfl) j (fun w1 j1 => (pput_shut j1.pg n x).mono ?_) (fun w1 j1 => ?_)
    · rintro e w' ⟨rfl, rfl⟩
      exact ⟨rfl, j1.pg, Only.refl _ _⟩
    · obtain ⟨ub, pb, hm, _⟩ := j1.md
      exact nput_shut hm n x
  | true =>
    by_cases hin : 1 ≤ n ∧ n < 72
    · obtain ⟨k, rfl⟩ := Int.eq_ofNat_of_zero_le (show 0 ≤ n by omega)
      have h1 : 1 ≤ k := by omega
      have hn : k < 72 := by omega
      cases hu : usedV view k with
      | true => exact rsame_put_ok kind k x hx see h1 hn j hu
      | false =>
        refine rsame_put_no kind k x see 5 (.inr rfl) j (fun w1 j1 => pput_free j1.pg k x h1 hn hu) (fun w1 j1 => ?_)
        obtain ⟨ub, pb, hm, _⟩ := j1.md
        refine nput_bad hm k x ?_
        have := nused_in hm k h1 hn
        rw [(j1.see k h1 hn).1, hu] at this
        exact this
    · refine rsame_put_no kind n x see 5 (.inr rfl) j (fun w1 j1 => (pput_out j1.pg n x hin).mono ?_) (fun w1 j1 => ?_)
      · rintro e w' ⟨rfl, rfl⟩
        exact ⟨rfl, j1.pg, Only.refl _ _⟩
      · obtain ⟨ub, pb, hm, _⟩ := j1.md
        exact nput_bad hm n x (nused_out q w1 n hin)
end
end Go.Proofs.Qxb6500411aGreat
