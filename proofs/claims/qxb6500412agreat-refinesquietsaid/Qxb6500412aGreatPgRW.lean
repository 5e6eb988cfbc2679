/-
  OWN WORK. THE PAGER's CACHE OVER THE LOG: read, write.
-/
import Derived.Test.Qxb6500412aGreatPgCache
namespace Go.Proofs.Qxb6500412aGreat
open Go.RowKit
set_option linter.unusedSimpArgs false
set_option linter.unusedVariables false

/-- Page n stands first. -/
def Front (fr : List Frame) (ord : List Nat) (n : Nat) : Prop := (fa fr (ord.getD 0 0)).valid = true ∧ (fa fr (ord.getD 0 0)).page = n

structure PG (w : World) (p l d : Nat) (blk base : List ByteArray) (recs : List (Nat × ByteArray)) (op : Bool) (com view : List ByteArray) (F G : Nat → Prop) : Prop where
  ex : ∃ fr ord cur, PAt w p l op fr ord ∧ LG w l d blk base recs op com cur F G ∧ PInv fr ord op cur view
  pF : ¬ F p
  pG : ¬ G p
structure PGf (w : World) (p l d : Nat) (blk base : List ByteArray) (recs : List (Nat × ByteArray)) (op : Bool) (com view : List ByteArray) (F G : Nat → Prop) (n : Nat) : Prop where
  ex : ∃ fr ord cur, PAt w p l op fr ord ∧ LG w l d blk base recs op com cur F G ∧ PInv fr ord op cur view ∧ Front fr ord n
  pF : ¬ F p
  pG : ¬ G p

/-- The same, the log's own list named. -/
structure PGc (w : World) (p l d : Nat) (blk base : List ByteArray) (recs : List (Nat × ByteArray)) (op : Bool) (com view cur : List ByteArray) (F G : Nat → Prop) : Prop where
  ex : ∃ fr ord, PAt w p l op fr ord ∧ LG w l d blk base recs op com cur F G ∧ PInv fr ord op cur view
  pF : ¬ F p
  pG : ¬ G p
structure PGcf (w : World) (p l d : Nat) (blk base : List ByteArray) (recs : List (Nat × ByteArray)) (op : Bool) (com view cur : List ByteArray) (F G : Nat → Prop) (n : Nat) : Prop where
  ex : ∃ fr ord, PAt w p l op fr ord ∧ LG w l d blk base recs op com cur F G ∧ PInv fr ord op cur view ∧ Front fr ord n
  pF : ¬ F p
  pG : ¬ G p

section
variable {w : World} {p l d : Nat} {op : Bool} {fr : List Frame} {ord : List Nat} {blk base : List ByteArray} {recs : List (Nat × ByteArray)} {com cur view : List ByteArray} {F G : Nat → Prop}

theorem PGf.pg {n : Nat} (h : PGf w p l d blk base recs op com view F G n) : PG w p l d blk base recs op com view F G := by
  obtain ⟨⟨fr, ord, cur, h1, h2, h3, _⟩, a, b⟩ := h
  exact ⟨⟨fr, ord, cur, h1, h2, h3⟩, a, b⟩

theorem PG.c (h : PG w p l d blk base recs op com view F G) : ∃ cur, PGc w p l d blk base recs op com view cur F G := by
  obtain ⟨⟨fr, ord, cur, h1, h2, h3⟩, a, b⟩ := h
  exact ⟨cur, ⟨fr, ord, h1, h2, h3⟩, a, b⟩
theorem PGc.pg (h : PGc w p l d blk base recs op com view cur F G) : PG w p l d blk base recs op com view F G := by
  obtain ⟨⟨fr, ord, h1, h2, h3⟩, a, b⟩ := h
  exact ⟨⟨fr, ord, cur, h1, h2, h3⟩, a, b⟩
theorem PGcf.pgf {n : Nat} (h : PGcf w p l d blk base recs op com view cur F G n) : PGf w p l d blk base recs op com view F G n := by
  obtain ⟨⟨fr, ord, h1, h2, h3, h4⟩, a, b⟩ := h
  exact ⟨⟨fr, ord, cur, h1, h2, h3, h4⟩, a, b⟩
theorem PGcf.c {n : Nat} (h : PGcf w p l d blk base recs op com view cur F G n) : PGc w p l d blk base recs op com view cur F G := by
  obtain ⟨⟨fr, ord, h1, h2, h3, h4⟩, a, b⟩ := h
  exact ⟨⟨fr, ord, h1, h2, h3⟩, a, b⟩

theorem frame_eta (g : Frame) : (⟨g.page, g.valid, g.dirty, g.data⟩ : Frame) = g := rfl
theorem set_fa (fr : List Frame) (i : Nat) : fr.set i (fa fr i) = fr := by
  apply List.ext_getElem (by simp)
  intro j h1 h2
  rw [List.getElem_set]
  split
  · rename_i e; subst e; rw [fa_get h2]
  · rfl

theorem PInv.touch (h : PInv fr ord op cur view) {f : Nat} (hv : (fa fr f).valid = true) : PInv fr (toFront ord f) op cur view := by
  have hf : f < 5 := by have := fa_lt hv; rw [h.lf] at this; exact this
  obtain ⟨h1, h2, h3⟩ := h.page f hv
  have := h.put (f := f) (n := (fa fr f).page) (x := (fa fr f).data) (dt := (fa fr f).dirty) hf h1 h2 (fun e => h.clean f hv e) (fun e => h.dop f hv e) (fun i hif hi e => hif (h.uniq i f hi hv e)) (fun _ => rfl)
  have e1 : (⟨(fa fr f).page, true, (fa fr f).dirty, (fa fr f).data⟩ : Frame) = fa fr f := by rw [← hv]
  rw [e1, set_fa, ← h3, set_getD_self] at this
  exact this

theorem toFront_head (ord : List Nat) (f : Nat) : (toFront ord f).getD 0 0 = f := rfl

set_option maxRecDepth 100000 in
set_option maxHeartbeats 1000000 in
theorem pread_c (h : PGc w p l d blk base recs op com view cur F G) (n : Nat) (hn : n < 72) :
    Calls Tryz.prog 142 #[.pointer (some ⟨p, 0, Option.none⟩), .int .i64 n] w fun e w' => e = .returned (.tuple #[.string (view.getD n emptyB), .int .i64 0]) ∧ (∃ cur', PGcf w' p l d blk base recs op com view cur' F G n ∧ Ev cur view cur') ∧ Only (fun k => G k ∨ k = p) w w' := by
  obtain ⟨⟨fr, ord, h, hl, hi⟩, pF, pG⟩ := h
  have C1 := pfind_any h n
  cases hfo : frameOf fr n with
  | some i =>
    obtain ⟨hi5, hv, hp⟩ := frameOf_hit hfo
    rw [hi.lf] at hi5
    rw [hfo] at C1
    simp only [fidx] at C1
    have C1 := hide C1
    have C2 := hide (ptouch_any h i hi5)
    have hdat := (hi.page i hv).2.2
    rw [hp] at hdat
    rw [hdat]
    have hneg : decide ((i : Int) < 0) = false := by simp
    have Hi := hide (hi.touch hv)
    have Hv := hide hv
    have Hp := hide hp
    clear hfo hv hp hdat
    go_enter Tryz.func142, Tryz.ntmps142
    go_wp2_with fail
    refine (unhide C1).mono ?_
    rintro e w1 ⟨rfl, rfl⟩
    go_wp2_with fail
    refine (unhide C2).mono ?_
    rintro e w2 ⟨rfl, h2, ho2⟩
    obtain ⟨_, _, _, q3, _⟩ := h2.cells4 i hi5
    go_wp2_with fail
    go_ret2
    refine ⟨rfl, ⟨cur, ⟨⟨fr, _, h2, hl.keep ho2 (fun k hk e => pF (e ▸ hk)) (fun k hk e => pG (e ▸ hk)), unhide Hi, ?_⟩, pF, pG⟩, Ev.refl _ _⟩, ho2.mono (fun _ _ h => .inr h)⟩
    unfold Front
    rw [toFront_head]
    exact ⟨unhide Hv, unhide Hp⟩
  | none =>
    rw [hfo] at C1
    simp only [fidx] at C1
    have C1 := hide C1
    have C2 := hide (proom_any h hl hi pF pG)
    have Hno := hide (frameOf_no hfo)
    clear hfo
    generalize hvx : view.getD n emptyB = x
    have Hvx := hide hvx
    clear hvx
    go_enter Tryz.func142, Tryz.ntmps142
    go_wp2_with fail
    refine (unhide C1).mono ?_
    rintro e w1 ⟨rfl, rfl⟩
    go_wp2_with fail
    refine (unhide C2).mono ?_
    rintro e w2 ⟨f, cur', hf, rfl, h2, hl2, hi2, hev, ho2⟩
    have hf' : f < fr.length := by rw [hi.lf]; exact hf
    have hoth : ∀ i, (fa (fr.set f Frame.none) i).valid = true → (fa (fr.set f Frame.none) i).page ≠ n := by
      intro i hv
      rw [fa_set _ _ hf'] at hv ⊢
      by_cases e : i = f
      · rw [if_pos e] at hv; cases hv
      · rw [if_neg e] at hv ⊢; exact unhide Hno i hv
    have hvw := hi2.miss n hn hoth
    rw [unhide Hvx] at hvw
    have hvs : view.set n x = view := by rw [← unhide Hvx, set_getD_self]
    have hsz := hl2.cur_size n (by omega)
    have hi3 := hi2.put (f := f) (n := n) (x := cur'.getD n emptyB) (dt := false) hf hn hsz (fun _ => rfl) (fun e => by cases e) (fun i _ hv => hoth i hv) (fun hv => by
      rw [fa_set _ _ hf', if_pos rfl] at hv; cases hv)
    have C3 := lread_any hl2 n (by omega)
    rw [← hvw, hvs] at hi3
    rw [← hvw] at C3
    have h3 := h2.storeFr f ⟨n, true, false, x⟩ hf
    have o3 := onlyFr w2 p f ⟨n, true, false, x⟩
    obtain ⟨g0, _, _⟩ := h2.head
    obtain ⟨q0, q1, q2, q3, z0, z1, z2, z3⟩ := h2.cells4 f hf
    have ew : ((((w2.setCell ⟨p, 2 + f * 4, Option.none⟩ (.int .i64 (n : Int))).setCell ⟨p, 2 + f * 4 + 1, Option.none⟩ (.bool true)).setCell ⟨p, 2 + f * 4 + 2, Option.none⟩ (.bool false)).setCell ⟨p, 2 + f * 4 + 3, Option.none⟩ (.string x)) = storeFr w2 p f ⟨n, true, false, x⟩ := rfl
    have C3 := hide C3
    have C4 := hide (ptouch_any h3 f hf)
    have Hi3 := hide hi3
    clear hoth hvw hvs hsz hi3 hi2 hi C1 C2
    go_wp2_with fail
    refine (unhide C3).mono ?_
    rintro e w3 ⟨rfl, rfl⟩
    go_wp2_with fail
    clear ew q0 q1 q2 q3 z0 z1 z2 z3
    refine (unhide C4).mono ?_
    rintro e w4 ⟨rfl, h4, ho4⟩
    obtain ⟨_, _, _, q3, _⟩ := h4.cells4 f hf
    rw [fa_set _ _ (by simpa using hf'), if_pos rfl] at q3
    simp only at q3
    have o34 := o3.trans ho4 (fun _ _ h => h)
    go_wp2_with fail
    go_ret2
    refine ⟨rfl, ⟨cur', ⟨⟨_, _, h4, hl2.keep o34 (fun k hk e => pF (e ▸ hk)) (fun k hk e => pG (e ▸ hk)), unhide Hi3, ?_⟩, pF, pG⟩, hev⟩, ho2.trans o34 (fun _ _ h => .inr h)⟩
    unfold Front
    rw [toFront_head, fa_set _ _ (by simpa using hf'), if_pos rfl]
    exact ⟨rfl, rfl⟩

set_option maxRecDepth 100000 in
set_option maxHeartbeats 1000000 in
theorem pwrite_c (h : PGc w p l d blk base recs true com view cur F G) (n : Nat) (x : ByteArray) (hn : n < 72) (hx : x.size = 128) :
    Calls Tryz.prog 147 #[.pointer (some ⟨p, 0, Option.none⟩), .int .i64 n, .string x] w fun e w' => e = .returned (.int .i64 0) ∧ (∃ cur', PGcf w' p l d blk base recs true com (view.set n x) cur' F G n ∧ Ev cur view cur') ∧ Only (fun k => G k ∨ k = p) w w' := by
  obtain ⟨⟨fr, ord, h, hl, hi⟩, pF, pG⟩ := h
  have C1 := pfind_any h n
  cases hfo : frameOf fr n with
  | some i =>
    obtain ⟨hi5, hv, hp⟩ := frameOf_hit hfo
    have hi5' := hi5
    rw [hi.lf] at hi5
    rw [hfo] at C1
    simp only [fidx] at C1
    have C1 := hide C1
    have hi2 := hi.put (f := i) (n := n) (x := x) (dt := true) hi5 hn hx (fun e => by cases e) (fun _ => rfl) (fun j hj hvj e => hj (hi.uniq j i hvj hv (e.trans hp.symm))) (fun _ => hp)
    have h3 := h.storeFr i ⟨n, true, true, x⟩ hi5
    have o3 := onlyFr w p i ⟨n, true, true, x⟩
    obtain ⟨q0, q1, q2, q3, z0, z1, z2, z3⟩ := h.cells4 i hi5
    have ew : ((((w.setCell ⟨p, 2 + i * 4, Option.none⟩ (.int .i64 (n : Int))).setCell ⟨p, 2 + i * 4 + 1, Option.none⟩ (.bool true)).setCell ⟨p, 2 + i * 4 + 2, Option.none⟩ (.bool true)).setCell ⟨p, 2 + i * 4 + 3, Option.none⟩ (.string x)) = storeFr w p i ⟨n, true, true, x⟩ := rfl
    have C2 := hide (ptouch_any h3 i hi5)
    have hneg : decide ((i : Int) < 0) = false := by simp
    have Hi := hide hi2
    clear hfo hv hp hi2
    go_enter Tryz.func147, Tryz.ntmps147
    go_wp2_with fail
    refine (unhide C1).mono ?_
    rintro e w1 ⟨rfl, rfl⟩
    go_wp2_with fail
    clear ew q0 q1 q2 q3 z0 z1 z2 z3
    refine (unhide C2).mono ?_
    rintro e w2 ⟨rfl, h2, ho2⟩
    have o34 := o3.trans ho2 (fun _ _ h => h)
    go_wp2_with fail
    go_ret
    refine ⟨rfl, ⟨cur, ⟨⟨_, _, h2, hl.keep o34 (fun k hk e => pF (e ▸ hk)) (fun k hk e => pG (e ▸ hk)), unhide Hi, ?_⟩, pF, pG⟩, Ev.refl _ _⟩, o34.mono (fun _ _ h => .inr h)⟩
    unfold Front
    rw [toFront_head, fa_set _ _ hi5', if_pos rfl]
    exact ⟨rfl, rfl⟩
  | none =>
    rw [hfo] at C1
    simp only [fidx] at C1
    have C1 := hide C1
    have C2 := hide (proom_any h hl hi pF pG)
    have Hno := hide (frameOf_no hfo)
    clear hfo
    go_enter Tryz.func147, Tryz.ntmps147
    go_wp2_with fail
    refine (unhide C1).mono ?_
    rintro e w1 ⟨rfl, rfl⟩
    go_wp2_with fail
    refine (unhide C2).mono ?_
    rintro e w2 ⟨f, cur', hf, rfl, h2, hl2, hi2, hev, ho2⟩
    have hf' : f < fr.length := by rw [hi.lf]; exact hf
    have hoth : ∀ i, (fa (fr.set f Frame.none) i).valid = true → (fa (fr.set f Frame.none) i).page ≠ n := by
      intro i hv
      rw [fa_set _ _ hf'] at hv ⊢
      by_cases e : i = f
      · rw [if_pos e] at hv; cases hv
      · rw [if_neg e] at hv ⊢; exact unhide Hno i hv
    have hi3 := hi2.put (f := f) (n := n) (x := x) (dt := true) hf hn hx (fun e => by cases e) (fun _ => rfl) (fun i _ hv => hoth i hv) (fun hv => by
      rw [fa_set _ _ hf', if_pos rfl] at hv; cases hv)
    have h3 := h2.storeFr f ⟨n, true, true, x⟩ hf
    have o3 := onlyFr w2 p f ⟨n, true, true, x⟩
    obtain ⟨q0, q1, q2, q3, z0, z1, z2, z3⟩ := h2.cells4 f hf
    have ew : ((((w2.setCell ⟨p, 2 + f * 4, Option.none⟩ (.int .i64 (n : Int))).setCell ⟨p, 2 + f * 4 + 1, Option.none⟩ (.bool true)).setCell ⟨p, 2 + f * 4 + 2, Option.none⟩ (.bool true)).setCell ⟨p, 2 + f * 4 + 3, Option.none⟩ (.string x)) = storeFr w2 p f ⟨n, true, true, x⟩ := rfl
    have C4 := hide (ptouch_any h3 f hf)
    have Hi3 := hide hi3
    clear hoth hi3 hi2 hi C1 C2
    go_wp2_with fail
    clear ew q0 q1 q2 q3 z0 z1 z2 z3
    refine (unhide C4).mono ?_
    rintro e w4 ⟨rfl, h4, ho4⟩
    have o34 := o3.trans ho4 (fun _ _ h => h)
    go_wp2_with fail
    go_ret
    refine ⟨rfl, ⟨cur', ⟨⟨_, _, h4, hl2.keep o34 (fun k hk e => pF (e ▸ hk)) (fun k hk e => pG (e ▸ hk)), unhide Hi3, ?_⟩, pF, pG⟩, hev⟩, ho2.trans o34 (fun _ _ h => .inr h)⟩
    unfold Front
    rw [toFront_head, fa_set _ _ (by simpa using hf'), if_pos rfl]
    exact ⟨rfl, rfl⟩

theorem pread_any (h : PG w p l d blk base recs op com view F G) (n : Nat) (hn : n < 72) :
    Calls Tryz.prog 142 #[.pointer (some ⟨p, 0, Option.none⟩), .int .i64 n] w fun e w' => e = .returned (.tuple #[.string (view.getD n emptyB), .int .i64 0]) ∧ PGf w' p l d blk base recs op com view F G n ∧ Only (fun k => G k ∨ k = p) w w' := by
  obtain ⟨cur, h⟩ := h.c
  exact (pread_c h n hn).mono fun e w' ⟨a, ⟨_, b, _⟩, c⟩ => ⟨a, b.pgf, c⟩
theorem pwrite_any (h : PG w p l d blk base recs true com view F G) (n : Nat) (x : ByteArray) (hn : n < 72) (hx : x.size = 128) :
    Calls Tryz.prog 147 #[.pointer (some ⟨p, 0, Option.none⟩), .int .i64 n, .string x] w fun e w' => e = .returned (.int .i64 0) ∧ PGf w' p l d blk base recs true com (view.set n x) F G n ∧ Only (fun k => G k ∨ k = p) w w' := by
  obtain ⟨cur, h⟩ := h.c
  exact (pwrite_c h n x hn hx).mono fun e w' ⟨a, ⟨_, b, _⟩, c⟩ => ⟨a, b.pgf, c⟩
end
end Go.Proofs.Qxb6500412aGreat
