/-
  OWN WORK. THE PAGER's METHODS: Free, Begin, Abort, New, Open.
-/
import Derived.Test.Qxb6500412aGreatPgOps
namespace Go.Proofs.Qxb6500412aGreat
open Go.RowKit
set_option linter.unusedSimpArgs false
set_option linter.unusedVariables false

section
variable {w : World} {p l d : Nat} {op : Bool} {fr : List Frame} {ord : List Nat} {blk base : List ByteArray} {recs : List (Nat × ByteArray)} {com cur view : List ByteArray} {F G : Nat → Prop}

theorem PAt.setOp (h : PAt w p l op fr ord) (b : Bool) : PAt (w.setCell ⟨p, 1, Option.none⟩ (.bool b)) p l b fr ord := by
  refine ⟨?_, h.lf, h.lo⟩
  have := h.has.setCell 1 (.bool b)
  have e : (pcells l op fr ord).setIfInBounds 1 (.bool b) = pcells l b fr ord := by
    unfold pcells
    apply Array.ext'
    rw [Array.toList_setIfInBounds]
    rfl
  rw [e] at this
  exact this

theorem pfree_shut (h : PG w p l d blk base recs false com view F G) (n : Int) :
    Calls Tryz.prog 308 #[.pointer (some ⟨p, 0, Option.none⟩), .int .i64 n] w fun e w' => e = .returned (.int .i64 2) ∧ w = w' := by
  have c1 := h.openc
  go_enter Tryz.func308, Tryz.ntmps308
  go_wp2_with fail
  go_ret
  exact ⟨rfl, rfl⟩
theorem pfree_out (h : PG w p l d blk base recs true com view F G) (n : Int) (hn : ¬ (1 ≤ n ∧ n < 72)) :
    Calls Tryz.prog 308 #[.pointer (some ⟨p, 0, Option.none⟩), .int .i64 n] w fun e w' => e = .returned (.int .i64 5) ∧ w = w' := by
  have c1 := h.openc
  have C1 := hide (pused_out p n hn w)
  clear hn
  go_enter Tryz.func308, Tryz.ntmps308
  go_wp2_with fail
  refine (unhide C1).mono ?_
  rintro e w1 ⟨rfl, rfl⟩
  go_wp2_with fail
  go_ret
  exact ⟨rfl, rfl⟩
theorem pfree_free (h : PG w p l d blk base recs true com view F G) (n : Nat) (h1 : 1 ≤ n) (hn : n < 72) (hu : usedV view n = false) :
    Calls Tryz.prog 308 #[.pointer (some ⟨p, 0, Option.none⟩), .int .i64 n] w fun e w' => e = .returned (.int .i64 5) ∧ PG w' p l d blk base recs true com view F G ∧ Only (fun k => G k ∨ k = p) w w' := by
  have c1 := h.openc
  have C1 := pused_in h n h1 hn
  rw [hu] at C1
  have C1 := hide C1
  go_enter Tryz.func308, Tryz.ntmps308
  go_wp2_with fail
  refine (unhide C1).mono ?_
  rintro e w1 ⟨rfl, h2, ho2⟩
  go_wp2_with fail
  go_ret
  exact ⟨rfl, h2, ho2⟩

set_option maxRecDepth 100000 in
set_option maxHeartbeats 1000000 in
theorem pfree_used (h : PG w p l d blk base recs true com view F G) (n : Nat) (h1 : 1 ≤ n) (hn : n < 72) (hu : usedV view n = true) :
    Calls Tryz.prog 308 #[.pointer (some ⟨p, 0, Option.none⟩), .int .i64 n] w fun e w' => e = .returned (.int .i64 0) ∧ (∃ view', PG w' p l d blk base recs true com view' F G ∧ view'.getD 0 emptyB = clrB (view.getD 0 emptyB) n ∧ ∀ k, k ≠ 0 → k ≠ n → view'.getD k emptyB = view.getD k emptyB) ∧ Only (fun k => G k ∨ k = p) w w' := by
  have c1 := h.openc
  have C1 := pused_in h n h1 hn
  rw [hu] at C1
  have C1 := hide C1
  have hs := h.sz 0 (by omega)
  have hss := clrB_size _ n hs hn
  have hlv := h.lv
  have C2 := hide (fun w => clearBit_any (view.getD 0 emptyB) n hs hn w)
  have hv0 : ∀ k, (view.set 0 (clrB (view.getD 0 emptyB) n)).getD k emptyB = if k = 0 then clrB (view.getD 0 emptyB) n else view.getD k emptyB := fun k => getD_set view 0 k _ emptyB (by omega)
  generalize hm : view.getD 0 emptyB = m at *
  generalize clrB m n = c at *
  have Hv0 := hide hv0
  have Hm := hide hm
  clear hv0 hu hm
  go_enter Tryz.func308, Tryz.ntmps308
  go_wp2_with fail
  refine (unhide C1).mono ?_
  rintro e w1 ⟨rfl, h2, ho2⟩
  have C3 := pread0 h2
  rw [unhide Hm] at C3
  have C3 := hide C3
  go_wp2_with fail
  refine (unhide C3).mono ?_
  rintro e w2 ⟨rfl, h3, ho3⟩
  go_wp2_with fail
  refine (unhide C2 _).mono ?_
  rintro e w3 ⟨rfl, ho4⟩
  have C4 := hide (pwrite0 (h3.quiet ho4) c hss)
  go_wp2_with fail
  refine (unhide C4).mono ?_
  rintro e w4 ⟨rfl, h5, ho5⟩
  have oall : Only (fun k => G k ∨ k = p) w w4 := ((ho2.trans ho3 (fun _ _ h => h)).trans ho4 (fun _ _ h => h.elim)).trans ho5 (fun _ _ h => h)
  obtain ⟨⟨fr, ord, cur, g1, g2, g3⟩, pF, pG⟩ := h5
  have C5 := pfind_any g1 n
  cases hfo : frameOf fr n with
  | none =>
    rw [hfo] at C5
    simp only [fidx] at C5
    have C5 := hide C5
    clear hfo
    go_wp2_with fail
    refine (unhide C5).mono ?_
    rintro e w5 ⟨rfl, rfl⟩
    go_wp2_with fail
    go_ret
    refine ⟨rfl, ⟨_, ⟨⟨fr, ord, cur, g1, g2, g3⟩, pF, pG⟩, ?_, fun k hk _ => ?_⟩, oall⟩
    · rw [unhide Hv0, if_pos rfl]
    · rw [unhide Hv0, if_neg hk]
  | some i =>
    obtain ⟨hi5, hv, hp⟩ := frameOf_hit hfo
    rw [g3.lf] at hi5
    rw [hfo] at C5
    simp only [fidx] at C5
    have C5 := hide C5
    have C6 := hide (pretire_any g1 i hi5)
    have hge : decide (0 ≤ (i : Int)) = true := by simp
    have hg := g3.forget hi5 hv hp (g2.cur_size n (by omega))
    have Hg := hide hg
    have hl2 : (view.set 0 c).length = 72 := by simpa using hlv
    clear hfo hv hp hg
    go_wp2_with fail
    refine (unhide C5).mono ?_
    rintro e w5 ⟨rfl, rfl⟩
    go_wp2_with fail
    refine (unhide C6).mono ?_
    rintro e w6 ⟨rfl, g6, ho6⟩
    go_wp2_with fail
    go_ret
    refine ⟨rfl, ⟨_, ⟨⟨_, _, cur, g6, g2.keep ho6 (fun k hk e => pF (e ▸ hk)) (fun k hk e => pG (e ▸ hk)), unhide Hg⟩, pF, pG⟩, ?_, fun k hk hkn => ?_⟩, oall.trans ho6 (fun _ _ h => .inr h)⟩
    · rw [getD_set _ _ _ _ _ (by rw [hl2]; exact hn), if_neg (by omega), unhide Hv0, if_pos rfl]
    · rw [getD_set _ _ _ _ _ (by rw [hl2]; exact hn), if_neg hkn, unhide Hv0, if_neg hk]

theorem pbegin_open (h : PG w p l d blk base recs true com view F G) :
    Calls Tryz.prog 88 #[.pointer (some ⟨p, 0, Option.none⟩)] w fun e w' => e = .returned (.int .i64 3) ∧ w = w' := by
  have c1 := h.openc
  go_enter Tryz.func88, Tryz.ntmps88
  go_wp2_with fail
  go_ret
  exact ⟨rfl, rfl⟩
theorem pbegin_shut (h : PG w p l d blk base recs false com view F G) :
    Calls Tryz.prog 88 #[.pointer (some ⟨p, 0, Option.none⟩)] w fun e w' => e = .returned (.int .i64 0) ∧ PG w' p l d blk base recs true com view F G ∧ Only (fun k => G k ∨ k = p) w w' := by
  obtain ⟨⟨fr, ord, cur, g1, g2, g3⟩, pF, pG⟩ := h
  obtain ⟨c0, c1, z1⟩ := g1.head
  have C1 := hide (lbegin_any g2)
  go_enter Tryz.func88, Tryz.ntmps88
  go_wp2_with fail
  refine (unhide C1).mono ?_
  rintro e w1 ⟨rfl, l1, ho1⟩
  have h1 := g1.keep ho1 pG
  obtain ⟨d0, d1, y1⟩ := h1.head
  have h2 := h1.setOp true
  have o2 := PAt.only1 (w := w1) (p := p) 1 (.bool true)
  go_wp2_with fail
  go_ret
  exact ⟨rfl, ⟨⟨fr, ord, cur, h2, l1.keep o2 (fun k hk e => pF (e ▸ hk)) (fun k hk e => pG (e ▸ hk)), { g3 with dop := fun _ _ _ => rfl }⟩, pF, pG⟩, (ho1.mono (fun _ _ h => .inl h)).trans o2 (fun _ _ h => .inr h)⟩

theorem pintxn_any (h : PG w p l d blk base recs op com view F G) :
    Calls Tryz.prog 151 #[.pointer (some ⟨p, 0, Option.none⟩)] w fun e w' => e = .returned (.bool op) ∧ w = w' := by
  have c1 := h.openc
  go_enter Tryz.func151, Tryz.ntmps151
  go_wp2_with fail
  go_ret
  exact ⟨rfl, rfl⟩

def nones : List Frame := List.replicate 5 Frame.none
theorem fa_nones (i : Nat) : fa nones i = Frame.none := by
  unfold fa nones
  rw [List.getD_eq_getElem?_getD, List.getElem?_replicate]
  split <;> rfl

/-- An empty cache over a closed log. -/
theorem PInv.blank {ord : List Nat} (lo : ord.length = 5) (oin : ∀ x ∈ ord, x < 5) (ond : ord.Nodup) (lc : cur.length = 80) (hs : ∀ n, n < 80 → (cur.getD n emptyB).size = 128) : PInv nones ord op cur (cur.take 72) := by
  have hno : ∀ i, (fa nones i).valid = true → False := fun i h => by rw [fa_nones] at h; cases h
  have hg : ∀ n, n < 72 → (cur.take 72).getD n emptyB = cur.getD n emptyB := by
    intro n hn
    rw [List.getD_eq_getElem?_getD, List.getD_eq_getElem?_getD, List.getElem?_take, if_pos hn]
  refine ⟨rfl, lo, by simp [lc], lc, oin, ond, ?_, fun i h => (hno i h).elim, fun i j h => (hno i h).elim, fun i _ => fa_nones i, fun i h => (hno i h).elim, fun i h => (hno i h).elim, fun n hn _ => hg n hn, fun n hn => ?_⟩
  · exact List.pairwise_of_forall (fun x y h => (hno y h).elim)
  · rw [hg n hn]; exact hs n (by omega)
end
end Go.Proofs.Qxb6500412aGreat
