/-
  OWN WORK. THE PAGER's METHODS: New, Open.
-/
import Derived.Test.Qxb6500412aGreatPgEnd
namespace Go.Proofs.Qxb6500412aGreat
open Go.RowKit
set_option linter.unusedSimpArgs false
set_option linter.unusedVariables false

def ord0 : List Nat := [0, 1, 2, 3, 4]
def zeroP (l : Nat) : Array Value := #[.pointer (some ⟨l, 0, Option.none⟩), .bool false, .int .i64 0, .bool false, .bool false, .string ⟨#[]⟩, .int .i64 0, .bool false, .bool false, .string ⟨#[]⟩, .int .i64 0, .bool false, .bool false, .string ⟨#[]⟩, .int .i64 0, .bool false, .bool false, .string ⟨#[]⟩, .int .i64 0, .bool false, .bool false, .string ⟨#[]⟩, .int .i64 0, .int .i64 0, .int .i64 0, .int .i64 0, .int .i64 0]
theorem zeroP_eq (l : Nat) : zeroP l = pcells l false nones (tab (fun t => if t < 0 then t else 0)) := rfl

set_option maxRecDepth 100000 in
set_option maxHeartbeats 1000000 in
theorem pempty_any (l : Nat) (w : World) :
    Calls Tryz.prog 79 #[.pointer (some ⟨l, 0, Option.none⟩)] w fun e w' => e = .returned (.pointer (some ⟨w.heap.size, 0, Option.none⟩)) ∧ PAt w' w.heap.size l false nones ord0 ∧ Only (fun _ => False) w w' := by
  have h0 : PAt (w.alloc (.cells (zeroP l) 204)) w.heap.size l false nones (tab (fun t => if t < 0 then t else 0)) := by
    refine ⟨?_, rfl, by simp⟩
    rw [← zeroP_eq]
    exact Has.new w _ _
  have o0 : Only (fun _ => False) w (w.alloc (.cells (zeroP l) 204)) := (Only.refl _ w).alloc _
  have hlt : w.heap.size < (w.alloc (.cells (zeroP l) 204)).heap.size := by simp
  unfold zeroP at h0 o0 hlt
  go_enter Tryz.func79, Tryz.ntmps79
  go_wp2_with fail
  go_loopw [4] (fun v wr => ∃ k : Nat, k ≤ 5 ∧ v = .int .i64 k ∧ PAt wr w.heap.size l false nones (tab (fun t => if t < k then t else 0)) ∧ Only (fun _ => False) w wr) (fun v _ => (5 - intOf v).toNat)
  case atStart => exact ⟨0, by omega, rfl, h0, o0⟩
  case round =>
    obtain ⟨k, hk, rfl, hp, ho⟩ := hrel
    clear h0 o0 hlt
    by_cases hk5 : k < 5
    · have q := hp.has.cell (22 + k)
      rw [pcells_ord k hp.lf hp.lo hk5, tab_get, if_neg (by omega)] at q
      have z := hp.has.free (22 + k)
      have hs := hp.setOrd k k hk5
      rw [tab_set _ k k hk5, tab_congr (h := fun t => if t < k + 1 then t else 0) (fun t ht => by
        by_cases h : t = k
        · rw [if_pos h, if_pos (by omega), h]
        · rw [if_neg h]
          by_cases h2 : t < k
          · rw [if_pos h2, if_pos (by omega)]
          · rw [if_neg h2, if_neg (by omega)])] at hs
      have o2 : Only (fun _ => False) w (wr.setCell ⟨w.heap.size, 22 + k, Option.none⟩ (.int .i64 (k : Int))) := ho.trans (PAt.only1 (p := w.heap.size) (22 + k) (.int .i64 (k : Int))) (fun i hi e => by omega)
      have Hs := hide hs
      clear hs hp
      go_wp2_with fail
      go_roundw
      case rel => exact ⟨k + 1, by omega, by go_num, unhide Hs, o2⟩
      case measure => simp [intOf]; omega
    · obtain rfl : k = 5 := by omega
      go_wp2_with fail
      go_ret
      exact ⟨rfl, hp, ho⟩

theorem LG.shut {w : World} {l d : Nat} {blk base : List ByteArray} {recs : List (Nat × ByteArray)} {com cur : List ByteArray} {F G : Nat → Prop} (h : LG w l d blk base recs false com cur F G) : cur = com := by
  obtain ⟨⟨es, dirty, hl, hi, hk⟩, hd, hFG⟩ := h
  have he := hi.good.shut rfl
  subst he
  apply List.ext_getElem (by rw [hi.lcur, hi.lc])
  intro i h1 h2
  have hi8 : i < 80 := by rw [hi.lc] at h2; exact h2
  have a := hi.curs i hi8
  have b := hi.coms i hi8
  rw [shown_nil, b] at a
  simpa [List.getD_eq_getElem?_getD, h1, h2] using a.symm

theorem pover {w w' : World} {p l d : Nat} {blk base : List ByteArray} {recs : List (Nat × ByteArray)} {com cur : List ByteArray} {F G : Nat → Prop} (h : LG w l d blk base recs false com cur F G) (hp : PAt w' p l false nones ord0) (ho : Only (fun _ => False) w w') (hpp : w.heap.size ≤ p) :
    PG w' p l d blk base recs false com (com.take 72) F G := by
  obtain rfl := h.shut
  refine ⟨⟨nones, ord0, cur, hp, h.quiet ho, PInv.blank rfl (by decide) (by decide) h.lcom h.com_size⟩, fun hf => ?_, fun hg => ?_⟩
  · have := h.inF p hf; omega
  · have := h.inG p hg; omega

theorem pnew_any {w : World} {l d : Nat} {blk base : List ByteArray} {recs : List (Nat × ByteArray)} {com cur : List ByteArray} {F G : Nat → Prop} (h : LG w l d blk base recs false com cur F G) :
    Calls Tryz.prog 31 #[.pointer (some ⟨l, 0, Option.none⟩)] w fun e w' => e = .returned (.pointer (some ⟨w.heap.size, 0, Option.none⟩)) ∧ PG w' w.heap.size l d blk base recs false com (com.take 72) F G ∧ Only (fun _ => False) w w' := by
  go_enter Tryz.func31, Tryz.ntmps31
  go_wp2_with fail
  refine (pempty_any l w).mono ?_
  rintro e w' ⟨rfl, hp, ho⟩
  go_wp2_with fail
  go_ret
  exact ⟨rfl, pover h hp ho (Nat.le_refl _), ho⟩
theorem popen_any {w : World} {l d : Nat} {blk base : List ByteArray} {recs : List (Nat × ByteArray)} {com cur : List ByteArray} {F G : Nat → Prop} (h : LG w l d blk base recs false com cur F G) :
    Calls Tryz.prog 42 #[.pointer (some ⟨l, 0, Option.none⟩)] w fun e w' => e = .returned (.pointer (some ⟨w.heap.size, 0, Option.none⟩)) ∧ PG w' w.heap.size l d blk base recs false com (com.take 72) F G ∧ Only (fun _ => False) w w' := by
  go_enter Tryz.func42, Tryz.ntmps42
  go_wp2_with fail
  refine (pempty_any l w).mono ?_
  rintro e w' ⟨rfl, hp, ho⟩
  go_wp2_with fail
  go_ret
  exact ⟨rfl, pover h hp ho (Nat.le_refl _), ho⟩
end Go.Proofs.Qxb6500412aGreat
