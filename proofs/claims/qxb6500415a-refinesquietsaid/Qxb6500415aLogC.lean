/-
  OWN WORK. THE LOG: Check.
-/
import Derived.Test.Qxb6500415aLogI
namespace Go.Proofs.Qxb6500415a
open Go.RowKit
set_option linter.unusedSimpArgs false
set_option linter.unusedVariables false

/-- What Check asks of the write set. -/
structure GoodSet (op : Bool) (es : List (Nat × ByteArray)) : Prop where
  shut : op = false → es = []
  inn : ∀ e ∈ es, e.1 < 80
  size : ∀ e ∈ es, e.2.size = 128
  nodup : (es.map (·.1)).Nodup

theorem GoodSet.ne {op : Bool} {es : List (Nat × ByteArray)} (h : GoodSet op es) {i j : Nat} (hj : j < i) (hi : i < es.length) : es[j].1 ≠ es[i].1 := by
  have := (List.pairwise_iff_getElem.1 h.nodup) j i (by simp; omega) (by simpa using hi) hj
  simpa using this

set_option maxRecDepth 100000 in
set_option maxHeartbeats 2000000 in
theorem wcheck_any (l d : Nat) (op : Bool) (es : List (Nat × ByteArray)) (F : Nat → Prop) (blk base : List ByteArray) (recs : List (Nat × ByteArray)) (G : Nat → Prop) (w : World) (hl : LogAt w l d op es F) (hd : DiskAt w d blk base recs G)
    (hs : ∀ x ∈ blk, x.size = 128) (hz : byteAt (blk.getD 0 emptyB) 0 = 0) (hg : GoodSet op es) :
    Calls Try.prog 25 #[.pointer (some ⟨l, 0, none⟩)] w fun e w' => e = .returned (.bool true) ∧ Only (fun _ => False) w w' := by
  have hlen := hd.len
  have hsh := hl.short
  have hsz : (blk.getD 0 emptyB).size = 128 := getD_size hs (by omega)
  have C1 := hide (dread_any d blk base recs G 0 w hd (by omega))
  have h0 : 0 < (blk.getD 0 emptyB).size := by omega
  have hb0 := byte0_ne _ h0
  have hz' : (byteAt (blk.getD 0 emptyB) 0 == 0) = true := by simpa using hz
  rw [hz'] at hb0
  generalize blk.getD 0 emptyB = h at *
  have hb1 : ((h[0].toNat : Int) != 0) = false := by simpa using hb0
  clear hz hz' hb0
  have hopn : op = false → ((es.length : Int) != 0) = false := by intro h; rw [hg.shut h]; rfl
  have hg' := hide hg
  clear hg hs
  obtain ⟨⟨nb, db, gn, gd, h1, h2, h3, h4, h5, f1, f2, f3⟩, hi⟩ := hl
  have c0 := h1.cell 0
  have c1 := h1.cell 1
  have c2 := h1.cell 2
  have c3 := h1.cell 3
  have c4 := h1.cell 4
  have hneg : decide ((es.length : Int) < 0) = false := by simp
  have hbig : decide ((72 : Int) < (es.length : Int)) = false := by simp; omega
  have hop : op = true ∨ op = false := by cases op <;> simp
  rcases hop with rfl | rfl
  all_goals
    try (have hopn' := hopn rfl)
    go_enter Try.func25, Try.ntmps25
    go_wp2_with fail
    refine (unhide C1).mono ?_
    rintro e w' ⟨rfl, rfl⟩
    go_wp2_with fail
    clear hb1 hneg hbig hopn
    try clear hopn'
    go_loopw [5] (fun v wr => ∃ k : Nat, k ≤ es.length ∧ v = .int .i64 k ∧ Only (fun _ => False) w wr) (fun v _ => es.length - (intOf v).toNat)
    case atStart => exact ⟨0, Nat.zero_le _, rfl, Only.refl _ w⟩
    case round =>
      obtain ⟨k, hk, rfl, ho⟩ := hrel
      have e1 := h1.keep ho (fun h => h)
      have e2 := h2.keep ho (fun h => h)
      have e3 := h3.keep ho (fun h => h)
      have q2 := e1.cell 2
      have q3 := e1.cell 3
      have q4 := e1.cell 4
      by_cases hke : k < es.length
      · have hb := (unhide hg').inn _ (List.getElem_mem hke)
        have hx := (unhide hg').size _ (List.getElem_mem hke)
        have hin := inD_t (b := (es[k].1 : Int)) (by omega) (by omega)
        have p1 := e2.cell k
        rw [num_at hke] at p1
        have p2 := e3.cell k
        rw [data_at hke] at p2
        have hne : ∀ m, (hm : m < k) → ((es[m].1 : Int) == (es[k].1 : Int)) = false := fun m hm => ne_int (by have := (unhide hg').ne hm hke; omega)
        have Hne := hide hne
        clear hne
        have hx2 : ((es[k].2.size : Int) != 128) = false := by rw [hx]; rfl
        go_wp2_with (go_at_call 54; refine (inData_any _ _).mono ?_; rintro e w' ⟨rfl, rfl⟩)
        go_loopw [6] (fun v wr => ∃ m : Nat, m ≤ k ∧ v = .int .i64 m ∧ Only (fun _ => False) w wr) (fun v _ => k - (intOf v).toNat)
        case atStart => exact ⟨0, Nat.zero_le _, rfl, ho⟩
        case round =>
          obtain ⟨m, hm, rfl, hom⟩ := hrel
          clear e1 e2 e3 q2 q3 q4 p1 p2
          have e1 := h1.keep hom (fun h => h)
          have e2 := h2.keep hom (fun h => h)
          have q3 := e1.cell 3
          by_cases hmk : m < k
          · have p1 := e2.cell k
            rw [num_at hke] at p1
            have p2 := e2.cell m
            rw [num_at (by omega)] at p2
            have hn := unhide Hne m hmk
            have m72 : (m : Int) < 72 := by omega
            have k72 : (k : Int) < 72 := by omega
            go_wp2_with fail
            go_region
            go_wp2
            go_roundw
            case rel => exact ⟨m + 1, by omega, by go_num, hom.drew⟩
            case measure => simp [intOf]; omega
          · go_wp2
            go_roundw
            case rel => exact ⟨k + 1, by omega, by go_num, hom⟩
            case measure => simp [intOf]; omega
      · go_wp2
        go_ret
        exact ⟨rfl, ho⟩
end Go.Proofs.Qxb6500415a
