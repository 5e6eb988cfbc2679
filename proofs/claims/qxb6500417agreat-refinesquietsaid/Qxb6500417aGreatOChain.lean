/-
  OWN WORK. THE OBJECT STORE's CHAINS: what lies on the device; bytesOf, holds, claim, release.
-/
import Derived.Test.Qxb6500417aGreatOBits
namespace Go.Proofs.Qxb6500417aGreat
open Go.RowKit
set_option linter.unusedSimpArgs false
set_option linter.unusedVariables false

def packF (k fol n : Nat) (x : Nat → Nat) (off j : Nat) : Nat := if j = 0 then k else if j = 1 then fol else if j = 2 then min 60 (n - off) else if j = 3 then 0 else if off + (j - 4) < n then x (off + (j - 4)) else 0

/-- On the device D an object of kind k and n bytes x lies in the blocks ch. -/
structure Lies (D : Nat → Nat) (k n : Nat) (x : Nat → Nat) (ch : List Nat) : Prop where
  len : ch.length = nB n
  rng : ∀ i, i < ch.length → 1 ≤ ch.getD i 0 ∧ ch.getD i 0 < 145
  dat : ∀ i, i < ch.length → ∀ j, j < 64 → blkF D (ch.getD i 0) j = packF k (ch.getD (i + 1) 0) n x (60 * i) j

theorem nB_le (n : Nat) : 1 ≤ nB n ∧ nB n ≤ 3 := by
  unfold nB
  split
  · omega
  · split <;> omega
theorem nB_full (n : Nat) (hn : n ≤ 180) : n ≤ 60 * nB n ∧ (∀ i, i < nB n → i ≠ 0 → 60 * i < n) := by
  unfold nB
  split
  · exact ⟨by omega, fun i hi h0 => by omega⟩
  · split
    · exact ⟨by omega, fun i hi h0 => by omega⟩
    · exact ⟨by omega, fun i hi h0 => by omega⟩

section
variable {D : Nat → Nat} {k n : Nat} {x : Nat → Nat} {ch : List Nat}
theorem Lies.le3 (h : Lies D k n x ch) : 1 ≤ ch.length ∧ ch.length ≤ 3 := by rw [h.len]; exact nB_le n
theorem Lies.nxt (h : Lies D k n x ch) (i : Nat) : ch.getD i 0 < 145 := by
  by_cases hi : i < ch.length
  · exact (h.rng i hi).2
  · have : ch.getD i 0 = 0 := by rw [List.getD_eq_getElem?_getD, List.getElem?_eq_none (by omega)]; rfl
    omega
theorem Lies.zero (h : Lies D k n x ch) (i : Nat) (hi : ch.length ≤ i) : ch.getD i 0 = 0 := by rw [List.getD_eq_getElem?_getD, List.getElem?_eq_none hi]; rfl
theorem Lies.b0 (h : Lies D k n x ch) (i : Nat) (hi : i < ch.length) : blkF D (ch.getD i 0) 0 = k := by rw [h.dat i hi 0 (by omega)]; rfl
theorem Lies.b1 (h : Lies D k n x ch) (i : Nat) (hi : i < ch.length) : blkF D (ch.getD i 0) 1 = ch.getD (i + 1) 0 := by rw [h.dat i hi 1 (by omega)]; rfl
theorem Lies.b2 (h : Lies D k n x ch) (i : Nat) (hi : i < ch.length) : blkF D (ch.getD i 0) 2 = min 60 (n - 60 * i) := by rw [h.dat i hi 2 (by omega)]; rfl
theorem Lies.bj (h : Lies D k n x ch) (i : Nat) (hi : i < ch.length) (j : Nat) (hj : j < min 60 (n - 60 * i)) : blkF D (ch.getD i 0) (4 + j) = x (60 * i + j) := by
  rw [h.dat i hi (4 + j) (by omega)]
  unfold packF
  rw [if_neg (by omega), if_neg (by omega), if_neg (by omega), if_neg (by omega), if_pos (by omega)]
  congr 1
  omega
end

section
variable {w : World} {s d : Nat} {tab : Nat → Ent} {hd us : Nat → Nat} {nf rt : Nat} {D B : Nat → Nat} {recs : List Rec} {F : Nat → Prop} {k n : Nat} {x : Nat → Nat} {ch : List Nat}

set_option maxRecDepth 100000 in
set_option maxHeartbeats 2000000 in
theorem bytesOf_any (h : SAt w s d tab hd us nf rt) (hv : DevAt w d D B recs F) (id : Nat) (hid : id < 49) (hl : Lies D k n x ch) (hn : n ≤ 180) (hsz : (tab id).size = n) (hfi : (tab id).first = ch.getD 0 0) :
    Calls Tryz.prog 172 #[.pointer (some ⟨s, 0, none⟩), .int .i64 id] w fun e w' => e = .returned (.slice (some ⟨w.heap.size, 0, none⟩) n n) ∧ Has w' w.heap.size (tabV n (u8f x)) 5 ∧ Only (fun _ => False) w w' := by
  have c2 := (h.ent id 2 hid (by omega)).1
  have c3 := (h.ent id 3 hid (by omega)).1
  simp only [entCell] at c2 c3
  rw [hsz] at c2
  rw [hfi] at c3
  have hm : (Instr.makeSlice 90 (.int .i64 n) (.int .i64 n)).run Tryz.prog w = .ok (.slice (some ⟨w.heap.size, 0, none⟩) n n) (w.alloc (.cells (tabV n (u8f (fun _ => 0))) 5)) := run_make_bytes w n (by omega)
  have hid' : (id : Int) < 49 := by omega
  have hsl := Has.lt h
  have hfull := nB_full n hn
  have hlen := hl.len
  have h3 := hl.le3
  rw [hlen] at h3
  have o0 : Only (fun _ => False) w (w.alloc (.cells (tabV n (u8f (fun _ => 0))) 5)) := (Only.refl _ w).alloc _
  have c3' := ((h.keep o0 (fun h => h)).ent id 3 hid (by omega)).1
  simp only [entCell] at c3'
  rw [hfi] at c3'
  have Hl := hide hl
  clear hsz hfi hl
  go_enter Tryz.func172, Tryz.ntmps172
  go_wp2_with fail
  go_loopw [6, 7, 8] (fun av bv iv wr => ∃ i : Nat, i ≤ nB n ∧ av = .int .i64 ((min (60 * i) n : Nat) : Int) ∧ bv = .int .i64 (ch.getD i 0 : Int) ∧ iv = .int .i64 i ∧ Has wr w.heap.size (tabV n (u8f (fun j => if j < 60 * i then x j else 0))) 5 ∧ Only (fun _ => False) w wr) (fun _ _ iv _ => (3 - intOf iv).toNat)
  case atStart => exact ⟨0, by omega, by simp, rfl, rfl, by simpa using Has.new w (tabV n (u8f (fun _ => 0))) 5, o0⟩
  case round =>
    clear c2 c3 c3' hm
    obtain ⟨i, hi, rfl, rfl, rfl, hs, ho⟩ := hrel
    by_cases hib : i < nB n
    · have hil : i < ch.length := by omega
      obtain ⟨r1, r2⟩ := (unhide Hl).rng i hil
      have q1 := (unhide Hl).b1 i hil
      have q2 := (unhide Hl).b2 i hil
      have q3 := (unhide Hl).nxt (i + 1)
      have qj := (unhide Hl).bj i hil
      generalize ch.getD i 0 = b at *
      generalize hb' : ch.getD (i + 1) 0 = b' at *
      have Hb' := hide hb'
      clear hb'
      have C1 := hide (oblock_any (h.keep ho (fun h => h)) (hv.quiet ho) b r2)
      have hb0 : ((b : Int) != 0) = true := by simp; omega
      have hi3 : decide ((i : Int) < 3) = true := by simp; omega
      have hqi := hfull.2 i hib
      have Hqj := hide qj
      have sz := ho.size
      have hsl2 := hs.lt
      clear qj hfull
      go_wp2_with fail
      refine (unhide C1).mono ?_
      rintro e w1 ⟨rfl, hb1, ho1⟩
      have s1 := ho1.size
      have C2 := ocount_any wr.heap.size (blkF D b) (by rw [q2]; omega) hb1
      have C3 := onext_any (w := w1) wr.heap.size (blkF D b) (by rw [q1]; exact q3) hb1
      rw [q2] at C2
      have C2 := hide C2
      have hs1 := hs.keep ho1 (fun h => h)
      have ho1' := ho.trans ho1 (fun _ _ h => h)
      have hne : w.heap.size ≠ wr.heap.size := by omega
      clear C1 hs C3 sz hsl2 ho ho1 s1
      generalize wr.heap.size = gb at *
      generalize hcc : min 60 (n - 60 * i) = cc at *
      go_wp2_with fail
      refine (unhide C2).mono ?_
      rintro e w2 ⟨rfl, rfl⟩
      go_wp2_with fail
      go_loopw [6, 11] (fun av jv wx => ∃ j : Nat, j ≤ cc ∧ av = .int .i64 ((60 * i + j : Nat) : Int) ∧ jv = .int .i64 j ∧ Has wx w.heap.size (tabV n (u8f (fun t => if t < 60 * i + j then x t else 0))) 5 ∧ Only (fun y => y = w.heap.size) w1 wx) (fun _ jv _ => cc - (intOf jv).toNat)
      case atStart =>
        have e1 : min (60 * i) n = 60 * i + 0 := by
          by_cases h0 : i = 0
          · subst h0; omega
          · have := hqi h0; omega
        exact ⟨0, by omega, by rw [e1], rfl, hs1, Only.refl _ _⟩
      case round =>
        clear hs1
        obtain ⟨j, hj, rfl, rfl, hs, ho2⟩ := hrel
        have hb2 := hb1.keep ho2 (fun e => hne e.symm)
        by_cases hjc : j < cc
        · have q4 := hb2.cell (4 + j)
          rw [u8_get _ _ _ (by omega), (unhide Hqj) j (by omega)] at q4
          have q5 := hs.cell (60 * i + j)
          rw [u8_get _ _ _ (by omega)] at q5
          have z5 := hs.free (60 * i + j)
          have s5 := hs.setCell (60 * i + j) (.int .u8 (x (60 * i + j) : Int))
          rw [u8_set] at s5
          have ee : tabV n (u8f (fun t => if t = 60 * i + j then x (60 * i + j) else if t < 60 * i + j then x t else 0)) = tabV n (u8f (fun t => if t < 60 * i + (j + 1) then x t else 0)) := by
            apply u8_congr
            intro t ht
            by_cases e : t = 60 * i + j
            · subst e; rw [if_pos rfl, if_pos (by omega)]
            · rw [if_neg e]
              by_cases e' : t < 60 * i + j
              · rw [if_pos e', if_pos (by omega)]
              · rw [if_neg e', if_neg (by omega)]
          rw [ee] at s5
          have Hs := hide s5
          clear s5 ee
          generalize (if 60 * i + j < 60 * i + j then x (60 * i + j) else 0) = z at *
          generalize x (60 * i + j) = y at *
          have a1 : decide ((j : Int) < (cc : Int)) = true := by simp; omega
          have a2 : decide (((60 * i + j : Nat) : Int) < (n : Int)) = true := by simp; omega
          have a3 : ((60 * i + j : Nat) : Int) < (n : Int) := by omega
          have a4 : (4 : Int) + (j : Int) < 64 := by omega
          have a5 : j < cc := hjc
          have a6 : 60 * i + j < n := by omega
          generalize hat : 60 * i + j = at_ at *
          go_wp2_with fail
          go_roundw
          case rel => exact ⟨j + 1, by omega, by rw [← Nat.add_assoc, hat]; go_num, by go_num, unhide Hs, ho2.setCell (p := ⟨w.heap.size, at_, none⟩) (fun _ => rfl) _⟩
          case measure => simp [intOf]; omega
        · obtain rfl : j = cc := by omega
          have C3 := onext_any (w := wr) gb (blkF D b) (by rw [q1]; exact q3) hb2
          rw [q1] at C3
          have C3 := hide C3
          have a1 : ¬ j < j := by omega
          have a2 : decide ((j : Int) < (j : Int)) = false := by simp
          have hoA : Only (fun _ => False) w wr := ho1'.trans ho2 (fun i hi e => by omega)
          have eA : (60 * i + j : Nat) = min (60 * (i + 1)) n := by
            by_cases h0 : i = 0
            · subst h0; omega
            · have := hqi h0; omega
          have ee : tabV n (u8f (fun t => if t < 60 * i + j then x t else 0)) = tabV n (u8f (fun t => if t < 60 * (i + 1) then x t else 0)) := by
            apply u8_congr
            intro t ht
            by_cases e : t < 60 * i + j
            · rw [if_pos e, if_pos (by omega)]
            · rw [if_neg e, if_neg (by omega)]
          rw [ee] at hs
          have Hs := hide hs
          have HeA := hide eA
          clear hs ee eA
          generalize 60 * i + j = at_ at *
          go_wp2_with fail
          refine (unhide C3).mono ?_
          rintro e w3 ⟨rfl, rfl⟩
          go_wp2_with fail
          go_roundw
          case rel => exact ⟨i + 1, by omega, by rw [unhide HeA], by rw [unhide Hb'], by go_num, unhide Hs, hoA⟩
          case measure => simp [intOf]; omega
    · obtain rfl : i = nB n := by omega
      have hz := (unhide Hl).zero (nB n) (by omega)
      have ee : tabV n (u8f (fun j => if j < 60 * nB n then x j else 0)) = tabV n (u8f x) := u8_congr _ (fun j hj => by rw [if_pos (by omega)])
      rw [ee] at hs
      rw [hz]
      have Hs := hide hs
      clear hs ee hz
      generalize nB n = bb at *
      by_cases hb3 : bb < 3
      · have a1 : decide ((bb : Int) < 3) = true := by simp; omega
        go_wp2_with fail
        go_ret
        exact ⟨rfl, unhide Hs, ho⟩
      · have a1 : decide ((bb : Int) < 3) = false := by simp; omega
        go_wp2_with fail
        go_ret
        exact ⟨rfl, unhide Hs, ho⟩

set_option maxRecDepth 100000 in
set_option maxHeartbeats 2000000 in
theorem holds_any (h : SAt w s d tab hd us nf rt) (hv : DevAt w d D B recs F) (id : Nat) (hid : id < 49) (hl : Lies D k n x ch) (hn : n ≤ 180) (hfi : (tab id).first = ch.getD 0 0) (v : Value) (y : Nat → Nat) (hy : BytesAt w v n y) :
    Calls Tryz.prog 202 #[.pointer (some ⟨s, 0, none⟩), .int .i64 id, v] w fun e w' => (∃ r, e = .returned (.bool r) ∧ (r = true ↔ ∀ j, j < n → x j = y j)) ∧ Only (fun _ => False) w w' := by
  obtain ⟨va, vc, rfl, hyc⟩ := hy
  have c3 := (h.ent id 3 hid (by omega)).1
  simp only [entCell] at c3
  rw [hfi] at c3
  have hid' : (id : Int) < 49 := by omega
  have hsl := Has.lt h
  have hfull := nB_full n hn
  have hlen := hl.len
  have h3 := hl.le3
  rw [hlen] at h3
  have Hl := hide hl
  clear hfi hl
  go_enter Tryz.func202, Tryz.ntmps202
  go_wp2_with fail
  go_loopw [7, 8, 9] (fun av bv iv wr => ∃ i : Nat, i ≤ nB n ∧ av = .int .i64 ((min (60 * i) n : Nat) : Int) ∧ bv = .int .i64 (ch.getD i 0 : Int) ∧ iv = .int .i64 i ∧ (∀ j, j < 60 * i → j < n → x j = y j) ∧ Only (fun _ => False) w wr) (fun _ _ iv _ => (3 - intOf iv).toNat)
  case atStart => exact ⟨0, by omega, by simp, rfl, rfl, fun j h1 => by omega, Only.refl _ _⟩
  case round =>
    clear c3
    obtain ⟨i, hi, rfl, rfl, rfl, ha, ho⟩ := hrel
    by_cases hib : i < nB n
    · have hil : i < ch.length := by omega
      obtain ⟨r1, r2⟩ := (unhide Hl).rng i hil
      have q1 := (unhide Hl).b1 i hil
      have q2 := (unhide Hl).b2 i hil
      have q3 := (unhide Hl).nxt (i + 1)
      have qj := (unhide Hl).bj i hil
      generalize ch.getD i 0 = b at *
      generalize hb' : ch.getD (i + 1) 0 = b' at *
      have Hb' := hide hb'
      have C1 := hide (oblock_any (h.keep ho (fun h => h)) (hv.quiet ho) b r2)
      have hb0 : ((b : Int) != 0) = true := by simp; omega
      have hi3 : decide ((i : Int) < 3) = true := by simp; omega
      have hqi := hfull.2 i hib
      have Hqj := hide qj
      have Ha := hide ha
      clear qj hfull hb' ha
      go_wp2_with fail
      refine (unhide C1).mono ?_
      rintro e w1 ⟨rfl, hb1, ho1⟩
      have C2 := ocount_any wr.heap.size (blkF D b) (by rw [q2]; omega) hb1
      rw [q2] at C2
      have C2 := hide C2
      have ho1' := ho.trans ho1 (fun _ _ h => h)
      clear C1 ho ho1
      generalize wr.heap.size = gb at *
      generalize hcc : min 60 (n - 60 * i) = cc at *
      go_wp2_with fail
      refine (unhide C2).mono ?_
      rintro e w2 ⟨rfl, rfl⟩
      go_wp2_with fail
      go_loopw [7, 12] (fun av jv wx => ∃ j : Nat, j ≤ cc ∧ av = .int .i64 ((60 * i + j : Nat) : Int) ∧ jv = .int .i64 j ∧ (∀ t, t < 60 * i + j → t < n → x t = y t) ∧ Only (fun _ => False) w1 wx) (fun _ jv _ => cc - (intOf jv).toNat)
      case atStart =>
        have e1 : min (60 * i) n = 60 * i + 0 := by
          by_cases h0 : i = 0
          · subst h0; omega
          · have := hqi h0; omega
        exact ⟨0, by omega, by rw [e1], rfl, unhide Ha, Only.refl _ _⟩
      case round =>
        clear Ha
        obtain ⟨j, hj, rfl, rfl, ha, ho2⟩ := hrel
        have hb2 := hb1.keep ho2 (fun h => h)
        have Ha := hide ha
        clear ha
        by_cases hjc : j < cc
        · obtain ⟨gy, rfl, hyy⟩ := hyc (by omega)
          have hgyl : gy < w.heap.size := World.block_lt_of_cell? w _ (hyy 0 (by omega))
          have hyA := ho1'.trans ho2 (fun _ _ h => h)
          have q5 : wr.cell? ⟨gy, 60 * i + j, none⟩ = some (.int .u8 (y (60 * i + j) : Int)) := by
            rw [World.cell?_of_block (hyA.block gy hgyl (fun h => h))]; exact hyy _ (by omega)
          have q4 := hb2.cell (4 + j)
          rw [u8_get _ _ _ (by omega), (unhide Hqj) j (by omega)] at q4
          have a1 : decide ((j : Int) < (cc : Int)) = true := by simp; omega
          have a2 : decide (((60 * i + j : Nat) : Int) < (n : Int)) = true := by simp; omega
          have a3 : ((60 * i + j : Nat) : Int) < (n : Int) := by omega
          have a4 : (4 : Int) + (j : Int) < 64 := by omega
          have a6 : 60 * i + j < n := by omega
          generalize hat : 60 * i + j = at_ at *
          generalize hxx : x at_ = xx at *
          generalize hyv : y at_ = yy at *
          have Hx := hide hxx
          have Hy := hide hyv
          clear hxx hyv hyy hyc
          by_cases hxy : xx = yy
          · subst hxy
            have b1 : ((xx : Int) != (xx : Int)) = false := by simp
            go_wp2_with fail
            go_quiet (fail)
            go_wp2_with fail
            go_roundw
            case rel =>
              refine ⟨j + 1, by omega, by rw [← Nat.add_assoc, hat]; go_num, by go_num, ?_, ho2.drewO _⟩
              intro t h1 h2
              by_cases e : t = at_
              · subst e; rw [unhide Hx, unhide Hy]
              · exact unhide Ha t (by omega) h2
            case measure => simp [intOf]; omega
          · have b1 : ((xx : Int) != (yy : Int)) = true := by simp; omega
            have Hxy := hide hxy
            clear hxy
            go_wp2_with fail
            go_quiet (fail)
            go_wp2_with fail
            go_ret
            refine ⟨⟨false, rfl, fun h => (by cases h), fun h => ?_⟩, hyA.drewO _⟩
            have := h at_ a6
            rw [unhide Hx, unhide Hy] at this
            exact absurd this (unhide Hxy)
        · obtain rfl : j = cc := by omega
          have C3 := onext_any (w := wr) gb (blkF D b) (by rw [q1]; exact q3) hb2
          rw [q1] at C3
          have C3 := hide C3
          have a1 : ¬ j < j := by omega
          have a2 : decide ((j : Int) < (j : Int)) = false := by simp
          have hoA : Only (fun _ => False) w wr := ho1'.trans ho2 (fun _ _ h => h)
          have eA : (60 * i + j : Nat) = min (60 * (i + 1)) n := by
            by_cases h0 : i = 0
            · subst h0; omega
            · have := hqi h0; omega
          have hfin : ∀ t, t < 60 * (i + 1) → t < n → x t = y t := fun t h1 h2 => unhide Ha t (by omega) h2
          have Hf := hide hfin
          have HeA := hide eA
          clear hfin eA Ha
          generalize 60 * i + j = at_ at *
          go_wp2_with fail
          refine (unhide C3).mono ?_
          rintro e w3 ⟨rfl, rfl⟩
          go_wp2_with fail
          go_roundw
          case rel => exact ⟨i + 1, by omega, by rw [unhide HeA], by rw [unhide Hb'], by go_num, unhide Hf, hoA⟩
          case measure => simp [intOf]; omega
    · obtain rfl : i = nB n := by omega
      have hz := (unhide Hl).zero (nB n) (by omega)
      have hfin : ∀ t, t < n → x t = y t := fun t h1 => ha t (by omega) h1
      have eA : min (60 * nB n) n = n := by omega
      rw [hz, eA]
      have Hf := hide hfin
      clear hz ha hfin eA
      generalize nB n = bb at *
      have an : ((n : Int) == (n : Int)) = true := by simp
      by_cases hb3 : bb < 3
      · have a1 : decide ((bb : Int) < 3) = true := by simp; omega
        go_wp2_with fail
        go_ret
        exact ⟨⟨true, by first | exact rfl | simp, fun _ => unhide Hf, fun _ => rfl⟩, ho⟩
      · have a1 : decide ((bb : Int) < 3) = false := by simp; omega
        go_wp2_with fail
        go_ret
        exact ⟨⟨true, by first | exact rfl | simp, fun _ => unhide Hf, fun _ => rfl⟩, ho⟩
end
end Go.Proofs.Qxb6500417aGreat
