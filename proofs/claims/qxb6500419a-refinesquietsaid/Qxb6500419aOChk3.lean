/-
  OWN WORK. THE OBJECT STORE's CHECK: the scratch bitmap, soundChain.
-/
import Derived.Test.Qxb6500419aOOpen
namespace Go.Proofs.Qxb6500419a
open Go.RowKit
set_option linter.unusedSimpArgs false
set_option linter.unusedVariables false

def tcell (us : Nat → Nat) (off : Nat) : Value := if off = 0 then .pointer none else scell 0 (fun _ => Ent.zero) (fun _ => 0) us 0 0 off
def TAt (w : World) (t : Nat) (us : Nat → Nat) : Prop := Has w t (tabV 308 (tcell us)) 67
theorem scratch_new : Try.zeroCells67 = tabV 308 (tcell (fun _ => 0)) := store_zero

section
variable {w : World} {t : Nat} {us : Nat → Nat}
theorem TAt.keep {S : Nat → Prop} {w' : World} (h : TAt w t us) (ho : Only S w w') (hS : ¬ S t) : TAt w' t us := Has.keep h ho hS
theorem TAt.word (h : TAt w t us) (k : Nat) (hk : k < 3) : w.cell? ⟨t, 303 + k, none⟩ = some (.int .u64 (us k : Int)) ∧ w.frozen? ⟨t, 303 + k, none⟩ = false := by
  refine ⟨?_, Has.free h _⟩
  rw [Has.cell h, tabV_get _ _ _ (by omega)]
  unfold tcell scell
  rw [if_neg (by omega), if_neg (by omega), if_neg (by omega), if_neg (by omega), if_pos (by omega)]
  have e1 : 303 + k - 303 = k := by omega
  rw [e1]
theorem TAt.setWord (h : TAt w t us) (b : Nat) (hb : b < 3) (x : Nat) : TAt (w.setCell ⟨t, 303 + b, none⟩ (.int .u64 (x : Int))) t (updT us b x) := by
  have := Has.setCell h (303 + b) (.int .u64 (x : Int))
  rw [tabV_set] at this
  unfold TAt
  rw [tabV_congr 308 (g := tcell (updT us b x))] at this
  · exact this
  · intro j hj
    unfold tcell
    by_cases h0 : j = 0
    · rw [if_neg (by omega), if_pos h0, if_pos h0]
    · rw [if_neg h0, if_neg h0]
      unfold scell
      by_cases e : j = 303 + b
      · subst e
        rw [if_pos rfl, if_neg (by omega), if_neg (by omega), if_neg (by omega), if_pos (by omega)]
        have e1 : 303 + b - 303 = b := by omega
        rw [e1, updT_same]
      · rw [if_neg e, if_neg h0, if_neg h0]
        by_cases h3 : 303 ≤ j ∧ j < 306
        · have e2 : j - 303 ≠ b := by omega
          rw [updT_other _ _ _ _ e2]
        · by_cases h1 : j < 295
          · rw [if_pos h1, if_pos h1]
          · rw [if_neg h1, if_neg h1]
            by_cases h2 : j < 303
            · rw [if_pos h2, if_pos h2]
            · have h5 : ¬ j < 306 := by omega
              rw [if_neg h2, if_neg h2, if_neg h5, if_neg h5]

set_option maxRecDepth 100000 in
theorem isUsedT_any (h : TAt w t us) (b : Nat) (hb : b < 145) (hu : us (b / 64) < 18446744073709551616) :
    Calls Try.prog 68 #[.pointer (some ⟨t, 0, none⟩), .int .i64 b] w fun e w' => e = .returned (.bool (usedW us b)) ∧ w = w' := by
  have c := (h.word (b / 64) (by omega)).1
  have hm := omask_fact ⟨b, hb⟩
  simp only at hm
  have e1 := bits_and_u64_nat (us (b / 64)) (2 ^ (b % 64)) hu (pow64 _ (Nat.mod_lt _ (by omega)))
  have e2 := and_pow (us (b / 64)) (b % 64)
  go_enter Try.func68, Try.ntmps68
  have Hm := hide hm
  have H1 := hide e1
  have H2 := hide e2
  clear hm e1 e2
  go_wp2_with fail
  go_ret
  refine ⟨?_, rfl⟩
  show Ending.returned (.bool (bits BinOp.and IntKind.u64 (us (b / 64) : Int) (IntKind.u64.wrap (2 ^ min (IntKind.u64.wrap (bits BinOp.and IntKind.i64 (b : Int) 63)).toNat 64)) != 0)) = _
  rw [unhide Hm, unhide H1, unhide H2]
  rfl
set_option maxRecDepth 100000 in
set_option maxHeartbeats 1000000 in
theorem markT_any (h : TAt w t us) (b : Nat) (hb : b < 145) (hu : wordsOk us) :
    Calls Try.prog 64 #[.pointer (some ⟨t, 0, none⟩), .int .i64 b, .bool true] w fun e w' => e = .returned (.tuple #[]) ∧ TAt w' t (markW us b true) ∧ Only (fun k => k = t) w w' := by
  obtain ⟨c, z⟩ := h.word (b / 64) (by omega)
  have hm := omask_fact ⟨b, hb⟩
  simp only at hm
  have hb6 : b % 64 < 64 := Nat.mod_lt _ (by omega)
  have huw := hu (b / 64) (by omega)
  have b3 : b / 64 < 3 := by omega
  unfold markW
  have e3 := h.setWord (b / 64) b3
  have e1 := bits_or_u64_nat (us (b / 64)) (2 ^ (b % 64)) huw (pow64 _ hb6)
  have e4 := e3 (us (b / 64) ||| 2 ^ (b % 64))
  rw [← e1, ← hm] at e4
  have H4 := hide e4
  have i1 : (b : Int) / 64 < 3 := by omega
  have i2 : (0 : Int) ≤ (b : Int) / 64 := by omega
  clear e1 e3 e4 hm
  go_enter Try.func64, Try.ntmps64
  go_wp2_with fail
  go_region
  all_goals
    go_wp2_with fail
    refine bodyPost_ret (v := .tuple #[]) (by simp [results, Try.results64, go_sem]) rfl ?_
    exact ⟨rfl, (unhide H4).keep ((Only.refl (fun _ => False) _).drew) (fun h => h), (only1 (p := t) (303 + b / 64) _).drew⟩
end

section
variable {w : World} {s d t : Nat} {tab : Nat → Ent} {hd us u : Nat → Nat} {nf rt : Nat} {D B : Nat → Nat} {recs : List Rec} {F : Nat → Prop} {ob : Nat → Ob} {bk : Nat → List Nat} {po : Nat → Ob}

set_option maxRecDepth 100000 in
set_option maxHeartbeats 4000000 in
theorem soundChain_any (hs : SAt w s d tab hd us nf rt) (hv : DevAt w d D B recs F) (ht : TAt w t u) (htF : ¬ F t) (hts : t ≠ s) (hu : wordsOk u) {e : Ent} {o : Ob} (hH : Held D e o) (hnd : o.ch.Nodup) (hun : ∀ b ∈ o.ch, usedW u b = false) :
    Calls Try.prog 43 #[.pointer (some ⟨s, 0, none⟩), .agg #[.int .i64 (e.state : Int), .int .i64 (e.kind : Int), .int .i64 (e.size : Int), .int .i64 (e.first : Int), .int .u32 (e.hash : Int), .int .i64 (e.next : Int)], .pointer (some ⟨t, 0, none⟩)] w
      fun r w' => r = .returned (.bool true) ∧ TAt w' t (markL u o.ch true) ∧ Only (fun k => k = t) w w' := by
  obtain ⟨st, kd, sz, fi, hh, nx⟩ := e
  obtain ⟨ost, k, dat, ch⟩ := o
  have e1 : kd = k := hH.kind
  have e2 : sz = dat.length := hH.size
  have e3 : fi = ch.getD 0 0 := hH.first
  have e4 : hh = hashN (dF dat) k dat.length := hH.hash
  have hk1 : 1 ≤ k := hH.k1
  have hk4 : k ≤ 4 := hH.k4
  have hn : dat.length ≤ 180 := hH.n180
  have hl : Lies D k dat.length (dF dat) ch := hH.lies
  have h8 : ∀ j, j < dat.length → dF dat j < 256 := hH.by8
  have hnd : ch.Nodup := hnd
  have hun : ∀ b ∈ ch, usedW u b = false := hun
  clear hH
  subst e1
  generalize dF dat = x at *
  generalize dat.length = n at *
  subst e2
  show Calls Try.prog 43 #[.pointer (some ⟨s, 0, none⟩), .agg #[.int .i64 (st : Int), .int .i64 (kd : Int), .int .i64 (sz : Int), .int .i64 (fi : Int), .int .u32 (hh : Int), .int .i64 (nx : Int)], .pointer (some ⟨t, 0, none⟩)] w fun r w' => r = .returned (.bool true) ∧ TAt w' t (markL u ch true) ∧ Only (fun k => k = t) w w'
  have hfull := nB_full sz hn
  have hlen := hl.len
  have h3 := hl.le3
  rw [hlen] at h3
  have a1 : decide ((kd : Int) < 1) = false := by simp; omega
  have a2 : decide (4 < (kd : Int)) = false := by simp; omega
  have a3 : decide ((sz : Int) < 0) = false := by simp
  have a4 : decide (180 < (sz : Int)) = false := by simp; omega
  have a5 : (kd : Int) < 4294967296 := by omega
  have hE0 := Has.new w #[.int .i64 (st : Int), .int .i64 (kd : Int), .int .i64 (sz : Int), .int .i64 (fi : Int), .int .u32 (hh : Int), .int .i64 (nx : Int)] 61
  have ho0 : Only (fun k => k = t) w (w.alloc (.cells #[.int .i64 (st : Int), .int .i64 (kd : Int), .int .i64 (sz : Int), .int .i64 (fi : Int), .int .u32 (hh : Int), .int .i64 (nx : Int)] 61)) := (Only.refl _ w).alloc _
  have ho0' : Only (fun _ => False) w (w.alloc (.cells #[.int .i64 (st : Int), .int .i64 (kd : Int), .int .i64 (sz : Int), .int .i64 (fi : Int), .int .u32 (hh : Int), .int .i64 (nx : Int)] 61)) := (Only.refl _ w).alloc _
  have ht0 := ht.keep ho0' (fun h => h)
  have htl := Has.lt ht
  have hgt : w.heap.size ≠ t := by omega
  have C0 := hide (oblocksOf_any sz)
  have HE0 := hide hE0
  have HT0 := hide ht0
  have HO0 := hide ho0
  have Hl := hide hl
  have Hnd := hide hnd
  have Hun := hide hun
  have H8 := hide h8
  have He3 := hide e3
  have He4 := hide e4
  clear hl hnd hun h8 e3 e4 hE0 ho0 ho0' ht0 ht
  go_enter Try.func43, Try.ntmps43
  go_wp2_with fail
  refine ((unhide C0) _).mono ?_
  rintro e w1 ⟨rfl, rfl⟩
  go_wp2_with fail
  go_loopw [8, 9, 10, 11] (fun lv hv bv iv wr => ∃ i : Nat, i ≤ nB sz ∧ lv = .int .i64 ((sz - min (60 * i) sz : Nat) : Int) ∧ hv = .int .u32 (hashN x kd (min (60 * i) sz) : Nat) ∧ bv = .int .i64 (ch.getD i 0 : Nat) ∧ iv = .int .i64 i ∧ TAt wr t (markL u (ch.take i) true) ∧ Has wr w.heap.size #[.int .i64 (st : Int), .int .i64 (kd : Int), .int .i64 (sz : Int), .int .i64 (fi : Int), .int .u32 (hh : Int), .int .i64 (nx : Int)] 61 ∧ Only (fun k => k = t) w wr) (fun _ _ _ iv _ => (3 - intOf iv).toNat)
  case atStart => exact ⟨0, by omega, by simp, by simp [hashN], by rw [unhide He3], rfl, by simpa [markL] using unhide HT0, unhide HE0, unhide HO0⟩
  case round =>
    clear HE0 HT0 HO0 C0
    obtain ⟨i, hi, rfl, rfl, rfl, rfl, ht, hE, ho⟩ := hrel
    by_cases hib : i < nB sz
    · have hil : i < ch.length := by omega
      obtain ⟨r1, r2⟩ := (unhide Hl).rng i hil
      have q0 := (unhide Hl).b0 i hil
      have q1 := (unhide Hl).b1 i hil
      have q2 := (unhide Hl).b2 i hil
      have q3 := (unhide Hl).nxt (i + 1)
      have qd := (unhide Hl).dat i hil
      have hT := markL_take u ch true i hil
      have hmt := (unhide Hl).memTake i
      have hwd := markL_ok hu true _ hmt
      have hus : usedW (markL u (ch.take i) true) (ch.getD i 0) = false := by
        rw [markL_bit hu true _ r2 _ hmt, if_neg, (unhide Hun) _ (getD_mem hil)]
        intro hm
        obtain ⟨j, hj, he⟩ := List.getElem_of_mem hm
        rw [List.getElem_take] at he
        have hjl : j < i := by simp at hj; omega
        have := nodup_inj (unhide Hnd) (i := j) (j := i) (by omega) hil (by rw [getD_in (by omega)]; exact he)
        omega
      have C1 := isUsedT_any ht (ch.getD i 0) r2 (hwd _ (by omega))
      rw [hus] at C1
      have C1 := hide C1
      have C2 := hide (markT_any ht (ch.getD i 0) r2 hwd)
      have HT := hide hT
      have Hqd := hide qd
      clear hT hmt qd hus
      generalize ch.getD i 0 = b at *
      generalize hb' : ch.getD (i + 1) 0 = b' at *
      have Hb' := hide hb'
      clear hb'
      have hsv := hs.keep ho (fun e => hts e.symm)
      have hvv := hv.keep ho (fun y hy e => htF (e ▸ hy))
      have d0 : decide ((i : Int) < (nB sz : Nat)) = true := by simp; omega
      have d1 : decide ((b : Int) < 1) = false := by simp; omega
      have d2 : decide (145 ≤ (b : Int)) = false := by simp; omega
      have hqi := hfull.2 i hib
      have m60 : min (60 * i) sz = 60 * i := by
        by_cases e : i = 0
        · subst e; omega
        · have := hqi e; omega
      rw [m60]
      have hwsz := ho.size
      generalize hnb : nB sz = nb at *
      go_wp2_with fail
      refine (unhide C1).mono ?_
      rintro e w2 ⟨rfl, rfl⟩
      go_wp2_with fail
      refine (unhide C2).mono ?_
      rintro e w2 ⟨rfl, ht2, ho2⟩
      have C3 := hide (oblock_any (hsv.keep ho2 (fun e => hts e.symm)) (hvv.keep ho2 (fun y hy e => htF (e ▸ hy))) b r2)
      have hE2 := hE.keep ho2 hgt
      clear C1 C2 hE
      go_wp2_with fail
      refine (unhide C3).mono ?_
      rintro e w3 ⟨rfl, hb3, ho3⟩
      have ht3 := ht2.keep ho3 (fun h => h)
      have hE3 := hE2.keep ho3 (fun h => h)
      have ho3' := (ho.trans ho2 (fun _ _ h => h)).trans ho3 (fun _ _ h => h.elim)
      have k0 := hb3.cell 0
      have k1 := hb3.cell 1
      have k2 := hb3.cell 2
      have k3 := hb3.cell 3
      rw [u8_get _ _ _ (by omega)] at k0 k1 k2 k3
      rw [q0] at k0
      rw [q1] at k1
      rw [q2] at k2
      rw [(unhide Hqd) 3 (by omega)] at k3
      have p3z : packF kd b' sz x (60 * i) 3 = 0 := rfl
      rw [p3z] at k3
      have f1 := hE3.cell 1
      have HB3 := hide hb3
      have HT3 := hide ht3
      have HE3 := hide hE3
      have HO3 := hide ho3'
      clear C3 hE2 ht2 ho2 ho3 p3z ht hb3 ht3 hE3 ho3' hsv hvv
      generalize w2.heap.size = g at *
      generalize hlf : sz - 60 * i = lf at *
      generalize hcc : min 60 lf = cc at *
      have Hlf := hide hlf
      clear hlf
      by_cases h6 : 60 < lf
      · have e1 : decide (60 < (lf : Int)) = true := by simp; omega
        have e2 : cc = 60 := by omega
        subst e2
        have n1 : ((kd : Int) != (kd : Int)) = false := by simp
        have n2 : ((60 : Int) != 60) = false := by decide
        have n3 : (kd : Int) < 256 := by omega
        have n4 : (60 : Int) < 256 := by decide
        have n5 : (b' : Int) < 256 := by omega
        go_wp2_with fail
        go_quiet (fail)
        have HB4 : Hid (Has (w3.drewN nq) g (tabV 64 (u8f (blkF D b))) 5) := hide ((unhide HB3).keep ((Only.refl (fun _ => False) w3).drewO nq) (fun h => h))
        have HT4 : Hid (TAt (w3.drewN nq) t (markW (markL u (ch.take i) true) b true)) := hide ((unhide HT3).keep ((Only.refl (fun _ => False) w3).drewO nq) (fun h => h))
        have HE4 : Hid (Has (w3.drewN nq) w.heap.size #[.int .i64 (st : Int), .int .i64 (kd : Int), .int .i64 (sz : Int), .int .i64 (fi : Int), .int .u32 (hh : Int), .int .i64 (nx : Int)] 61) := hide ((unhide HE3).keep ((Only.refl (fun _ => False) w3).drewO nq) (fun h => h))
        have HO4 : Hid (Only (fun k => k = t) w (w3.drewN nq)) := hide ((unhide HO3).drewO nq)
        clear HB3 HT3 HE3 HO3 k0 k2 k3 f1 q0 q2
        have k1' := (unhide HB4).cell 1
        rw [u8_get _ _ _ (by omega), q1] at k1'
        clear k1
        generalize w3.drewN nq = w4 at *
        go_wp2_with fail
        go_loop [9, 14] (fun hv jv => ∃ j : Nat, j ≤ 60 ∧ jv = .int .i64 j ∧ hv = .int .u32 (hashN x kd (60 * i + min j 60) : Nat)) (fun _ jv => (60 - intOf jv).toNat)
        case atStart => exact ⟨0, by omega, rfl, by simp⟩
        case round =>
          obtain ⟨j, hj, rfl, rfl⟩ := hrel
          by_cases hj6 : j < 60
          · have g1 : decide ((j : Int) < 60) = true := by simp; omega
            have g2 : (4 : Int) + (j : Int) < 64 := by omega
            have q4 := (unhide HB4).cell (4 + j)
            rw [u8_get _ _ _ (by omega)] at q4
            have q5 : blkF D b (4 + j) = if 60 * i + j < sz then x (60 * i + j) else 0 := by
              rw [(unhide Hqd) (4 + j) (by omega)]
              unfold packF
              rw [if_neg (by omega), if_neg (by omega), if_neg (by omega), if_neg (by omega)]
              have e : 4 + j - 4 = j := by omega
              rw [e]
            rw [q5] at q4
            have hlf := unhide Hlf
            by_cases hjc : j < 60
            · rw [if_pos (by omega)] at q4
              have mj : min j 60 = j := by omega
              have mj1 : min (j + 1) 60 = j + 1 := by omega
              have hS : hashN x kd (60 * i + (j + 1)) = (hashN x kd (60 * i + j) * 31 + x (60 * i + j)) % 4294967296 := rfl
              have hx8 := (unhide H8) (60 * i + j) (by omega)
              have hlt := hashN_lt x kd (by omega) (60 * i + j)
              rw [mj]
              have HSs := hide hS
              have Hm1 := hide mj1
              clear hS mj mj1 q5
              generalize hashN x kd (60 * i + j) = hv at *
              generalize x (60 * i + j) = yy at *
              have b1 : (yy : Int) < 256 := by omega
              have b2 : (hv : Int) < 4294967296 := by omega
              have b3 : decide ((j : Int) < 60) = true := by simp; omega
              go_wp2_with fail
              go_round
              case rel =>
                refine ⟨j + 1, by omega, by go_num, ?_⟩
                rw [unhide Hm1, unhide HSs]
                congr 1
                omega
              case measure => simp [intOf]; omega
            · exact absurd hj6 hjc
          · obtain rfl : j = 60 := by omega
            have mj : min 60 60 = 60 := by omega
            rw [mj]
            clear mj
            have hlf := unhide Hlf
            have eA : 60 * i + 60 = min (60 * (i + 1)) sz := by omega
            have eL : lf - 60 = sz - min (60 * (i + 1)) sz := by omega
            have eC : ((lf - 60 : Nat) : Int) = (lf : Int) - 60 := by omega
            have HA := hide eA
            have HL := hide eL
            have HC := hide eC
            clear eA eL eC
            generalize 60 * i + 60 = mm at *
            go_wp2_with fail
            go_roundw
            case rel => exact ⟨i + 1, by omega, by rw [← unhide HL, unhide HC], by rw [unhide HA], by rw [unhide Hb'], by go_num, by rw [unhide HT]; exact unhide HT4, unhide HE4, unhide HO4⟩
            case measure => simp [intOf]; omega
      · have e1 : decide (60 < (lf : Int)) = false := by simp; omega
        have e2 : cc = lf := by omega
        subst e2
        have n1 : ((kd : Int) != (kd : Int)) = false := by simp
        have n2 : ((cc : Int) != (cc : Int)) = false := by simp
        have n3 : (kd : Int) < 256 := by omega
        have n4 : (cc : Int) < 256 := by omega
        have n5 : (b' : Int) < 256 := by omega
        go_wp2_with fail
        go_quiet (fail)
        have HB4 : Hid (Has (w3.drewN nq) g (tabV 64 (u8f (blkF D b))) 5) := hide ((unhide HB3).keep ((Only.refl (fun _ => False) w3).drewO nq) (fun h => h))
        have HT4 : Hid (TAt (w3.drewN nq) t (markW (markL u (ch.take i) true) b true)) := hide ((unhide HT3).keep ((Only.refl (fun _ => False) w3).drewO nq) (fun h => h))
        have HE4 : Hid (Has (w3.drewN nq) w.heap.size #[.int .i64 (st : Int), .int .i64 (kd : Int), .int .i64 (sz : Int), .int .i64 (fi : Int), .int .u32 (hh : Int), .int .i64 (nx : Int)] 61) := hide ((unhide HE3).keep ((Only.refl (fun _ => False) w3).drewO nq) (fun h => h))
        have HO4 : Hid (Only (fun k => k = t) w (w3.drewN nq)) := hide ((unhide HO3).drewO nq)
        clear HB3 HT3 HE3 HO3 k0 k2 k3 f1 q0 q2
        have k1' := (unhide HB4).cell 1
        rw [u8_get _ _ _ (by omega), q1] at k1'
        clear k1
        generalize w3.drewN nq = w4 at *
        go_wp2_with fail
        go_loop [9, 14] (fun hv jv => ∃ j : Nat, j ≤ 60 ∧ jv = .int .i64 j ∧ hv = .int .u32 (hashN x kd (60 * i + min j cc) : Nat)) (fun _ jv => (60 - intOf jv).toNat)
        case atStart => exact ⟨0, by omega, rfl, by simp⟩
        case round =>
          obtain ⟨j, hj, rfl, rfl⟩ := hrel
          by_cases hj6 : j < 60
          · have g1 : decide ((j : Int) < 60) = true := by simp; omega
            have g2 : (4 : Int) + (j : Int) < 64 := by omega
            have q4 := (unhide HB4).cell (4 + j)
            rw [u8_get _ _ _ (by omega)] at q4
            have q5 : blkF D b (4 + j) = if 60 * i + j < sz then x (60 * i + j) else 0 := by
              rw [(unhide Hqd) (4 + j) (by omega)]
              unfold packF
              rw [if_neg (by omega), if_neg (by omega), if_neg (by omega), if_neg (by omega)]
              have e : 4 + j - 4 = j := by omega
              rw [e]
            rw [q5] at q4
            have hlf := unhide Hlf
            by_cases hjc : j < cc
            · rw [if_pos (by omega)] at q4
              have mj : min j cc = j := by omega
              have mj1 : min (j + 1) cc = j + 1 := by omega
              have hS : hashN x kd (60 * i + (j + 1)) = (hashN x kd (60 * i + j) * 31 + x (60 * i + j)) % 4294967296 := rfl
              have hx8 := (unhide H8) (60 * i + j) (by omega)
              have hlt := hashN_lt x kd (by omega) (60 * i + j)
              rw [mj]
              have HSs := hide hS
              have Hm1 := hide mj1
              clear hS mj mj1 q5
              generalize hashN x kd (60 * i + j) = hv at *
              generalize x (60 * i + j) = yy at *
              have b1 : (yy : Int) < 256 := by omega
              have b2 : (hv : Int) < 4294967296 := by omega
              have b3 : decide ((j : Int) < (cc : Int)) = true := by simp; omega
              go_wp2_with fail
              go_round
              case rel =>
                refine ⟨j + 1, by omega, by go_num, ?_⟩
                rw [unhide Hm1, unhide HSs]
                congr 1
                omega
              case measure => simp [intOf]; omega
            · rw [if_neg (by omega)] at q4
              have mj : min j cc = cc := by omega
              have mj1 : min (j + 1) cc = cc := by omega
              rw [mj]
              have Hm1 := hide mj1
              clear mj mj1 q5
              have b3 : decide ((j : Int) < (cc : Int)) = false := by simp; omega
              have b4 : ¬ j < cc := by omega
              go_wp2_with fail
              go_round
              case rel => exact ⟨j + 1, by omega, by go_num, by rw [unhide Hm1]⟩
              case measure => simp [intOf]; omega
          · obtain rfl : j = 60 := by omega
            have mj : min 60 cc = cc := by omega
            rw [mj]
            clear mj
            have hlf := unhide Hlf
            have eA : 60 * i + cc = min (60 * (i + 1)) sz := by omega
            have eL : sz - min (60 * (i + 1)) sz = 0 := by omega
            have HA := hide eA
            have HL := hide eL
            clear eA eL
            generalize 60 * i + cc = mm at *
            go_wp2_with fail
            go_roundw
            case rel => exact ⟨i + 1, by omega, by rw [unhide HL]; rfl, by rw [unhide HA], by rw [unhide Hb'], by go_num, by rw [unhide HT]; exact unhide HT4, unhide HE4, unhide HO4⟩
            case measure => simp [intOf]; omega
    · obtain rfl : i = nB sz := by omega
      have hz := (unhide Hl).zero (nB sz) (by omega)
      have et : ch.take (nB sz) = ch := List.take_of_length_le (by omega)
      have em : min (60 * nB sz) sz = sz := by have := hfull.1; omega
      rw [et] at ht
      rw [hz, em, ← unhide He4]
      have c4 := hE.cell 4
      have d0 : decide (((nB sz : Nat) : Int) < (nB sz : Nat)) = false := by simp
      have d1 : ((hh : Int) == (hh : Int)) = true := by simp
      clear hz et em
      generalize nB sz = nb at *
      go_wp2_with fail
      go_ret
      exact ⟨by first | exact rfl | simp, ht, ho⟩
end
end Go.Proofs.Qxb6500419a
