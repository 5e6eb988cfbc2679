/-
  OWN WORK. THE OBJECT STORE's CHECK.
-/
import Derived.Test.Qxb6500419aOChk2
import Derived.Test.Qxb6500419aOChk3
namespace Go.Proofs.Qxb6500419a
open Go.RowKit
set_option linter.unusedSimpArgs false
set_option linter.unusedVariables false

theorem words_eq {u v : Nat → Nat} (hu : wordsOk u) (hv : wordsOk v) (gu : ∀ j, 17 ≤ j → (u 2).testBit j = false) (gv : ∀ j, 17 ≤ j → (v 2).testBit j = false) (hb : ∀ b, b < 145 → usedW u b = usedW v b) : ∀ k, k < 3 → u k = v k := by
  intro k hk
  apply Nat.eq_of_testBit_eq
  intro j
  by_cases h64 : j < 64
  · by_cases h145 : k * 64 + j < 145
    · have := hb (k * 64 + j) h145
      unfold usedW at this
      have e1 : (k * 64 + j) / 64 = k := by omega
      have e2 : (k * 64 + j) % 64 = j := by omega
      rwa [e1, e2] at this
    · have : k = 2 := by omega
      subst this
      rw [gu j (by omega), gv j (by omega)]
  · have h2 : 2 ^ 64 ≤ 2 ^ j := Nat.pow_le_pow_right (by omega) (by omega)
    have h3 := hu k hk
    have h4 := hv k hk
    rw [Nat.testBit_lt_two_pow (by omega), Nat.testBit_lt_two_pow (by omega)]

structure ChkI (w : World) (t : Nat) (ob : Nat → Ob) (k : Nat) (wr : World) : Prop where
  ex : ∃ u, TAt wr t u ∧ wordsOk u ∧ (∀ j, 17 ≤ j → (u 2).testBit j = false) ∧ ∀ b, b < 145 → (usedW u b = true ↔ ∃ i, In i ∧ i < k ∧ b ∈ (ob i).ch)
  ho : Only (fun _ => False) w wr

section
variable {w : World} {s d t : Nat} {tab : Nat → Ent} {hd us u : Nat → Nat} {nf rt : Nat} {D B : Nat → Nat} {recs : List Rec} {F : Nat → Prop} {ob : Nat → Ob} {bk : Nat → List Nat} {po : Nat → Ob}

set_option maxRecDepth 100000 in
set_option maxHeartbeats 4000000 in
theorem check_any (h : OS w s d D B recs ob rt F) :
    Calls Try.prog 21 #[.pointer (some ⟨s, 0, none⟩)] w fun e w' => e = .returned (.bool true) ∧ Only (fun _ => False) w w' := by
  obtain ⟨⟨tab, hd, us, nf, bk, hs, hi⟩, hv, hf⟩ := h
  have hsl := Has.lt hs
  have hFi := hv.inn
  have hts : w.heap.size ≠ s := by omega
  have htF : ¬ F w.heap.size := fun h => absurd (hFi _ h) (Nat.lt_irrefl _)
  have ht0 : TAt (w.alloc (.cells Try.zeroCells67 67)) w.heap.size (fun _ => 0) := by
    have := Has.new w Try.zeroCells67 67
    exact (congrArg (fun a => Has (w.alloc (.cells Try.zeroCells67 67)) w.heap.size a 67) scratch_new).mp this
  have hI0 : ChkI w w.heap.size ob 1 (w.alloc (.cells Try.zeroCells67 67)) := by
    refine ⟨⟨fun _ => 0, ht0, fun k hk => by show (0 : Nat) < 18446744073709551616; omega, fun j _ => by simp, fun b hb => ?_⟩, (Only.refl _ w).alloc _⟩
    constructor
    · intro h; unfold usedW at h; simp at h
    · rintro ⟨i, hi, hlt, _⟩; have := hi.1; omega
  have HI0 := hide hI0
  have HS := hide hs
  have HV := hide hv
  have Hi := hide hi
  clear hs hv hi ht0 hI0
  go_enter Try.func21, Try.ntmps21
  go_wp2_with fail
  generalize w.alloc (.cells Try.zeroCells67 67) = w0 at *
  generalize Try.zeroCells67 = zc at *
  generalize htt : w.heap.size = t at *
  have Htt := hide htt
  clear htt
  go_loopw [4, 5, 6] (fun fv lv kv wr => ∃ k : Nat, 1 ≤ k ∧ k ≤ 49 ∧ kv = .int .i64 k ∧ fv = .int .i64 (cntTo (isFree ob) k : Nat) ∧ lv = .int .i64 (cntTo (isLive ob) k : Nat) ∧ ChkI w t ob k wr) (fun _ _ kv _ => (49 - intOf kv).toNat)
  case atStart => exact ⟨1, by omega, by omega, rfl, rfl, rfl, unhide HI0⟩
  case round =>
    clear HI0
    obtain ⟨k, hk1, hk, rfl, rfl, rfl, hC⟩ := hrel
    obtain ⟨⟨u, hT, hw, hg, hb⟩, ho⟩ := hC
    have hS := (unhide HS).keep ho (fun h => h)
    have hV := (unhide HV).quiet ho
    by_cases hk8 : k < 49
    · have hin : In k := ⟨hk1, by omega⟩
      have a1 : decide ((k : Int) ≤ 48) = true := by simp; omega
      have a2 : (k : Int) < 49 := by omega
      have hst := (unhide Hi).rows.st k hin
      have z0 := (hS.state k hk8).1
      have z1 := (hS.ent k 1 hk8 (by omega)).1
      have z2 := (hS.ent k 2 hk8 (by omega)).1
      have z3 := (hS.ent k 3 hk8 (by omega)).1
      have z4 := (hS.ent k 4 hk8 (by omega)).1
      have z5 := (hS.ent k 5 hk8 (by omega)).1
      simp only [entCell] at z0 z1 z2 z3 z4 z5
      have hswr := Has.lt hS
      have hCF : cntTo (isFree ob) (k + 1) = cntTo (isFree ob) k + (if isFree ob k = true then 1 else 0) := rfl
      have hCL : cntTo (isLive ob) (k + 1) = cntTo (isLive ob) k + (if isLive ob k = true then 1 else 0) := rfl
      have hk0 : (k != 0) = true := by simp; omega
      have hcf : cntTo (isFree ob) k ≤ k := cntTo_le _ _
      have hcl : cntTo (isLive ob) k ≤ k := cntTo_le _ _
      by_cases h0 : (ob k).st = 0
      · have hz := ((unhide Hi).rows.free k hin h0).1
        rw [hz] at z0 z1 z2 z3 z4 z5
        simp only [Ent.zero] at z0 z1 z2 z3 z4 z5
        have hlv : liveO (ob k) = false := by unfold liveO; rw [h0]; rfl
        have e1 : isFree ob k = true := by unfold isFree; rw [hk0, h0]; rfl
        have e2 : isLive ob k = false := by unfold isLive; rw [hlv]; simp
        rw [e1, if_pos rfl] at hCF
        rw [e2, if_neg (by simp), Nat.add_zero] at hCL
        have C1 := live_any (hS.keep ((Only.refl (fun _ => False) wr).alloc (.cells #[.int .i64 ((0 : Nat) : Int), .int .i64 ((0 : Nat) : Int), .int .i64 ((0 : Nat) : Int), .int .i64 ((0 : Nat) : Int), .int .u32 ((0 : Nat) : Int), .int .i64 ((0 : Nat) : Int)] 61)) (fun h => h)) (unhide Hi).rows k
        rw [liveI_nat ob k hin, hlv] at C1
        simp only [Int.natCast_zero] at C1
        have C1 := hide C1
        have hC2 : ChkI w t ob (k + 1) (wr.alloc (.cells #[.int .i64 0, .int .i64 0, .int .i64 0, .int .i64 0, .int .u32 0, .int .i64 0] 61)) := by
          refine ⟨⟨u, hT.keep ((Only.refl (fun _ => False) wr).alloc _) (fun h => h), hw, hg, fun b hb' => ?_⟩, ho.alloc _⟩
          rw [hb b hb']
          constructor
          · rintro ⟨i, h1, h2, h3⟩; exact ⟨i, h1, by omega, h3⟩
          · rintro ⟨i, h1, h2, h3⟩
            have : i ≠ k := fun e => by subst e; rw [(unhide Hi).rows.chfree h1 h0] at h3; simp at h3
            exact ⟨i, h1, by omega, h3⟩
        have HC2 := hide hC2
        have HCF := hide hCF
        have HCL := hide hCL
        clear hCF hCL hC2 hS hV hT hb hz
        generalize cntTo (isFree ob) k = cf at *
        generalize cntTo (isLive ob) k = cl at *
        go_wp2_with fail
        refine (unhide C1).mono ?_
        rintro e w2 ⟨rfl, rfl⟩
        go_wp2_with fail
        go_roundw
        case rel => exact ⟨k + 1, by omega, by omega, by go_num, by rw [unhide HCF]; go_num, by rw [unhide HCL]; rfl, unhide HC2⟩
        case measure => simp [intOf]; omega
      · have hH := (unhide Hi).rows.held k hin h0
        have hle := (unhide Hi).rows.le3 k hin
        have e1 : isFree ob k = false := by unfold isFree; have : ((ob k).st == 0) = false := by simpa using h0
                                            rw [this]; simp
        have e2 : isLive ob k = liveO (ob k) := by unfold isLive; rw [hk0]; simp
        rw [e1, if_neg (by simp), Nat.add_zero] at hCF
        rw [e2] at hCL
        have hnd := (unhide Hi).rows.nodup k hin
        have hun : ∀ b ∈ (ob k).ch, usedW u b = false := by
          intro b hbm
          cases hub : usedW u b with
          | false => rfl
          | true =>
            obtain ⟨i, h1, h2, h3⟩ := (hb b ((unhide Hi).rows.chlt hin b hbm).2).1 hub
            exact absurd hbm ((unhide Hi).rows.disj i k h1 hin (by omega) b h3)
        have C1 := hide (fun (wx : World) (hx : Only (fun _ => False) wr wx) => soundChain_any (hS.keep hx (fun h => h)) (hV.quiet hx) (hT.keep hx (fun h => h)) htF hts hw hH hnd hun)
        have C2 := hide (fun (wx : World) (hx : Only (fun k => k = t) wr wx) => live_any (hS.keep hx (fun e => hts e.symm)) (unhide Hi).rows k)
        have hlt' : ∀ b ∈ (ob k).ch, b < 145 := fun b hbm => ((unhide Hi).rows.chlt hin b hbm).2
        have hbits : ∀ b, b < 145 → (usedW (markL u (ob k).ch true) b = true ↔ ∃ i, In i ∧ i < k + 1 ∧ b ∈ (ob i).ch) := by
          intro b hb'
          rw [markL_bit hw true b hb' _ hlt']
          by_cases hm : b ∈ (ob k).ch
          · rw [if_pos hm]; exact ⟨fun _ => ⟨k, hin, by omega, hm⟩, fun _ => rfl⟩
          · rw [if_neg hm, hb b hb']
            constructor
            · rintro ⟨i, h1, h2, h3⟩; exact ⟨i, h1, by omega, h3⟩
            · rintro ⟨i, h1, h2, h3⟩
              have : i ≠ k := fun e => hm (e ▸ h3)
              exact ⟨i, h1, by omega, h3⟩
        have Hbits := hide hbits
        have hw2 := markL_ok hw true _ hlt'
        have hg2 := markL_high (us := u) true _ u hw hg hlt'
        have HCF := hide hCF
        have HCL := hide hCL
        have hnz : (tab k).state ≠ 0 := by rw [hst]; exact h0
        have hn3 : (tab k).state ≤ 3 := by rw [hst]; exact hle
        clear hCF hCL hS hV hT hb hbits hun hH hnd hst hle
        generalize (tab k).state = f0 at *
        generalize (tab k).kind = f1 at *
        generalize (tab k).size = f2 at *
        generalize (tab k).first = f3 at *
        generalize (tab k).hash = f4 at *
        generalize (tab k).next = f5 at *
        generalize cntTo (isFree ob) k = cf at *
        generalize cntTo (isLive ob) k = cl at *
        have b0 : ((f0 : Int) == 0) = false := ne_intO (by omega)
        have b1 : decide ((f0 : Int) < 0) = false := by simp
        have b2 : decide (3 < (f0 : Int)) = false := by simp; omega
        have oA : Only (fun _ => False) wr (wr.alloc (.cells #[.int .i64 (f0 : Int), .int .i64 (f1 : Int), .int .i64 (f2 : Int), .int .i64 (f3 : Int), .int .u32 (f4 : Int), .int .i64 (f5 : Int)] 61)) := (Only.refl _ wr).alloc _
        have C3 := hide ((unhide C1) _ oA)
        clear C1
        go_wp2_with fail
        refine (unhide C3).mono ?_
        rintro e w2 ⟨rfl, hT2, ho2⟩
        have oB : Only (fun k => k = t) wr w2 := (oA.mono (fun _ _ h => h.elim)).trans ho2 (fun _ _ h => h)
        have C4 := (unhide C2) w2 oB
        rw [liveI_nat ob k hin] at C4
        have hwz := ho.size
        have oC : Only (fun _ => False) w w2 := ho.trans oB (fun i hi e => by have := unhide Htt; omega)
        clear C2 C3
        cases hlv : liveO (ob k) with
        | true =>
          rw [hlv] at C4 HCL
          have C4 := hide C4
          go_wp2_with fail
          refine (unhide C4).mono ?_
          rintro e w3 ⟨rfl, rfl⟩
          go_wp2_with fail
          go_roundw
          case rel => exact ⟨k + 1, by omega, by omega, by go_num, by rw [unhide HCF]; rfl, by rw [unhide HCL, if_pos (by trivial)]; go_num, ⟨⟨_, hT2, hw2, hg2, unhide Hbits⟩, oC⟩⟩
          case measure => simp [intOf]; omega
        | false =>
          rw [hlv] at C4 HCL
          have C4 := hide C4
          go_wp2_with fail
          refine (unhide C4).mono ?_
          rintro e w3 ⟨rfl, rfl⟩
          go_wp2_with fail
          go_roundw
          case rel => exact ⟨k + 1, by omega, by omega, by go_num, by rw [unhide HCF]; rfl, by rw [unhide HCL, if_neg (by simp)]; rfl, ⟨⟨_, hT2, hw2, hg2, unhide Hbits⟩, oC⟩⟩
          case measure => simp [intOf]; omega
    · obtain rfl : k = 49 := by omega
      have hR := (unhide Hi).rows
      have hweq := words_eq hw hR.words hg hR.high (fun b hb' => by
        have h1 := hb b hb'
        have h2 := hR.used b hb'
        have h3 : usedW u b = true ↔ usedW us b = true := by
          rw [h1, h2]
          constructor
          · rintro ⟨i, a, _, c⟩; exact ⟨i, a, c⟩
          · rintro ⟨i, a, c⟩; exact ⟨i, a, by have := a.2; omega, c⟩
        cases e1 : usedW u b <;> cases e2 : usedW us b <;> simp_all)
      have t0 := (hT.word 0 (by omega)).1
      have t1 := (hT.word 1 (by omega)).1
      have t2 := (hT.word 2 (by omega)).1
      rw [hweq 0 (by omega)] at t0
      rw [hweq 1 (by omega)] at t1
      rw [hweq 2 (by omega)] at t2
      have v0 := (hS.word 0 (by omega)).1
      have v1 := (hS.word 1 (by omega)).1
      have v2 := (hS.word 2 (by omega)).1
      have vf := hS.nfree.1
      have hnf := hR.nfree
      have hcf : cntTo (isFree ob) 49 = nf := hnf.symm
      have hcl : cntTo (isLive ob) 49 = cntL ob := rfl
      rw [hcf, hcl]
      have C1 := hide (fun (wx : World) (hx : Only (fun _ => False) w wx) => soundSuper_any ((unhide HS).keep hx (fun h => h)) ((unhide HV).quiet hx) hR (unhide Hi).super)
      have C2 := hide (fun (wx : World) (hx : Only (fun _ => False) w wx) => soundBuckets_any ((unhide HS).keep hx (fun h => h)) hR (unhide Hi).bucks (cntL ob) rfl)
      have C3 := hide (fun (wx : World) (hx : Only (fun _ => False) w wx) => noTwins_any ((unhide HS).keep hx (fun h => h)) ((unhide HV).quiet hx) hR (unhide Hi).twl)
      clear hweq hT hS hV hb hR hnf hcf hcl hw hg
      generalize us 0 = x0 at *
      generalize us 1 = x1 at *
      generalize us 2 = x2 at *
      generalize cntL ob = cl at *
      have n0 : ((nf : Int) != (nf : Int)) = false := by simp
      have n1 : ((x0 : Int) != (x0 : Int)) = false := by simp
      have n2 : ((x1 : Int) != (x1 : Int)) = false := by simp
      have n3 : ((x2 : Int) != (x2 : Int)) = false := by simp
      go_wp2_with fail
      go_quiet (fail)
      have ho1 : Only (fun _ => False) w (wr.drewN nq) := ho.drewO nq
      have C1' := hide ((unhide C1) _ ho1)
      generalize wr.drewN nq = wq at *
      go_wp2_with fail
      refine (unhide C1').mono ?_
      rintro e w2 ⟨rfl, ho2⟩
      have ho2' := ho1.trans ho2 (fun _ _ h => h)
      have C2' := hide ((unhide C2) _ ho2')
      have C3' := hide ((unhide C3) _ ho2')
      clear C1 C2 C3 C1'
      go_wp2_with fail
      refine (unhide C2').mono ?_
      rintro e w3 ⟨rfl, rfl⟩
      go_wp2_with fail
      refine (unhide C3').mono ?_
      rintro e w3 ⟨rfl, ho3⟩
      go_wp2_with fail
      go_ret
      exact ⟨rfl, ho2'.trans ho3 (fun _ _ h => h)⟩
end
end Go.Proofs.Qxb6500419a
