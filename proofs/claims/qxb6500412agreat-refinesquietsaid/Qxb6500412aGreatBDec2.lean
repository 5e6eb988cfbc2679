/-
  OWN WORK. THE B-TREE: decode of an inner node.
-/
import Derived.Test.Qxb6500412aGreatBDec
namespace Go.Proofs.Qxb6500412aGreat
open Go.RowKit Go.PlainAid
set_option linter.unusedSimpArgs false
set_option linter.unusedVariables false

/-- An inner node's page, field by field. -/
structure IPage (b : ByteArray) (n : Nat) (kids : Nat → Nat) (seps : Nat → ByteArray) : Prop where
  sz : b.size = 128
  k : byteAt b 0 = 2
  nn : byteAt b 1 = n
  n1 : 1 ≤ n
  n4 : n ≤ 4
  kd : ∀ i, i < n → byteAt b (4 + i) = kids i
  kl : ∀ i, i + 1 < n → byteAt b (8 + i * 17) = (seps i).size ∧ (seps i).size ≤ 16
  kc : ∀ i, i + 1 < n → b.extract (8 + i * 17 + 1) (8 + i * 17 + 1 + (seps i).size) = seps i
def decI (n c j : Nat) (kids : Nat → Nat) (seps : Nat → ByteArray) : Node := ⟨2, n, cpF seps 0 j nd0.K, nd0.V, cpF kids 0 c nd0.C⟩
set_option maxRecDepth 100000 in
set_option maxHeartbeats 6000000 in
theorem decode_inner (b : ByteArray) (n : Nat) (kids : Nat → Nat) (seps : Nat → ByteArray) (P : IPage b n kids seps) (w : World) :
    Calls Tryz.prog 343 #[.string b] w fun e w' => e = .returned (.tuple #[ndA (decI n n (n - 1) kids seps), .bool true]) ∧ Only (fun _ => False) w w' := by
  have hb := P.sz
  have i0 := wrap_byte b 0 (by omega)
  rw [P.k] at i0
  have n4 := P.n4
  have n1 := P.n1
  have i1 := wrap_byte b 1 (by clear i0; omega)
  rw [P.nn] at i1
  have P := hide P
  go_enter Tryz.func343, Tryz.ntmps343
  go_upto_region 2 with (first | (refine wpList_alloc_ndd 2 rfl rfl rfl ?_; intro p w1 hP gP oP) | (refine wpList_alloc_ndd 4 rfl rfl rfl ?_; intro q w2 hQ gQ oQ))
  have hpq : p < q := Nat.lt_of_lt_of_le (Has.lt hP) gQ
  have hp0 : w.heap.size ≤ p := gP
  have HP := hide (hP.keep oQ (fun h => h))
  have HQ := hide hQ
  have HO := hide (oP.trans oQ (fun _ _ h => h))
  clear hP hQ oP oQ
  have c0 := (unhide HQ).kind
  have oS := (unhide HQ).o1 0 (.int .i64 2)
  have M1 := hide (show NdAt (w2.setCell ⟨q, 0, none⟩ (.int .i64 2)) q ⟨2, 0, nd0.K, nd0.V, nd0.C⟩ from (unhide HQ).setKind 2)
  have M2 := hide ((unhide HP).keep oS (fun e => by omega))
  have M3 := hide ((unhide HO).trans oS (S := fun _ => False) (fun k hk e => by omega))
  clear HQ HP HO oS
  go_upto_region 5 with fail
  generalize w2.setCell ⟨q, 0, none⟩ (.int .i64 2) = w3 at *
  clear c0 i0
  have c1 := (unhide M1).num
  have oS := (unhide M1).o1 1 (.int .i64 (n : Int))
  have N1 := hide ((unhide M1).setNum n)
  have N2 := hide ((unhide M2).keep oS (fun e => by omega))
  have N3 := hide ((unhide M3).trans oS (S := fun _ => False) (fun k hk e => by omega))
  clear M1 M2 M3 oS
  go_upto_region 6 with fail
  generalize w3.setCell ⟨q, 1, none⟩ (.int .i64 (n : Int)) = w4 at *
  clear c1 i1
  have c0 := (unhide N1).kind.1
  have c1 := (unhide N1).num.1
  have a0 : decide ((n : Int) ≤ 4) = true := decide_eq_true (by omega)
  have a1 : decide ((n : Int) ≥ 1) = true := decide_eq_true (by omega)
  have a1' : decide (1 ≤ (n : Int)) = true := decide_eq_true (by omega)
  go_upto_region 20 with fail
  clear c0 c1
  go_loopw [9] (fun iv wr => ∃ j : Nat, j ≤ n ∧ iv = .int .i64 j ∧ NdAt wr q (decI n j 0 kids seps) ∧ NdAt wr p nd0 ∧ Only (fun _ => False) w wr) (fun iv _ => 5 - (intOf iv).toNat)
  case atStart => exact ⟨0, Nat.zero_le _, rfl, by unfold decI; rw [cpF_zero, cpF_zero]; exact unhide N1, unhide N2, unhide N3⟩
  case round =>
    obtain ⟨j, hj, rfl, hQ, hP, hO⟩ := hrel
    clear N1 N2 N3
    have cn : wr.cell? ⟨q, 1, none⟩ = some (.int .i64 (n : Int)) := hQ.num.1
    by_cases hs : j < n
    · have a1 : decide ((j : Int) < (n : Int)) = true := decide_eq_true (by omega)
      have a2 : (j : Int) < 5 := by omega
      have a3 : 4 + (j : Int) < 128 := by omega
      have ck := hQ.kid j (by omega)
      have oS := hQ.o1 (10 + j) (.int .i64 (kids j : Int))
      have M1 := hide (hQ.setKid j (by omega) (kids j))
      have M2 := hide (hP.keep oS (fun e => by omega))
      have M3 := hide (hO.trans oS (S := fun _ => False) (fun k hk e => by omega))
      have q1 : 4 + j < b.size := by omega
      clear hQ hP hO oS
      have x1 := wrap_byte b (4 + j) q1
      rw [(unhide P).kd j hs] at x1
      go_upto_region 21 with fail
      clear x1
      generalize wr.setCell ⟨q, 10 + j, none⟩ (.int .i64 (kids j : Int)) = w8 at *
      clear ck cn
      go_wp2_with fail
      go_roundw
      case rel =>
        refine ⟨j + 1, by omega, by go_num, ?_, unhide M2, unhide M3⟩
        have h1 := unhide M1
        unfold decI at h1 ⊢
        rw [← cpF_step]
        exact h1
      case measure => simp [intOf]; omega
    · have ej : j = n := by omega
      subst ej
      have a1 : decide ((j : Int) < (j : Int)) = false := by simp
      have FF := hide (And.intro hQ (And.intro hP hO))
      clear hQ hP hO
      go_upto_region 24 with fail
      clear cn
      go_loopw [10] (fun iv wr => ∃ i : Nat, i + 1 ≤ j ∧ iv = .int .i64 i ∧ NdAt wr q (decI j j i kids seps) ∧ NdAt wr p nd0 ∧ Only (fun _ => False) w wr) (fun iv _ => 5 - (intOf iv).toNat)
      case atStart => exact ⟨0, by omega, rfl, (unhide FF).1, (unhide FF).2.1, (unhide FF).2.2⟩
      case round =>
        obtain ⟨i, hi, rfl, hQ, hP, hO⟩ := hrel
        clear FF
        have cn : wr.cell? ⟨q, 1, none⟩ = some (.int .i64 (j : Int)) := hQ.num.1
        by_cases hs : i + 1 < j
        · have a1 : decide ((i : Int) + 1 < (j : Int)) = true := decide_eq_true (by omega)
          have a2 : (i : Int) < 4 := by omega
          have PP := unhide P
          have k16 := (PP.kl i hs).2
          have a3 : (8 : Int) + (i : Int) * 17 < 128 := by omega
          have a5 : decide (((seps i).size : Int) > 16) = false := decide_eq_false (by omega)
          have a5' : decide (16 < ((seps i).size : Int)) = false := decide_eq_false (by omega)
          have C1 := getStr_any b (8 + i * 17 + 1) (seps i).size hb (by omega)
          have e1 : ((8 + i * 17 + 1 : Nat) : Int) = 8 + (i : Int) * 17 + 1 := by omega
          simp only [e1] at C1
          rw [PP.kc i hs] at C1
          have C1 := hide C1
          have FF := hide (And.intro hQ (And.intro hP hO))
          have q1 : 8 + i * 17 < b.size := by omega
          clear hQ hP hO
          have x1 := wrap_byte b (8 + i * 17) q1
          rw [(PP.kl i hs).1] at x1
          clear PP
          go_upto_region 26 with fail
          go_upto_region 27 with fail
          go_upto_region 28 with fail
          go_upto_region 30 with fail
          go_wp2_with fail
          refine (unhide C1 _).mono ?_
          rintro e w5 ⟨rfl, o5⟩
          clear x1
          obtain ⟨hQ, hP, hO⟩ := unhide FF
          have hQ5 := hQ.keep o5 (fun h => h)
          have ck := hQ5.key i (by omega)
          have oS := hQ5.o1 (2 + i) (.string (seps i))
          have M1 := hide (hQ5.setKey i (by omega) (seps i))
          have M2 := hide ((hP.keep o5 (fun h => h)).keep oS (fun e => by omega))
          have M3 := hide ((hO.trans o5 (S := fun _ => False) (fun _ _ h => h)).trans oS (S := fun _ => False) (fun k hk e => by omega))
          clear hQ hP hO hQ5 o5 oS FF cn
          go_upto_region 25 with fail
          generalize w5.setCell ⟨q, 2 + i, none⟩ (.string (seps i)) = w6 at *
          clear ck
          go_wp2_with fail
          go_roundw
          case rel =>
            refine ⟨i + 1, by omega, by go_num, ?_, unhide M2, unhide M3⟩
            have h1 := unhide M1
            unfold decI at h1 ⊢
            rw [← cpF_step (i := i)]
            exact h1
          case measure => simp [intOf]; omega
        · have ei : i = j - 1 := by omega
          have a1 : decide ((i : Int) + 1 < (j : Int)) = false := decide_eq_false (by omega)
          have FF := hide (And.intro hQ (And.intro hP hO))
          clear hQ hP hO
          go_wp2_with (first | (refine wpList_load_nd rfl _ rfl q rfl (unhide FF).1 ?_) | (refine wpList_store_nd rfl _ _ rfl p _ rfl rfl (unhide FF).2.1 ?_; intro w7 hR7 hO7))
          refine bodyPost_ret (res2_nd Tryz.results343 _ rfl hR7) rfl ?_
          subst ei
          exact ⟨rfl, (unhide FF).2.2.trans hO7 (fun k hk e => by omega)⟩
end Go.Proofs.Qxb6500412aGreat
