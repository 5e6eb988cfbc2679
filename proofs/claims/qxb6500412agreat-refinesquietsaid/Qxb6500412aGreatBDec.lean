/-
  OWN WORK. THE B-TREE: decode of a leaf.
-/
import Derived.Test.Qxb6500412aGreatBEnc
namespace Go.Proofs.Qxb6500412aGreat
open Go.RowKit Go.PlainAid
set_option linter.unusedSimpArgs false
set_option linter.unusedVariables false

theorem NdAt.setKind {w : World} {g : Nat} {x : Node} (h : NdAt w g x) (k : Nat) : NdAt (w.setCell ⟨g, 0, none⟩ (.int .i64 (k : Int))) g { x with k := k } := h.set 0 _ _ (fun j hj => by
  by_cases e : j = 0
  · subst e; rfl
  · rw [if_neg e]; unfold ndc; rw [if_neg e, if_neg e])
/-- A leaf's page, field by field. -/
structure LPage (b : ByteArray) (n : Nat) (es : Nat → KV) : Prop where
  sz : b.size = 128
  k : byteAt b 0 = 1
  nn : byteAt b 1 = n
  n3 : n ≤ 3
  kl : ∀ i, i < n → byteAt b (4 + i * 34) = (es i).1.size ∧ (es i).1.size ≤ 16
  vl : ∀ i, i < n → byteAt b (4 + i * 34 + 17) = (es i).2.size ∧ (es i).2.size ≤ 16
  kc : ∀ i, i < n → b.extract (4 + i * 34 + 1) (4 + i * 34 + 1 + (es i).1.size) = (es i).1
  vc : ∀ i, i < n → b.extract (4 + i * 34 + 18) (4 + i * 34 + 18 + (es i).2.size) = (es i).2
def decN (n j : Nat) (es : Nat → KV) : Node := ⟨1, n, cpF (fun t => (es t).1) 0 j nd0.K, cpF (fun t => (es t).2) 0 j nd0.V, nd0.C⟩
set_option maxRecDepth 100000 in
set_option maxHeartbeats 6000000 in
theorem decode_leaf (b : ByteArray) (n : Nat) (es : Nat → KV) (P : LPage b n es) (w : World) :
    Calls Tryz.prog 343 #[.string b] w fun e w' => e = .returned (.tuple #[ndA (decN n n es), .bool true]) ∧ Only (fun _ => False) w w' := by
  have hb := P.sz
  have i0 := wrap_byte b 0 (by omega)
  rw [P.k] at i0
  have i1 := wrap_byte b 1 (by omega)
  rw [P.nn] at i1
  have n3 := P.n3
  have P := hide P
  go_enter Tryz.func343, Tryz.ntmps343
  go_upto_region 2 with (first | (refine wpList_alloc_ndd 2 rfl rfl rfl ?_; intro p w1 hP gP oP) | (refine wpList_alloc_ndd 4 rfl rfl rfl ?_; intro q w2 hQ gQ oQ))
  have hpq : p < q := Nat.lt_of_lt_of_le (Has.lt hP) gQ
  have HP := hide (hP.keep oQ (fun h => h))
  have HQ := hide hQ
  have HO := hide (oP.trans oQ (fun _ _ h => h))
  clear hP hQ oP oQ
  have c0 := (unhide HQ).kind
  have oS := (unhide HQ).o1 0 (.int .i64 1)
  have M1 := hide (show NdAt (w2.setCell ⟨q, 0, none⟩ (.int .i64 1)) q ⟨1, 0, nd0.K, nd0.V, nd0.C⟩ from (unhide HQ).setKind 1)
  have M2 := hide ((unhide HP).keep oS (fun e => by omega))
  have M3 := hide ((unhide HO).trans oS (S := fun _ => False) (fun k hk e => by have := Has.lt (unhide HP); omega))
  clear HQ HP HO oS
  go_upto_region 5 with fail
  generalize w2.setCell ⟨q, 0, none⟩ (.int .i64 1) = w3 at *
  clear c0 i0
  have hp0 : w.heap.size ≤ p := gP
  have c1 := (unhide M1).num
  have oS := (unhide M1).o1 1 (.int .i64 (n : Int))
  have N1 := hide ((unhide M1).setNum n)
  have N2 := hide ((unhide M2).keep oS (fun e => by omega))
  have N3 := hide ((unhide M3).trans oS (S := fun _ => False) (fun k hk e => by omega))
  clear M1 M2 M3 oS
  go_upto_region 6 with fail
  generalize w3.setCell ⟨q, 1, none⟩ (.int .i64 (n : Int)) = w4 at *
  clear c1 i1
  have c0 := (unhide N1).kind.1
  have c1 := (unhide N1).num.1
  have a0 : decide ((n : Int) ≤ 3) = true := decide_eq_true (by omega)
  go_upto_region 8 with fail
  clear c0 c1
  go_loopw [5] (fun iv wr => ∃ j : Nat, j ≤ n ∧ iv = .int .i64 j ∧ NdAt wr q (decN n j es) ∧ NdAt wr p nd0 ∧ Only (fun _ => False) w wr) (fun iv _ => 4 - (intOf iv).toNat)
  case atStart => exact ⟨0, Nat.zero_le _, rfl, by unfold decN; rw [cpF_zero, cpF_zero]; exact unhide N1, unhide N2, unhide N3⟩
  case round =>
    obtain ⟨j, hj, rfl, hQ, hP, hO⟩ := hrel
    clear N1 N2 N3
    have cn := hQ.num.1
    by_cases hs : j < n
    · have a1 : decide ((j : Int) < (n : Int)) = true := decide_eq_true (by omega)
      have a2 : (j : Int) < 4 := by omega
      have PP := unhide P
      have k16 := (PP.kl j hs).2
      have v16 := (PP.vl j hs).2
      have a3 : (4 : Int) + (j : Int) * 34 < 128 := by omega
      have a4 : (4 : Int) + (j : Int) * 34 + 1 + 16 < 128 := by omega
      have a5 : decide (((es j).1.size : Int) > 16) = false := decide_eq_false (by omega)
      have a6 : decide (((es j).2.size : Int) > 16) = false := decide_eq_false (by omega)
      have a5' : decide (16 < ((es j).1.size : Int)) = false := decide_eq_false (by omega)
      have a6' : decide (16 < ((es j).2.size : Int)) = false := decide_eq_false (by omega)
      have KS := hide k16
      have C1 := getStr_any b (4 + j * 34 + 1) (es j).1.size hb (by omega)
      have C2 := getStr_any b (4 + j * 34 + 18) (es j).2.size hb (by omega)
      have e1 : ((4 + j * 34 + 1 : Nat) : Int) = 4 + (j : Int) * 34 + 1 := by omega
      have e2 : ((4 + j * 34 + 18 : Nat) : Int) = 4 + (j : Int) * 34 + 2 + 16 := by omega
      have x2e := (PP.vl j hs).1
      rw [show 4 + j * 34 + 17 = 4 + j * 34 + 1 + 16 by omega] at x2e
      simp only [e1] at C1
      simp only [e2] at C2
      rw [PP.kc j hs] at C1
      rw [PP.vc j hs] at C2
      have C1 := hide C1
      have C2 := hide C2
      have FF := hide (And.intro hQ (And.intro hP hO))
      have q1 : 4 + j * 34 < b.size := by omega
      have q2 : 4 + j * 34 + 1 + 16 < b.size := by omega
      have x2 := wrap_byte b (4 + j * 34 + 1 + 16) q2
      have x1 := wrap_byte b (4 + j * 34) q1
      rw [(PP.kl j hs).1] at x1
      rw [x2e] at x2
      clear hQ hP hO PP
      go_upto_region 10 with fail
      go_upto_region 11 with fail
      go_upto_region 12 with fail
      go_upto_region 13 with fail
      go_upto_region 15 with fail
      go_wp2_with fail
      refine (unhide C1 _).mono ?_
      rintro e w5 ⟨rfl, o5⟩
      have X2 := hide x2
      clear x1 x2
      obtain ⟨hQ, hP, hO⟩ := unhide FF
      have hQ5 := hQ.keep o5 (fun h => h)
      have ck := hQ5.key j (by omega)
      have oS := hQ5.o1 (2 + j) (.string (es j).1)
      have M1 := hide (hQ5.setKey j (by omega) (es j).1)
      have M2 := hide ((hP.keep o5 (fun h => h)).keep oS (fun e => by omega))
      have M3 := hide ((hO.trans o5 (S := fun _ => False) (fun _ _ h => h)).trans oS (S := fun _ => False) (fun k hk e => by omega))
      clear hQ hP hO hQ5 o5 oS FF cn
      go_upto_region 16 with fail
      generalize w5.setCell ⟨q, 2 + j, none⟩ (.string (es j).1) = w6 at *
      clear ck
      go_wp2_with fail
      rw [unhide X2]
      refine (unhide C2 _).mono ?_
      rintro e w7 ⟨rfl, o7⟩
      have hQ7 := (unhide M1).keep o7 (fun h => h)
      have ck := hQ7.val j (by omega)
      have oS := hQ7.o1 (6 + j) (.string (es j).2)
      have N1 := hide (hQ7.setVal j (by omega) (es j).2)
      have N2 := hide (((unhide M2).keep o7 (fun h => h)).keep oS (fun e => by omega))
      have N3 := hide (((unhide M3).trans o7 (S := fun _ => False) (fun _ _ h => h)).trans oS (S := fun _ => False) (fun k hk e => by omega))
      clear M1 M2 M3 hQ7 o7 oS
      go_upto_region 9 with fail
      generalize w7.setCell ⟨q, 6 + j, none⟩ (.string (es j).2) = w8 at *
      clear ck
      go_wp2_with fail
      go_roundw
      case rel =>
        refine ⟨j + 1, by omega, by go_num, ?_, unhide N2, unhide N3⟩
        have h1 := unhide N1
        unfold decN at h1 ⊢
        rw [← cpF_step, ← cpF_step]
        exact h1
      case measure => simp [intOf]; omega
    · have ej : j = n := by omega
      subst ej
      have a1 : decide ((j : Int) < (j : Int)) = false := by simp
      have FF := hide (And.intro hQ (And.intro hP hO))
      clear hQ hP hO
      go_wp2_with (first | (refine wpList_load_nd rfl _ rfl q rfl (unhide FF).1 ?_) | (refine wpList_store_nd rfl _ _ rfl p _ rfl rfl (unhide FF).2.1 ?_; intro w7 hR7 hO7))
      refine bodyPost_ret (res2_nd Tryz.results343 _ rfl hR7) rfl ?_
      exact ⟨rfl, (unhide FF).2.2.trans hO7 (fun k hk e => by omega)⟩
end Go.Proofs.Qxb6500412aGreat
