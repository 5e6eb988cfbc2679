/-
  OWN WORK. THE B-TREE: split
-/
import Derived.Test.Qxb6500412aGreatBWh
namespace Go.Proofs.Qxb6500412aGreat
open Go.RowKit Go.PlainAid
set_option linter.unusedSimpArgs false
set_option linter.unusedVariables false
/-- The first i places come from h, o further on. -/
def cpF {α : Type} (h : Nat → α) (o i : Nat) (f : Nat → α) : Nat → α := fun t => if t < i then h (t + o) else f t
theorem cpF_step {α : Type} (h : Nat → α) (o i : Nat) (f : Nat → α) : upF (cpF h o i f) i (h (i + o)) = cpF h o (i + 1) f := by
  funext t
  unfold upF cpF
  by_cases e : t = i
  · subst e; rw [if_pos rfl, if_pos (by omega)]
  · rw [if_neg e]
    by_cases h2 : t < i
    · rw [if_pos h2, if_pos (by omega)]
    · rw [if_neg h2, if_neg (by omega)]
theorem cpF_zero {α : Type} (h : Nat → α) (o : Nat) (f : Nat → α) : cpF h o 0 f = f := by
  funext t
  unfold cpF
  rw [if_neg (by omega)]
theorem cpF_lt {α : Type} (h : Nat → α) (o i : Nat) (f : Nat → α) (t : Nat) (ht : t < i) : cpF h o i f t = h (t + o) := by
  unfold cpF
  rw [if_pos ht]
structure Split (x a b : Node) (up : ByteArray) : Prop where
  ak : a.k = x.k
  an : a.n = 2
  av : ∀ t, t < 2 → a.K t = x.K t ∧ a.V t = x.V t ∧ a.C t = x.C t
  bk : b.k = x.k
  bn : b.n + 2 = x.n
  bv : ∀ t, t < 2 → b.K t = x.K (t + 2) ∧ b.V t = x.V (t + 2)
  bc : ∀ t, t < b.n → b.C t = x.C (t + 2)
  up : up = if x.k = 1 then x.K 2 else x.K 1
def bE : ByteArray := ⟨#[]⟩
set_option maxRecDepth 100000 in
set_option maxHeartbeats 6000000 in
theorem split_any (x : Node) (h4 : 4 ≤ x.n) (h5 : x.n ≤ 5) (w : World) :
    Calls Tryz.prog 340 #[ndA x] w fun e w' => ∃ (a b : Node) (up : ByteArray), e = .returned (.tuple #[ndA a, ndA b, .string up]) ∧ Split x a b up ∧ Only (fun _ => False) w w' := by
  obtain ⟨n, hn⟩ : ∃ n, x.n = n + 2 := ⟨x.n - 2, by omega⟩
  have Hn := hide hn
  have e2 : (x.n : Int) - 2 = (n : Int) := by omega
  clear hn
  go_enter Tryz.func340, Tryz.ntmps340
  go_upto_region 1 with (first | (refine wpList_box_nd rfl _ rfl x rfl ?_; intro g w1 hG gG oG) | (refine wpList_alloc_ndd 2 rfl rfl rfl ?_; intro p w2 hP gP oP) | (refine wpList_alloc_ndd 3 rfl rfl rfl ?_; intro q w3 hQ gQ oQ))
  have hgp : g < p := Nat.lt_of_lt_of_le (Has.lt hG) gP
  have hpq : p < q := Nat.lt_of_lt_of_le (Has.lt hP) gQ
  have hG3 := (hG.keep oP (fun h => h)).keep oQ (fun h => h)
  have hP3 := hP.keep oQ (fun h => h)
  have o3 := (oG.trans oP (fun _ _ h => h)).trans oQ (fun _ _ h => h)
  have GG := hide hG3
  have PP := hide hP3
  have QQ := hide hQ
  have OO := hide o3
  have ck := hG3.kind.1
  have cn := hG3.num.1
  clear hG hP hQ oG oP oQ hG3 hP3 o3 gP gQ
  clear w1 w2
  go_upto_region 3 with (first | (refine wpList_alloc_ndd 5 rfl rfl rfl ?_; intro l w4 hL gL oL) | (refine wpList_store_nd rfl _ _ rfl l ⟨x.k, 2, fun _ => ⟨#[]⟩, fun _ => ⟨#[]⟩, fun _ => 0⟩ rfl rfl hL ?_; intro w5 hL5 oL5; have ck := (((unhide GG).keep oL (fun h => h)).keep oL5 (fun h => by have := Has.lt (unhide GG); omega)).kind.1; have cn := (((unhide GG).keep oL (fun h => h)).keep oL5 (fun h => by have := Has.lt (unhide GG); omega)).num.1) | (refine wpList_alloc_ndd 6 rfl rfl rfl ?_; intro r w6 hR gR oR) | (refine wpList_store_nd rfl _ _ rfl r ⟨x.k, n, fun _ => ⟨#[]⟩, fun _ => ⟨#[]⟩, fun _ => 0⟩ rfl rfl hR ?_; intro w7 hR7 oR7))
  have hql : q < l := Nat.lt_of_lt_of_le (Has.lt (unhide QQ)) gL
  have hlr : l < r := Nat.lt_of_lt_of_le (Has.lt hL5) gR
  have mv : ∀ {b : Nat} {X : Node}, NdAt w3 b X → b < l → NdAt w7 b X := fun h hb => (((h.keep oL (fun h => h)).keep oL5 (fun h => by omega)).keep oR (fun h => h)).keep oR7 (fun h => by omega)
  have G7 := mv (unhide GG) (by omega)
  have P7 := mv (unhide PP) (by omega)
  have Q7 := mv (unhide QQ) (by omega)
  have L7 := (hL5.keep oR (fun h => h)).keep oR7 (fun h => by omega)
  have O7 : Only (fun _ => False) w w7 := ((((unhide OO).trans oL (fun _ _ h => h)).trans oL5 (fun k hk e => by have := (unhide OO).size; omega)).trans oR (fun _ _ h => h)).trans oR7 (fun k hk e => by have := (unhide OO).size; omega)
  have gl : w.heap.size ≤ l := by omega
  have gr : w.heap.size ≤ r := by omega
  have ngl : g ≠ l := by omega
  have ngr : g ≠ r := by omega
  have nlr : l ≠ r := by omega
  have npl : p ≠ l := by omega
  have npr : p ≠ r := by omega
  have nql : q ≠ l := by omega
  have nqr : q ≠ r := by omega
  have npq : p ≠ q := by omega
  have A7 := hide (And.intro G7 (And.intro P7 (And.intro Q7 (And.intro L7 (And.intro hR7 O7)))))
  clear G7 P7 Q7 L7 O7 hR7 mv hL oL hL5 oL5 hR oR oR7 gL gR GG PP QQ OO
  clear ck cn
  go_wp2_with fail
  go_loopw [7] (fun iv wr => ∃ i : Nat, iv = .int .i64 (i : Int) ∧ i ≤ 2 ∧ NdAt wr g x ∧ NdAt wr p nd0 ∧ NdAt wr q nd0 ∧ NdAt wr l ⟨x.k, 2, cpF x.K 0 i (fun _ => bE), cpF x.V 0 i (fun _ => bE), cpF x.C 0 i (fun _ => 0)⟩ ∧ NdAt wr r ⟨x.k, n, fun _ => bE, fun _ => bE, fun _ => 0⟩ ∧ Only (fun _ => False) w wr) (fun iv _ => 2 - (intOf iv).toNat)
  case atStart =>
    obtain ⟨G, P, Q, L, R, O⟩ := unhide A7
    refine ⟨0, rfl, by omega, G, P, Q, ?_, R, O⟩
    rw [cpF_zero, cpF_zero, cpF_zero]
    exact L
  case round =>
    obtain ⟨i, rfl, hi, hG, hP, hQ, hL, hR, hO⟩ := hrel
    clear A7
    by_cases hs : i < 2
    · have a1 : decide ((i : Int) < 2) = true := decide_eq_true (by omega)
      have a2 : (i : Int) < 4 := by omega
      have a3 : (i : Int) < 5 := by omega
      have k1 := (hG.key i (by omega)).1
      have v1 := (hG.val i (by omega)).1
      have c1 := (hG.kid i (by omega)).1
      have k2 := hL.key i (by omega)
      have v2 := hL.val i (by omega)
      have c2 := hL.kid i (by omega)
      have hK := hL.setKey i (by omega) (x.K (i + 0))
      have hV := hK.setVal i (by omega) (x.V (i + 0))
      have hC := hV.setKid i (by omega) (x.C (i + 0))
      simp only [cpF_step] at hC
      simp only [Nat.add_zero] at hC
      have OA := ((hL.o1 (2 + i) (.string (x.K i))).more (6 + i) (.string (x.V i))).more (10 + i) (.int .i64 (x.C i : Int))
      have A8 := hide (And.intro (hG.keep OA ngl) (And.intro (hP.keep OA npl) (And.intro (hQ.keep OA nql) (And.intro hC (And.intro (hR.keep OA nlr.symm) (hO.trans OA (fun k hk e => by omega)))))))
      clear hK hV hC OA hG hP hQ hL hR hO
      go_wp2_with fail
      go_roundw
      case rel =>
        obtain ⟨G, P, Q, L, R, O⟩ := unhide A8
        exact ⟨i + 1, by go_num, by omega, G, P, Q, L, R, O⟩
      case measure => simp [intOf]; omega
    · obtain rfl : i = 2 := by omega
      have A8 := hide (And.intro hG (And.intro hP (And.intro hQ (And.intro hL (And.intro hR hO)))))
      clear hG hP hQ hL hR hO
      go_wp2_with fail
      go_loopw [8] (fun iv wr => ∃ i : Nat, iv = .int .i64 ((i + 2 : Nat) : Int) ∧ i ≤ n ∧ NdAt wr g x ∧ NdAt wr p nd0 ∧ NdAt wr q nd0 ∧ NdAt wr l ⟨x.k, 2, cpF x.K 0 2 (fun _ => bE), cpF x.V 0 2 (fun _ => bE), cpF x.C 0 2 (fun _ => 0)⟩ ∧ NdAt wr r ⟨x.k, n, fun _ => bE, fun _ => bE, cpF x.C 2 i (fun _ => 0)⟩ ∧ Only (fun _ => False) w wr) (fun iv _ => 5 - (intOf iv).toNat)
      case atStart =>
        obtain ⟨G, P, Q, L, R, O⟩ := unhide A8
        refine ⟨0, rfl, by omega, G, P, Q, L, ?_, O⟩
        rw [cpF_zero]
        exact R
      case round =>
        obtain ⟨i, rfl, hi, hG, hP, hQ, hL, hR, hO⟩ := hrel
        clear A8
        have hn := unhide Hn
        have cn := hG.num.1
        by_cases hs : i < n
        · have a1 : decide (((i + 2 : Nat) : Int) < (x.n : Int)) = true := decide_eq_true (by omega)
          have a2 : ((i + 2 : Nat) : Int) < 5 := by omega
          have a3 : (i : Int) < 5 := by omega
          have a4 : ((i + 2 : Nat) : Int) - 2 = (i : Int) := by omega
          have c1 := (hG.kid (i + 2) (by omega)).1
          have c2 := hR.kid i (by omega)
          have hC := hR.setKid i (by omega) (x.C (i + 2))
          simp only [cpF_step] at hC
          have OA := hR.o1 (10 + i) (.int .i64 (x.C (i + 2) : Int))
          have A9 := hide (And.intro (hG.keep OA ngr) (And.intro (hP.keep OA npr) (And.intro (hQ.keep OA nqr) (And.intro (hL.keep OA nlr) (And.intro hC (hO.trans OA (fun k hk e => by omega)))))))
          clear hC OA hG hP hQ hL hR hO hn
          go_wp2_with fail
          go_roundw
          case rel =>
            obtain ⟨G, P, Q, L, R, O⟩ := unhide A9
            exact ⟨i + 1, by go_num, by omega, G, P, Q, L, R, O⟩
          case measure => simp [intOf]; omega
        · obtain rfl : i = n := by omega
          have a1 : decide (((i + 2 : Nat) : Int) < (x.n : Int)) = false := decide_eq_false (by omega)
          have A9 := hide (And.intro hG (And.intro hP (And.intro hQ (And.intro hL (And.intro hR hO)))))
          clear hG hP hQ hL hR hO hn
          go_wp2_with fail
          go_loopw [9] (fun iv wr => ∃ j : Nat, iv = .int .i64 ((j + 2 : Nat) : Int) ∧ j ≤ 2 ∧ NdAt wr g x ∧ NdAt wr p nd0 ∧ NdAt wr q nd0 ∧ NdAt wr l ⟨x.k, 2, cpF x.K 0 2 (fun _ => bE), cpF x.V 0 2 (fun _ => bE), cpF x.C 0 2 (fun _ => 0)⟩ ∧ NdAt wr r ⟨x.k, i, cpF x.K 2 j (fun _ => bE), cpF x.V 2 j (fun _ => bE), cpF x.C 2 i (fun _ => 0)⟩ ∧ Only (fun _ => False) w wr) (fun iv _ => 5 - (intOf iv).toNat)
          case atStart =>
            obtain ⟨G, P, Q, L, R, O⟩ := unhide A9
            refine ⟨0, rfl, by omega, G, P, Q, L, ?_, O⟩
            rw [cpF_zero, cpF_zero]
            exact R
          case round =>
            obtain ⟨j, rfl, hj, hG, hP, hQ, hL, hR, hO⟩ := hrel
            clear A9 cn a1
            by_cases hs2 : j < 2
            · have a1 : decide (((j + 2 : Nat) : Int) ≤ 3) = true := decide_eq_true (by omega)
              have a2 : ((j + 2 : Nat) : Int) < 4 := by omega
              have a3 : (j : Int) < 4 := by omega
              have a4 : ((j + 2 : Nat) : Int) - 2 = (j : Int) := by omega
              have k1 := (hG.key (j + 2) (by omega)).1
              have v1 := (hG.val (j + 2) (by omega)).1
              have k2 := hR.key j (by omega)
              have v2 := hR.val j (by omega)
              have hK := hR.setKey j (by omega) (x.K (j + 2))
              have hV := hK.setVal j (by omega) (x.V (j + 2))
              simp only [cpF_step] at hV
              have OA := (hR.o1 (2 + j) (.string (x.K (j + 2)))).more (6 + j) (.string (x.V (j + 2)))
              have A9 := hide (And.intro (hG.keep OA ngr) (And.intro (hP.keep OA npr) (And.intro (hQ.keep OA nqr) (And.intro (hL.keep OA nlr) (And.intro hV (hO.trans OA (fun k hk e => by omega)))))))
              clear hK hV OA hG hP hQ hL hR hO
              go_wp2_with fail
              go_roundw
              case rel =>
                obtain ⟨G, P, Q, L, R, O⟩ := unhide A9
                exact ⟨j + 1, by go_num, by omega, G, P, Q, L, R, O⟩
              case measure => simp [intOf]; omega
            · obtain rfl : j = 2 := by omega
              have Op := hide hP
              have Oq := hide hQ
              have OX := hide hO
              have GX := hide hG
              have LX := hide hL
              have RX := hide hR
              have ck := hG.kind.1
              clear hG hP hQ hL hR hO
              by_cases hk : x.k = 1
              · have kk : decide ((x.k : Int) = 1) = true := decide_eq_true (by omega)
                have kk2 : ((x.k : Int) == 1) = true := by simp [hk]
                have HK := hide hk
                clear hk
                go_wp2_with fail
                refine wp_region_held_drew (S := (fun w' => NdAt w' l ⟨x.k, 2, cpF x.K 0 2 (fun _ => bE), cpF x.V 0 2 (fun _ => bE), cpF x.C 0 2 (fun _ => 0)⟩ ∧ NdAt w' r ⟨x.k, i, cpF x.K 2 2 (fun _ => bE), cpF x.V 2 2 (fun _ => bE), cpF x.C 2 i (fun _ => 0)⟩ ∧ NdAt w' g x)) (by kernel_rfl) ⟨(unhide LX).drew, (unhide RX).drew, (unhide GX).drew⟩ (fun hH0 => ?_)
                refine takeH 0 81 rfl rfl (by kernel_rfl) (by kernel_rfl) (by kernel_rfl) (fun _ _ _ h => h) (yieldsIf_load_nd (by rfl) _ rfl l rfl ⟨x.k, 2, cpF x.K 0 2 (fun _ => bE), cpF x.V 0 2 (fun _ => bE), cpF x.C 0 2 (fun _ => 0)⟩ (fun _ h => h.1)) hH0 ?r0_a
                case r0_a =>
                try simp only [Act.put, List.setIfInBounds_toArray, List.set_cons_zero, List.set_cons_succ]
                refine takeH 1 82 rfl rfl (by kernel_rfl) (by kernel_rfl) (by kernel_rfl) (fun _ _ _ h => h) (yieldsIf_load_nd (by rfl) _ rfl r rfl ⟨x.k, i, cpF x.K 2 2 (fun _ => bE), cpF x.V 2 2 (fun _ => bE), cpF x.C 2 i (fun _ => 0)⟩ (fun _ h => h.2.1)) hH0 ?r1_a
                case r1_a =>
                try simp only [Act.put, List.setIfInBounds_toArray, List.set_cons_zero, List.set_cons_succ]
                refine takeH 2 83 (v := ?v2_a) rfl rfl (by kernel_rfl) (by kernel_rfl) (by kernel_rfl) (fun _ _ _ h => h) (Or.inl ⟨by rfl, ?h2_a⟩) hH0 ?r2_a
                case h2_a => (intro w hSw; (try dsimp only at hSw); go_simp; (try with_reducible rfl))
                case r2_a =>
                try simp only [Act.put, List.setIfInBounds_toArray, List.set_cons_zero, List.set_cons_succ]
                refine takeH 3 84 (v := ?v3_a) rfl rfl (by kernel_rfl) (by kernel_rfl) (by kernel_rfl) (fun _ _ _ h => h) (Or.inl ⟨by rfl, ?h3_a⟩) hH0 ?r3_a
                case h3_a => (intro w hSw; (try dsimp only at hSw); go_simp; (try with_reducible rfl))
                case r3_a =>
                try simp only [Act.put, List.setIfInBounds_toArray, List.set_cons_zero, List.set_cons_succ]
                refine takeH 4 85 (v := ?v4_a) rfl rfl (by kernel_rfl) (by kernel_rfl) (by kernel_rfl) (fun _ _ _ h => h) (Or.inl ⟨by rfl, ?h4_a⟩) hH0 ?r4_a
                case h4_a => (intro w hSw; have q1 := (NdAt.key hSw.2.1 0 (by omega)).1; have q2 := (NdAt.key hSw.2.2 1 (by omega)).1; clear hSw; go_simp; (try with_reducible rfl))
                case r4_a =>
                try simp only [Act.put, List.setIfInBounds_toArray, List.set_cons_zero, List.set_cons_succ]
                refine storeH_nd 5 (by kernel_rfl) rfl rfl rfl _ _ rfl p ⟨x.k, 2, cpF x.K 0 2 (fun _ => bE), cpF x.V 0 2 (fun _ => bE), cpF x.C 0 2 (fun _ => 0)⟩ nd0 rfl rfl (unhide Op).drew ?_
                intro w7 n7 o7
                have S7 := (show _ ∧ _ ∧ _ from ⟨NdAt.keep hH0.1 o7 (fun h => by omega), NdAt.keep hH0.2.1 o7 (fun h => by omega), NdAt.keep hH0.2.2 o7 (fun h => by omega)⟩)
                refine ⟨S7, ?_⟩
                try simp only [Act.put, List.setIfInBounds_toArray, List.set_cons_zero, List.set_cons_succ]
                refine storeH_nd 6 (by kernel_rfl) rfl rfl rfl _ _ rfl q ⟨x.k, i, cpF x.K 2 2 (fun _ => bE), cpF x.V 2 2 (fun _ => bE), cpF x.C 2 i (fun _ => 0)⟩ nd0 rfl rfl (NdAt.keep (unhide Oq).drew o7 (fun h => by omega)) ?_
                intro w8 n8 o8
                have S8 := (show _ ∧ _ ∧ _ from ⟨NdAt.keep S7.1 o8 (fun h => by omega), NdAt.keep S7.2.1 o8 (fun h => by omega), NdAt.keep S7.2.2 o8 (fun h => by omega)⟩)
                refine ⟨S8, ?_⟩
                try simp only [Act.put, List.setIfInBounds_toArray, List.set_cons_zero, List.set_cons_succ]
                refine takeH 7 4 (v := ?v7_a) rfl rfl (by kernel_rfl) (by kernel_rfl) (by kernel_rfl) (fun _ _ _ h => h) (Or.inl ⟨by rfl, ?h7_a⟩) S8 ?r7_a
                case h7_a => (intro w hSw; (try dsimp only at hSw); go_simp; (try with_reducible rfl))
                case r7_a =>
                try simp only [Act.put, List.setIfInBounds_toArray, List.set_cons_zero, List.set_cons_succ]
                refine wpAnyH_done (by kernel_rfl) ?_ _
                have FF := hide (And.intro (n7.keep o8 (fun h => by omega)) (And.intro n8 (And.intro o7 o8)))
                clear n7 n8 o7 o8 S7 S8 hH0
                go_wp2_with fail
                obtain ⟨n7, n8, o7, o8⟩ := unhide FF
                refine bodyPost_ret (res3_nd Tryz.results340 _ rfl n7 rfl n8) rfl ?_
                refine ⟨_, _, _, rfl, ⟨rfl, rfl, fun t ht => ⟨cpF_lt x.K 0 2 (fun _ => bE) t ht, cpF_lt x.V 0 2 (fun _ => bE) t ht, cpF_lt x.C 0 2 (fun _ => 0) t ht⟩, rfl, (unhide Hn).symm, fun t ht => ⟨cpF_lt x.K 2 2 (fun _ => bE) t ht, cpF_lt x.V 2 2 (fun _ => bE) t ht⟩, fun t (ht : t < i) => cpF_lt x.C 2 i (fun _ => 0) t ht, ?_⟩, ((unhide OX).drew.trans o7 (fun k hk e => by omega)).trans o8 (fun k hk e => by omega)⟩
                rw [if_pos (unhide HK)]
                exact cpF_lt x.K 2 2 (fun _ => bE) 0 (by omega)
              · have kk2 : ((x.k : Int) == 1) = false := by have : ¬ (x.k : Int) = 1 := by omega
                                                            simpa using this
                have HK := hide hk
                clear hk
                go_wp2_with fail
                refine wp_region_held_drew (S := (fun w' => NdAt w' l ⟨x.k, 2, cpF x.K 0 2 (fun _ => bE), cpF x.V 0 2 (fun _ => bE), cpF x.C 0 2 (fun _ => 0)⟩ ∧ NdAt w' r ⟨x.k, i, cpF x.K 2 2 (fun _ => bE), cpF x.V 2 2 (fun _ => bE), cpF x.C 2 i (fun _ => 0)⟩ ∧ NdAt w' g x)) (by kernel_rfl) ⟨(unhide LX).drew, (unhide RX).drew, (unhide GX).drew⟩ (fun hH0 => ?_)
                refine takeH 0 86 rfl rfl (by kernel_rfl) (by kernel_rfl) (by kernel_rfl) (fun _ _ _ h => h) (yieldsIf_load_nd (by rfl) _ rfl l rfl ⟨x.k, 2, cpF x.K 0 2 (fun _ => bE), cpF x.V 0 2 (fun _ => bE), cpF x.C 0 2 (fun _ => 0)⟩ (fun _ h => h.1)) hH0 ?r0_b
                case r0_b =>
                try simp only [Act.put, List.setIfInBounds_toArray, List.set_cons_zero, List.set_cons_succ]
                refine takeH 1 87 rfl rfl (by kernel_rfl) (by kernel_rfl) (by kernel_rfl) (fun _ _ _ h => h) (yieldsIf_load_nd (by rfl) _ rfl r rfl ⟨x.k, i, cpF x.K 2 2 (fun _ => bE), cpF x.V 2 2 (fun _ => bE), cpF x.C 2 i (fun _ => 0)⟩ (fun _ h => h.2.1)) hH0 ?r1_b
                case r1_b =>
                try simp only [Act.put, List.setIfInBounds_toArray, List.set_cons_zero, List.set_cons_succ]
                refine takeH 2 88 (v := ?v2_b) rfl rfl (by kernel_rfl) (by kernel_rfl) (by kernel_rfl) (fun _ _ _ h => h) (Or.inl ⟨by rfl, ?h2_b⟩) hH0 ?r2_b
                case h2_b => (intro w hSw; (try dsimp only at hSw); go_simp; (try with_reducible rfl))
                case r2_b =>
                try simp only [Act.put, List.setIfInBounds_toArray, List.set_cons_zero, List.set_cons_succ]
                refine takeH 3 89 (v := ?v3_b) rfl rfl (by kernel_rfl) (by kernel_rfl) (by kernel_rfl) (fun _ _ _ h => h) (Or.inl ⟨by rfl, ?h3_b⟩) hH0 ?r3_b
                case h3_b => (intro w hSw; (try dsimp only at hSw); go_simp; (try with_reducible rfl))
                case r3_b =>
                try simp only [Act.put, List.setIfInBounds_toArray, List.set_cons_zero, List.set_cons_succ]
                refine takeH 4 90 (v := ?v4_b) rfl rfl (by kernel_rfl) (by kernel_rfl) (by kernel_rfl) (fun _ _ _ h => h) (Or.inl ⟨by rfl, ?h4_b⟩) hH0 ?r4_b
                case h4_b => (intro w hSw; have q1 := (NdAt.key hSw.2.1 0 (by omega)).1; have q2 := (NdAt.key hSw.2.2 1 (by omega)).1; clear hSw; go_simp; (try with_reducible rfl))
                case r4_b =>
                try simp only [Act.put, List.setIfInBounds_toArray, List.set_cons_zero, List.set_cons_succ]
                refine storeH_nd 5 (by kernel_rfl) rfl rfl rfl _ _ rfl p ⟨x.k, 2, cpF x.K 0 2 (fun _ => bE), cpF x.V 0 2 (fun _ => bE), cpF x.C 0 2 (fun _ => 0)⟩ nd0 rfl rfl (unhide Op).drew ?_
                intro w7 n7 o7
                have S7 := (show _ ∧ _ ∧ _ from ⟨NdAt.keep hH0.1 o7 (fun h => by omega), NdAt.keep hH0.2.1 o7 (fun h => by omega), NdAt.keep hH0.2.2 o7 (fun h => by omega)⟩)
                refine ⟨S7, ?_⟩
                try simp only [Act.put, List.setIfInBounds_toArray, List.set_cons_zero, List.set_cons_succ]
                refine storeH_nd 6 (by kernel_rfl) rfl rfl rfl _ _ rfl q ⟨x.k, i, cpF x.K 2 2 (fun _ => bE), cpF x.V 2 2 (fun _ => bE), cpF x.C 2 i (fun _ => 0)⟩ nd0 rfl rfl (NdAt.keep (unhide Oq).drew o7 (fun h => by omega)) ?_
                intro w8 n8 o8
                have S8 := (show _ ∧ _ ∧ _ from ⟨NdAt.keep S7.1 o8 (fun h => by omega), NdAt.keep S7.2.1 o8 (fun h => by omega), NdAt.keep S7.2.2 o8 (fun h => by omega)⟩)
                refine ⟨S8, ?_⟩
                try simp only [Act.put, List.setIfInBounds_toArray, List.set_cons_zero, List.set_cons_succ]
                refine takeH 7 4 (v := ?v7_b) rfl rfl (by kernel_rfl) (by kernel_rfl) (by kernel_rfl) (fun _ _ _ h => h) (Or.inl ⟨by rfl, ?h7_b⟩) S8 ?r7_b
                case h7_b => (intro w hSw; (try dsimp only at hSw); go_simp; (try with_reducible rfl))
                case r7_b =>
                try simp only [Act.put, List.setIfInBounds_toArray, List.set_cons_zero, List.set_cons_succ]
                refine wpAnyH_done (by kernel_rfl) ?_ _
                have FF := hide (And.intro (n7.keep o8 (fun h => by omega)) (And.intro n8 (And.intro o7 o8)))
                clear n7 n8 o7 o8 S7 S8 hH0
                go_wp2_with fail
                obtain ⟨n7, n8, o7, o8⟩ := unhide FF
                refine bodyPost_ret (res3_nd Tryz.results340 _ rfl n7 rfl n8) rfl ?_
                refine ⟨_, _, _, rfl, ⟨rfl, rfl, fun t ht => ⟨cpF_lt x.K 0 2 (fun _ => bE) t ht, cpF_lt x.V 0 2 (fun _ => bE) t ht, cpF_lt x.C 0 2 (fun _ => 0) t ht⟩, rfl, (unhide Hn).symm, fun t ht => ⟨cpF_lt x.K 2 2 (fun _ => bE) t ht, cpF_lt x.V 2 2 (fun _ => bE) t ht⟩, fun t (ht : t < i) => cpF_lt x.C 2 i (fun _ => 0) t ht, ?_⟩, ((unhide OX).drew.trans o7 (fun k hk e => by omega)).trans o8 (fun k hk e => by omega)⟩
                rw [if_neg (unhide HK)]
end Go.Proofs.Qxb6500412aGreat
