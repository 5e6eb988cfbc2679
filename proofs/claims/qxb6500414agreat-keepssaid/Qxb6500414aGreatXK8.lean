/-
  OWN WORK. TXN, Keeps: Less (written by tools/gen_xk8.py).
-/
import Derived.Test.Qxb6500414aGreatXK7
namespace Go.Proofs.Qxb6500414aGreat
open Go.RowKit Go.PlainAid
set_option linter.unusedSimpArgs false
set_option linter.unusedVariables false
section
variable {lo : Nat} {w w' : World} {k k2 : Nat} {M N : Mu} {s t : Nat} {T : Tb}
set_option maxRecDepth 100000 in
set_option maxHeartbeats 2000000 in
theorem xlless_any {va vb : Value} {A B : List (List Vl)} (ha : RdR w va A) (hb : RdR w vb B) (k : Nat) (hk : k < A.length) (hl : A.length ≤ 1000) (hr : ∀ r ∈ B, r.length ≤ 1000) (he : B = A.eraseIdx k) : Calls Tryz.prog 248 #[va, vb, .int .i64 (k : Int)] w fun e w' => e = .returned (.bool true) ∧ Only (fun _ => False) w w' := by
  obtain ⟨a, ca, rfl, _⟩ := id ha
  obtain ⟨b, cb, rfl, _⟩ := id hb
  obtain ⟨n, hn⟩ : ∃ n, A.length = n := ⟨_, rfl⟩
  obtain ⟨m, hm⟩ : ∃ m, B.length = m := ⟨_, rfl⟩
  have hmn : n = m + 1 := by
    have := congrArg List.length he
    rw [List.length_eraseIdx_of_lt hk] at this
    omega
  rw [hn] at ha hl ⊢
  rw [hm] at hb ⊢
  have HH := hide (And.intro ha (And.intro hb (And.intro he (And.intro hm (And.intro hn hr)))))
  have n1 : IntKind.i64.wrap ((n : Int) - 1) = (m : Int) := by rw [IntWalk.i64_in] <;> omega
  have n2 : ((m : Int) != (m : Int)) = false := by simp
  have hmn2 : m < 1000 := by omega
  clear ha hb he hm hn hr hk hmn
  go_enter Tryz.func248, Tryz.ntmps248
  go_upto_region 4 with fail
  go_loopw [7, 8] (fun iv _ wr => ∃ i : Nat, iv = .int .i64 i ∧ i ≤ m ∧ Only (fun _ => False) w wr) (fun iv _ _ => m + 1 - (intOf iv).toNat)
  case atStart => exact ⟨0, rfl, by omega, Only.refl _ _⟩
  case round =>
    obtain ⟨i, rfl, hi, oW⟩ := hrel
    by_cases hin : i < m
    · have a1 : decide ((i : Int) < (m : Int)) = true := decide_eq_true (by omega)
      have i3 : (i : Int) < (m : Int) := by omega
      by_cases hik : i < k
      · have b1 : decide ((i : Int) ≥ (k : Int)) = false := decide_eq_false (by omega)
        have b2 : decide ((k : Int) ≤ (i : Int)) = false := decide_eq_false (by omega)
        have hij : B[i]? = A[i]? := by rw [(unhide HH).2.2.1, List.getElem?_eraseIdx]; split <;> first | rfl | omega
        obtain ⟨x, hx⟩ := getE (l := B) (i := i) (by rw [(unhide HH).2.2.2.1]; exact hin)
        obtain ⟨_, _, f1, f2⟩ := (unhide HH).1.quiet oW
        obtain ⟨_, _, g1, g2⟩ := (unhide HH).2.1.quiet oW
        simp only [Value.slice.injEq] at f1 g1
        obtain ⟨ga, u1, h1, c2, O2⟩ := f2 i x (by rw [← hij]; exact hx)
        obtain ⟨gb, u2, h2, c1, O1⟩ := g2 i x hx
        obtain rfl := f1.1.trans h1
        obtain rfl := g1.1.trans h2
        have jI : ((i : Nat) : Int) < (n : Int) := by
          have := (List.getElem?_eq_some_iff.mp (show A[i]? = some x by rw [← hij]; exact hx)).1
          have := (unhide HH).2.2.2.2.1
          omega
        skip
        clear f1 f2 g1 g2 h1 h2
        have oD : Only (fun _ => False) wr wr.drew := (Only.refl _ wr).drew
        have CS := jsameRow_any (w := wr.drew) (O1.keep oD (fun _ _ e => e)) (O2.keep oD (fun _ _ e => e)) ((unhide HH).2.2.2.2.2 x (List.mem_of_getElem? hx))
        rw [decide_eq_true rfl] at CS
        obtain ⟨xa, xc, rfl⟩ := O1.shape
        obtain ⟨ya, yc, rfl⟩ := O2.shape
        generalize x.length = xn at *
        have CS := hide CS
        have HO := hide oW
        clear O1 O2 hx hij oD oW
        go_upto_region 9 with fail
        go_cut [36] from 27 to 36 (fun zv wx => zv = .bool false ∧ Only (fun _ => False) wr wx)
        case first =>
          refine wp_region_held_drew (S := (fun w' => w'.cell? ⟨gb, i, none⟩ = some (.slice xa xn xc) ∧ w'.cell? ⟨ga, i, none⟩ = some (.slice ya xn yc))) (by kernel_rfl) ⟨c1, c2⟩ (fun hH0 => ?_)
          refine takeH 0 27 (v := ?vp1) rfl rfl (by kernel_rfl) (by kernel_rfl) (by kernel_rfl) (fun _ _ _ h => h) (Or.inl ⟨by rfl, ?hp1⟩) hH0 ?rp1
          case hp1 => (intro w hSw; clear hSw; go_simp; (try with_reducible rfl))
          case rp1 =>
          try simp only [Act.put, List.setIfInBounds_toArray, List.set_cons_zero, List.set_cons_succ]
          refine takeH 1 28 (v := ?vp2) rfl rfl (by kernel_rfl) (by kernel_rfl) (by kernel_rfl) (fun _ _ _ h => h) (Or.inl ⟨by rfl, ?hp2⟩) hH0 ?rp2
          case hp2 => (intro w hSw; clear hSw; go_simp; (try with_reducible rfl))
          case rp2 =>
          try simp only [Act.put, List.setIfInBounds_toArray, List.set_cons_zero, List.set_cons_succ]
          refine takeH 2 29 (v := ?vp3) rfl rfl (by kernel_rfl) (by kernel_rfl) (by kernel_rfl) (fun _ _ _ h => h) (Or.inl ⟨by rfl, ?hp3⟩) hH0 ?rp3
          case hp3 => (intro w hSw; clear hSw; go_simp; (try with_reducible rfl))
          case rp3 =>
          try simp only [Act.put, List.setIfInBounds_toArray, List.set_cons_zero, List.set_cons_succ]
          refine takeH 3 30 (v := ?vp4) rfl rfl (by kernel_rfl) (by kernel_rfl) (by kernel_rfl) (fun _ _ _ h => h) (Or.inl ⟨by rfl, ?hp4⟩) hH0 ?rp4
          case hp4 => (intro w hSw; obtain ⟨s0, s1⟩ := hSw; go_simp; (try with_reducible rfl))
          case rp4 =>
          try simp only [Act.put, List.setIfInBounds_toArray, List.set_cons_zero, List.set_cons_succ]
          refine takeH 4 31 (v := ?vp5) rfl rfl (by kernel_rfl) (by kernel_rfl) (by kernel_rfl) (fun _ _ _ h => h) (Or.inl ⟨by rfl, ?hp5⟩) hH0 ?rp5
          case hp5 => (intro w hSw; clear hSw; go_simp; (try with_reducible rfl))
          case rp5 =>
          try simp only [Act.put, List.setIfInBounds_toArray, List.set_cons_zero, List.set_cons_succ]
          refine takeH 5 32 (v := ?vp6) rfl rfl (by kernel_rfl) (by kernel_rfl) (by kernel_rfl) (fun _ _ _ h => h) (Or.inl ⟨by rfl, ?hp6⟩) hH0 ?rp6
          case hp6 => (intro w hSw; clear hSw; go_simp; (try with_reducible rfl))
          case rp6 =>
          try simp only [Act.put, List.setIfInBounds_toArray, List.set_cons_zero, List.set_cons_succ]
          refine takeH 6 33 (v := ?vp7) rfl rfl (by kernel_rfl) (by kernel_rfl) (by kernel_rfl) (fun _ _ _ h => h) (Or.inl ⟨by rfl, ?hp7⟩) hH0 ?rp7
          case hp7 => (intro w hSw; clear hSw; go_simp; (try with_reducible rfl))
          case rp7 =>
          try simp only [Act.put, List.setIfInBounds_toArray, List.set_cons_zero, List.set_cons_succ]
          refine takeH 7 34 (v := ?vp8) rfl rfl (by kernel_rfl) (by kernel_rfl) (by kernel_rfl) (fun _ _ _ h => h) (Or.inl ⟨by rfl, ?hp8⟩) hH0 ?rp8
          case hp8 => (intro w hSw; obtain ⟨s0, s1⟩ := hSw; go_simp; (try with_reducible rfl))
          case rp8 =>
          try simp only [Act.put, List.setIfInBounds_toArray, List.set_cons_zero, List.set_cons_succ]
          refine callH 8 (by kernel_rfl) rfl 35 rfl rfl 109 Tryz.func109 (by kernel_rfl) (by kernel_rfl) #[.tmp 30, .tmp 34] #[47, 47] rfl #[.slice xa xn xc, .slice ya xn yc] (by simp [Act.eval]) (R := fun v w' => v = .bool true ∧ Only (fun _ => False) wr.drew w') ((unhide CS).mono (by rintro en w' ⟨rfl, o⟩; exact ⟨_, rfl, rfl, o⟩)) ?kp
          case kp =>
          rintro _ w6 ⟨rfl, o6⟩
          have S6 : w6.cell? ⟨gb, i, none⟩ = some (.slice xa xn xc) ∧ w6.cell? ⟨ga, i, none⟩ = some (.slice ya xn yc) := ⟨o6.cellF hH0.1, o6.cellF hH0.2⟩
          refine ⟨S6, ?_⟩
          try simp only [Act.put, List.setIfInBounds_toArray, List.set_cons_zero, List.set_cons_succ]
          refine takeH 9 36 (v := ?vp9) rfl rfl (by kernel_rfl) (by kernel_rfl) (by kernel_rfl) (fun _ _ _ h => h) (Or.inl ⟨by rfl, ?hp9⟩) S6 ?rp9
          case hp9 => (intro w hSw; clear hSw; go_simp; (try with_reducible rfl))
          case rp9 =>
          try simp only [Act.put, List.setIfInBounds_toArray, List.set_cons_zero, List.set_cons_succ]
          refine wpAnyH_done (by kernel_rfl) ?_ _
          have oD : Only (fun _ => False) wr w6 := (Only.refl _ wr).drew.trans o6 (fun _ _ e => e)
          have HF := hide oD
          clear hH0 S6 o6 oD
          go_wp2_with fail
          go_meet
          exact ⟨rfl, unhide HF⟩
        case rest =>
        obtain ⟨rfl, oC⟩ := hcut
        generalize wc = w5 at *
        have HO2 := hide ((unhide HO).trans oC (fun _ _ e => e))
        clear oC c1 c2 CS
        go_wp2_with fail
        go_roundw
        case rel => exact ⟨i + 1, by go_num, by omega, unhide HO2⟩
        case measure => simp [intOf]; omega
      · have b1 : decide ((i : Int) ≥ (k : Int)) = true := decide_eq_true (by omega)
        have b2 : decide ((k : Int) ≤ (i : Int)) = true := decide_eq_true (by omega)
        have hij : B[i]? = A[i + 1]? := by rw [(unhide HH).2.2.1, List.getElem?_eraseIdx]; split <;> first | rfl | omega
        obtain ⟨x, hx⟩ := getE (l := B) (i := i) (by rw [(unhide HH).2.2.2.1]; exact hin)
        obtain ⟨_, _, f1, f2⟩ := (unhide HH).1.quiet oW
        obtain ⟨_, _, g1, g2⟩ := (unhide HH).2.1.quiet oW
        simp only [Value.slice.injEq] at f1 g1
        obtain ⟨ga, u1, h1, c2, O2⟩ := f2 (i + 1) x (by rw [← hij]; exact hx)
        obtain ⟨gb, u2, h2, c1, O1⟩ := g2 i x hx
        obtain rfl := f1.1.trans h1
        obtain rfl := g1.1.trans h2
        have jI : ((i + 1 : Nat) : Int) < (n : Int) := by
          have := (List.getElem?_eq_some_iff.mp (show A[i + 1]? = some x by rw [← hij]; exact hx)).1
          have := (unhide HH).2.2.2.2.1
          omega
        have jI2 : (i : Int) + 1 < (n : Int) := by omega
        have jI3 : 0 ≤ (i : Int) + 1 := by omega
        clear f1 f2 g1 g2 h1 h2
        have oD : Only (fun _ => False) wr wr.drew := (Only.refl _ wr).drew
        have CS := jsameRow_any (w := wr.drew) (O1.keep oD (fun _ _ e => e)) (O2.keep oD (fun _ _ e => e)) ((unhide HH).2.2.2.2.2 x (List.mem_of_getElem? hx))
        rw [decide_eq_true rfl] at CS
        obtain ⟨xa, xc, rfl⟩ := O1.shape
        obtain ⟨ya, yc, rfl⟩ := O2.shape
        generalize x.length = xn at *
        have CS := hide CS
        have HO := hide oW
        clear O1 O2 hx hij oD oW
        go_upto_region 9 with fail
        go_cut [36] from 27 to 36 (fun zv wx => zv = .bool false ∧ Only (fun _ => False) wr wx)
        case first =>
          refine wp_region_held_drew (S := (fun w' => w'.cell? ⟨gb, i, none⟩ = some (.slice xa xn xc) ∧ w'.cell? ⟨ga, i + 1, none⟩ = some (.slice ya xn yc))) (by kernel_rfl) ⟨c1, c2⟩ (fun hH0 => ?_)
          refine takeH 0 27 (v := ?vq1) rfl rfl (by kernel_rfl) (by kernel_rfl) (by kernel_rfl) (fun _ _ _ h => h) (Or.inl ⟨by rfl, ?hq1⟩) hH0 ?rq1
          case hq1 => (intro w hSw; clear hSw; go_simp; (try with_reducible rfl))
          case rq1 =>
          try simp only [Act.put, List.setIfInBounds_toArray, List.set_cons_zero, List.set_cons_succ]
          refine takeH 1 28 (v := ?vq2) rfl rfl (by kernel_rfl) (by kernel_rfl) (by kernel_rfl) (fun _ _ _ h => h) (Or.inl ⟨by rfl, ?hq2⟩) hH0 ?rq2
          case hq2 => (intro w hSw; clear hSw; go_simp; (try with_reducible rfl))
          case rq2 =>
          try simp only [Act.put, List.setIfInBounds_toArray, List.set_cons_zero, List.set_cons_succ]
          refine takeH 2 29 (v := ?vq3) rfl rfl (by kernel_rfl) (by kernel_rfl) (by kernel_rfl) (fun _ _ _ h => h) (Or.inl ⟨by rfl, ?hq3⟩) hH0 ?rq3
          case hq3 => (intro w hSw; clear hSw; go_simp; (try with_reducible rfl))
          case rq3 =>
          try simp only [Act.put, List.setIfInBounds_toArray, List.set_cons_zero, List.set_cons_succ]
          refine takeH 3 30 (v := ?vq4) rfl rfl (by kernel_rfl) (by kernel_rfl) (by kernel_rfl) (fun _ _ _ h => h) (Or.inl ⟨by rfl, ?hq4⟩) hH0 ?rq4
          case hq4 => (intro w hSw; obtain ⟨s0, s1⟩ := hSw; go_simp; (try with_reducible rfl))
          case rq4 =>
          try simp only [Act.put, List.setIfInBounds_toArray, List.set_cons_zero, List.set_cons_succ]
          refine takeH 4 31 (v := ?vq5) rfl rfl (by kernel_rfl) (by kernel_rfl) (by kernel_rfl) (fun _ _ _ h => h) (Or.inl ⟨by rfl, ?hq5⟩) hH0 ?rq5
          case hq5 => (intro w hSw; clear hSw; go_simp; (try with_reducible rfl))
          case rq5 =>
          try simp only [Act.put, List.setIfInBounds_toArray, List.set_cons_zero, List.set_cons_succ]
          refine takeH 5 32 (v := ?vq6) rfl rfl (by kernel_rfl) (by kernel_rfl) (by kernel_rfl) (fun _ _ _ h => h) (Or.inl ⟨by rfl, ?hq6⟩) hH0 ?rq6
          case hq6 => (intro w hSw; clear hSw; go_simp; (try with_reducible rfl))
          case rq6 =>
          try simp only [Act.put, List.setIfInBounds_toArray, List.set_cons_zero, List.set_cons_succ]
          refine takeH 6 33 (v := ?vq7) rfl rfl (by kernel_rfl) (by kernel_rfl) (by kernel_rfl) (fun _ _ _ h => h) (Or.inl ⟨by rfl, ?hq7⟩) hH0 ?rq7
          case hq7 => (intro w hSw; clear hSw; go_simp; (try with_reducible rfl))
          case rq7 =>
          try simp only [Act.put, List.setIfInBounds_toArray, List.set_cons_zero, List.set_cons_succ]
          refine takeH 7 34 (v := ?vq8) rfl rfl (by kernel_rfl) (by kernel_rfl) (by kernel_rfl) (fun _ _ _ h => h) (Or.inl ⟨by rfl, ?hq8⟩) hH0 ?rq8
          case hq8 => (intro w hSw; obtain ⟨s0, s1⟩ := hSw; go_simp; (try with_reducible rfl))
          case rq8 =>
          try simp only [Act.put, List.setIfInBounds_toArray, List.set_cons_zero, List.set_cons_succ]
          refine callH 8 (by kernel_rfl) rfl 35 rfl rfl 109 Tryz.func109 (by kernel_rfl) (by kernel_rfl) #[.tmp 30, .tmp 34] #[47, 47] rfl #[.slice xa xn xc, .slice ya xn yc] (by simp [Act.eval]) (R := fun v w' => v = .bool true ∧ Only (fun _ => False) wr.drew w') ((unhide CS).mono (by rintro en w' ⟨rfl, o⟩; exact ⟨_, rfl, rfl, o⟩)) ?kq
          case kq =>
          rintro _ w6 ⟨rfl, o6⟩
          have S6 : w6.cell? ⟨gb, i, none⟩ = some (.slice xa xn xc) ∧ w6.cell? ⟨ga, i + 1, none⟩ = some (.slice ya xn yc) := ⟨o6.cellF hH0.1, o6.cellF hH0.2⟩
          refine ⟨S6, ?_⟩
          try simp only [Act.put, List.setIfInBounds_toArray, List.set_cons_zero, List.set_cons_succ]
          refine takeH 9 36 (v := ?vq9) rfl rfl (by kernel_rfl) (by kernel_rfl) (by kernel_rfl) (fun _ _ _ h => h) (Or.inl ⟨by rfl, ?hq9⟩) S6 ?rq9
          case hq9 => (intro w hSw; clear hSw; go_simp; (try with_reducible rfl))
          case rq9 =>
          try simp only [Act.put, List.setIfInBounds_toArray, List.set_cons_zero, List.set_cons_succ]
          refine wpAnyH_done (by kernel_rfl) ?_ _
          have oD : Only (fun _ => False) wr w6 := (Only.refl _ wr).drew.trans o6 (fun _ _ e => e)
          have HF := hide oD
          clear hH0 S6 o6 oD
          go_wp2_with fail
          go_meet
          exact ⟨rfl, unhide HF⟩
        case rest =>
        obtain ⟨rfl, oC⟩ := hcut
        generalize wc = w5 at *
        have HO2 := hide ((unhide HO).trans oC (fun _ _ e => e))
        clear oC c1 c2 CS
        go_wp2_with fail
        go_roundw
        case rel => exact ⟨i + 1, by go_num, by omega, unhide HO2⟩
        case measure => simp [intOf]; omega
    · have a1 : decide ((i : Int) < (m : Int)) = false := decide_eq_false (by omega)
      have HO := hide oW
      clear oW
      go_wp2_with fail
      go_ret
      exact ⟨rfl, unhide HO⟩
end
end Go.Proofs.Qxb6500414aGreat
