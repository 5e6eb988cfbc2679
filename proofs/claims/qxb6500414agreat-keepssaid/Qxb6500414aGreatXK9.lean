/-
  OWN WORK. TXN, Keeps: Rising (written by tools/gen_xk9.py).
-/
import Derived.Test.Qxb6500414aGreatXK8
namespace Go.Proofs.Qxb6500414aGreat
open Go.RowKit Go.PlainAid
set_option linter.unusedSimpArgs false
set_option linter.unusedVariables false
section
variable {lo : Nat} {w w' : World} {k k2 : Nat} {M N : Mu} {s t : Nat} {T : Tb}
set_option maxRecDepth 100000 in
set_option maxHeartbeats 2000000 in
theorem xlrising_any {v : Value} {rows : List (List Vl)} (R : RdR w v rows) (pk : Nat) (hl : rows.length ≤ 8) (hr : ∀ r ∈ rows, pk < r.length ∧ r.length ≤ 1000) (hp : ∀ (i : Nat) (a b : List Vl) (x y : Vl), rows[i]? = some a → rows[i + 1]? = some b → a[pk]? = some x → b[pk]? = some y → vcmp x y < 0) : Calls Tryz.prog 80 #[v, .int .i64 (pk : Int)] w fun e w' => e = .returned (.bool true) ∧ Only (fun _ => False) w w' := by
  obtain ⟨a, cap, rfl, _⟩ := id R
  obtain ⟨n, hn⟩ : ∃ n, rows.length = n := ⟨_, rfl⟩
  rw [hn] at hl R ⊢
  have n8 : decide ((n : Int) > 8) = false := decide_eq_false (by omega)
  have n8' : decide (8 < (n : Int)) = false := decide_eq_false (by omega)
  have HH := hide (And.intro R (And.intro hn (And.intro hr hp)))
  have p0 : decide ((pk : Int) < 0) = false := by simp
  clear R hn hr hp
  go_enter Tryz.func80, Tryz.ntmps80
  go_upto_region 4 with fail
  go_loopw [5, 6] (fun iv _ wr => ∃ i : Nat, iv = .int .i64 i ∧ i ≤ n ∧ Only (fun _ => False) w wr) (fun iv _ _ => n + 1 - (intOf iv).toNat)
  case atStart => exact ⟨0, rfl, by omega, Only.refl _ _⟩
  case round =>
    obtain ⟨i, rfl, hi, oW⟩ := hrel
    by_cases hin : i < n
    · have a1 : decide ((i : Int) < (n : Int)) = true := decide_eq_true (by omega)
      have i3 : (i : Int) < (n : Int) := by omega
      obtain ⟨r, hri⟩ := getE (l := rows) (i := i) (by rw [(unhide HH).2.1]; exact hin)
      obtain ⟨hpk, hrl⟩ := (unhide HH).2.2.1 r (List.mem_of_getElem? hri)
      obtain ⟨y, hy⟩ := getE (l := r) (i := pk) hpk
      obtain ⟨_, _, f1, f2⟩ := (unhide HH).1.quiet oW
      simp only [Value.slice.injEq] at f1
      obtain ⟨g, uv, hg, c2, O⟩ := f2 i r hri
      obtain rfl := f1.1.trans hg
      obtain ⟨ra, yc, rfl⟩ := O.shape
      obtain ⟨g2, rfl, d0, d1, d2⟩ := O.at_ hy
      obtain ⟨yn, hyn⟩ : ∃ yn, r.length = yn := ⟨_, rfl⟩
      rw [hyn] at c2 hpk hrl
      have pI : (pk : Int) < (yn : Int) := by omega
      have p1 : decide ((pk : Int) ≥ (yn : Int)) = false := decide_eq_false (by omega)
      have p1' : decide ((yn : Int) ≤ (pk : Int)) = false := decide_eq_false (by omega)
      have HO := hide oW
      cases i with
      | zero =>
        clear f1 f2 hg O hri hy hyn oW
        go_wp2_with fail
        go_roundw
        case rel => exact ⟨1, by go_num, by omega, unhide HO⟩
        case measure => first | (simp [intOf]; done) | (simp [intOf]; omega)
      | succ j =>
        obtain ⟨q, hqi⟩ := getE (l := rows) (i := j) (by rw [(unhide HH).2.1]; omega)
        obtain ⟨hpq, hql⟩ := (unhide HH).2.2.1 q (List.mem_of_getElem? hqi)
        obtain ⟨x, hx⟩ := getE (l := q) (i := pk) hpq
        obtain ⟨g', uv', hg', c1, O'⟩ := f2 j q hqi
        have hgg : g' = g := by
          have h1 := hg'.symm.trans hg
          simp only [Option.some.injEq, Addr.mk.injEq] at h1
          exact h1.1
        rw [hgg] at c1
        obtain ⟨rb, xc, rfl⟩ := O'.shape
        obtain ⟨g1, rfl, e0, e1, e2⟩ := O'.at_ hx
        obtain ⟨xn, hxn⟩ : ∃ xn, q.length = xn := ⟨_, rfl⟩
        rw [hxn] at c1 hpq hql
        have pJ : (pk : Int) < (xn : Int) := by omega
        have jI : (j : Int) < (n : Int) := by omega
        have jI2 : (j : Int) + 1 < (n : Int) := by omega
        have w1 : IntKind.i64.wrap (((j + 1 : Nat) : Int) - 1) = (j : Int) := by rw [IntWalk.i64_in] <;> omega
        have w2 : IntKind.i64.wrap ((j : Int) + 1 - 1) = (j : Int) := by rw [IntWalk.i64_in] <;> omega
        have jI3 : 0 ≤ (j : Int) + 1 := by omega
        have w3 : IntKind.i64.wrap (j : Int) = (j : Int) := by rw [IntWalk.i64_in] <;> omega
        have hlt := (unhide HH).2.2.2 j q r x y hqi hri hx hy
        have CS := ecmp_any x y wr.drew
        generalize vcmp x y = cz at *
        have z1 : decide (cz ≥ 0) = false := decide_eq_false (by omega)
        have z2 : decide (0 ≤ cz) = false := decide_eq_false (by omega)
        have q1 : decide (((j + 1 : Nat) : Int) > 0) = true := decide_eq_true (by omega)
        have q2 : decide (0 < (j : Int) + 1) = true := decide_eq_true (by omega)
        unfold vlA at CS
        have CS := hide CS
        clear f1 f2 hg hg' hgg O O' hri hqi hx hy hxn hyn oW hlt
        go_upto_region 9 with fail
        go_cut [6] from 29 to 44 (fun zv wx => zv = .int .i64 cz ∧ Only (fun _ => False) wr wx)
        case first =>
          refine wp_region_held_drew (S := (fun w' => w'.cell? ⟨g, j, none⟩ = some (.slice (some ⟨g1, 0, none⟩) xn xc) ∧ w'.cell? ⟨g1, pk * 3, none⟩ = some (.bool x.str) ∧ w'.cell? ⟨g1, pk * 3 + 1, none⟩ = some (.int .i64 x.i) ∧ w'.cell? ⟨g1, pk * 3 + 2, none⟩ = some (.string x.s) ∧ w'.cell? ⟨g, j + 1, none⟩ = some (.slice (some ⟨g2, 0, none⟩) yn yc) ∧ w'.cell? ⟨g2, pk * 3, none⟩ = some (.bool y.str) ∧ w'.cell? ⟨g2, pk * 3 + 1, none⟩ = some (.int .i64 y.i) ∧ w'.cell? ⟨g2, pk * 3 + 2, none⟩ = some (.string y.s))) (by kernel_rfl) ⟨c1, e0, e1, e2, c2, d0, d1, d2⟩ (fun hH0 => ?_)
          refine takeH 0 29 (v := ?vr1) rfl rfl (by kernel_rfl) (by kernel_rfl) (by kernel_rfl) (fun _ _ _ h => h) (Or.inl ⟨by rfl, ?hr1⟩) hH0 ?rr1
          case hr1 => (intro w hSw; clear hSw; go_simp; (try with_reducible rfl))
          case rr1 =>
          try simp only [Act.put, List.setIfInBounds_toArray, List.set_cons_zero, List.set_cons_succ]
          refine takeH 1 30 (v := ?vr2) rfl rfl (by kernel_rfl) (by kernel_rfl) (by kernel_rfl) (fun _ _ _ h => h) (Or.inl ⟨by rfl, ?hr2⟩) hH0 ?rr2
          case hr2 => (intro w hSw; clear hSw; go_simp; (try with_reducible rfl))
          case rr2 =>
          try simp only [Act.put, List.setIfInBounds_toArray, List.set_cons_zero, List.set_cons_succ]
          refine takeH 2 31 (v := ?vr3) rfl rfl (by kernel_rfl) (by kernel_rfl) (by kernel_rfl) (fun _ _ _ h => h) (Or.inl ⟨by rfl, ?hr3⟩) hH0 ?rr3
          case hr3 => (intro w hSw; clear hSw; go_simp; (try with_reducible rfl))
          case rr3 =>
          try simp only [Act.put, List.setIfInBounds_toArray, List.set_cons_zero, List.set_cons_succ]
          refine takeH 3 32 (v := ?vr4) rfl rfl (by kernel_rfl) (by kernel_rfl) (by kernel_rfl) (fun _ _ _ h => h) (Or.inl ⟨by rfl, ?hr4⟩) hH0 ?rr4
          case hr4 => (intro w hSw; clear hSw; go_simp; (try with_reducible rfl))
          case rr4 =>
          try simp only [Act.put, List.setIfInBounds_toArray, List.set_cons_zero, List.set_cons_succ]
          refine takeH 4 33 (v := ?vr5) rfl rfl (by kernel_rfl) (by kernel_rfl) (by kernel_rfl) (fun _ _ _ h => h) (Or.inl ⟨by rfl, ?hr5⟩) hH0 ?rr5
          case hr5 => (intro w hSw; obtain ⟨s0, s1, s2, s3, s4, s5, s6, s7⟩ := hSw; go_simp; (try with_reducible rfl))
          case rr5 =>
          try simp only [Act.put, List.setIfInBounds_toArray, List.set_cons_zero, List.set_cons_succ]
          refine takeH 5 34 (v := ?vr6) rfl rfl (by kernel_rfl) (by kernel_rfl) (by kernel_rfl) (fun _ _ _ h => h) (Or.inl ⟨by rfl, ?hr6⟩) hH0 ?rr6
          case hr6 => (intro w hSw; clear hSw; go_simp; (try with_reducible rfl))
          case rr6 =>
          try simp only [Act.put, List.setIfInBounds_toArray, List.set_cons_zero, List.set_cons_succ]
          refine takeH 6 35 (v := ?vr7) rfl rfl (by kernel_rfl) (by kernel_rfl) (by kernel_rfl) (fun _ _ _ h => h) (Or.inl ⟨by rfl, ?hr7⟩) hH0 ?rr7
          case hr7 => (intro w hSw; clear hSw; go_simp; (try with_reducible rfl))
          case rr7 =>
          try simp only [Act.put, List.setIfInBounds_toArray, List.set_cons_zero, List.set_cons_succ]
          refine takeH 7 36 (v := ?vr8) rfl rfl (by kernel_rfl) (by kernel_rfl) (by kernel_rfl) (fun _ _ _ h => h) (Or.inl ⟨by rfl, ?hr8⟩) hH0 ?rr8
          case hr8 => (intro w hSw; obtain ⟨s0, s1, s2, s3, s4, s5, s6, s7⟩ := hSw; go_simp; (try with_reducible rfl))
          case rr8 =>
          try simp only [Act.put, List.setIfInBounds_toArray, List.set_cons_zero, List.set_cons_succ]
          refine takeH 8 37 (v := ?vr9) rfl rfl (by kernel_rfl) (by kernel_rfl) (by kernel_rfl) (fun _ _ _ h => h) (Or.inl ⟨by rfl, ?hr9⟩) hH0 ?rr9
          case hr9 => (intro w hSw; clear hSw; go_simp; (try with_reducible rfl))
          case rr9 =>
          try simp only [Act.put, List.setIfInBounds_toArray, List.set_cons_zero, List.set_cons_succ]
          refine takeH 9 38 (v := ?vr10) rfl rfl (by kernel_rfl) (by kernel_rfl) (by kernel_rfl) (fun _ _ _ h => h) (Or.inl ⟨by rfl, ?hr10⟩) hH0 ?rr10
          case hr10 => (intro w hSw; clear hSw; go_simp; (try with_reducible rfl))
          case rr10 =>
          try simp only [Act.put, List.setIfInBounds_toArray, List.set_cons_zero, List.set_cons_succ]
          refine takeH 10 39 (v := ?vr11) rfl rfl (by kernel_rfl) (by kernel_rfl) (by kernel_rfl) (fun _ _ _ h => h) (Or.inl ⟨by rfl, ?hr11⟩) hH0 ?rr11
          case hr11 => (intro w hSw; clear hSw; go_simp; (try with_reducible rfl))
          case rr11 =>
          try simp only [Act.put, List.setIfInBounds_toArray, List.set_cons_zero, List.set_cons_succ]
          refine takeH 11 40 (v := ?vr12) rfl rfl (by kernel_rfl) (by kernel_rfl) (by kernel_rfl) (fun _ _ _ h => h) (Or.inl ⟨by rfl, ?hr12⟩) hH0 ?rr12
          case hr12 => (intro w hSw; obtain ⟨s0, s1, s2, s3, s4, s5, s6, s7⟩ := hSw; go_simp; (try with_reducible rfl))
          case rr12 =>
          try simp only [Act.put, List.setIfInBounds_toArray, List.set_cons_zero, List.set_cons_succ]
          refine takeH 12 41 (v := ?vr13) rfl rfl (by kernel_rfl) (by kernel_rfl) (by kernel_rfl) (fun _ _ _ h => h) (Or.inl ⟨by rfl, ?hr13⟩) hH0 ?rr13
          case hr13 => (intro w hSw; clear hSw; go_simp; (try with_reducible rfl))
          case rr13 =>
          try simp only [Act.put, List.setIfInBounds_toArray, List.set_cons_zero, List.set_cons_succ]
          refine takeH 13 42 (v := ?vr14) rfl rfl (by kernel_rfl) (by kernel_rfl) (by kernel_rfl) (fun _ _ _ h => h) (Or.inl ⟨by rfl, ?hr14⟩) hH0 ?rr14
          case hr14 => (intro w hSw; clear hSw; go_simp; (try with_reducible rfl))
          case rr14 =>
          try simp only [Act.put, List.setIfInBounds_toArray, List.set_cons_zero, List.set_cons_succ]
          refine takeH 14 43 (v := ?vr15) rfl rfl (by kernel_rfl) (by kernel_rfl) (by kernel_rfl) (fun _ _ _ h => h) (Or.inl ⟨by rfl, ?hr15⟩) hH0 ?rr15
          case hr15 => (intro w hSw; obtain ⟨s0, s1, s2, s3, s4, s5, s6, s7⟩ := hSw; go_simp; (try with_reducible rfl))
          case rr15 =>
          try simp only [Act.put, List.setIfInBounds_toArray, List.set_cons_zero, List.set_cons_succ]
          refine callH 15 (by kernel_rfl) rfl 44 rfl rfl 164 Tryz.func164 (by kernel_rfl) (by kernel_rfl) #[.tmp 36, .tmp 43] #[106, 106] rfl #[.agg #[.bool x.str, .int .i64 x.i, .string x.s], .agg #[.bool y.str, .int .i64 y.i, .string y.s]] (by simp [Act.eval]) (R := fun v w' => v = .int .i64 cz ∧ Only (fun _ => False) wr.drew w') ((unhide CS).mono (by rintro en w' ⟨rfl, o⟩; exact ⟨_, rfl, rfl, o⟩)) ?kr
          case kr =>
          rintro _ w6 ⟨rfl, o6⟩
          have S6 : w6.cell? ⟨g, j, none⟩ = some (.slice (some ⟨g1, 0, none⟩) xn xc) ∧ w6.cell? ⟨g1, pk * 3, none⟩ = some (.bool x.str) ∧ w6.cell? ⟨g1, pk * 3 + 1, none⟩ = some (.int .i64 x.i) ∧ w6.cell? ⟨g1, pk * 3 + 2, none⟩ = some (.string x.s) ∧ w6.cell? ⟨g, j + 1, none⟩ = some (.slice (some ⟨g2, 0, none⟩) yn yc) ∧ w6.cell? ⟨g2, pk * 3, none⟩ = some (.bool y.str) ∧ w6.cell? ⟨g2, pk * 3 + 1, none⟩ = some (.int .i64 y.i) ∧ w6.cell? ⟨g2, pk * 3 + 2, none⟩ = some (.string y.s) := ⟨o6.cellF hH0.1, o6.cellF hH0.2.1, o6.cellF hH0.2.2.1, o6.cellF hH0.2.2.2.1, o6.cellF hH0.2.2.2.2.1, o6.cellF hH0.2.2.2.2.2.1, o6.cellF hH0.2.2.2.2.2.2.1, o6.cellF hH0.2.2.2.2.2.2.2⟩
          refine ⟨S6, ?_⟩
          try simp only [Act.put, List.setIfInBounds_toArray, List.set_cons_zero, List.set_cons_succ]
          refine takeH 16 6 (v := ?vr16) rfl rfl (by kernel_rfl) (by kernel_rfl) (by kernel_rfl) (fun _ _ _ h => h) (Or.inl ⟨by rfl, ?hr16⟩) S6 ?rr16
          case hr16 => (intro w hSw; clear hSw; go_simp; (try with_reducible rfl))
          case rr16 =>
          try simp only [Act.put, List.setIfInBounds_toArray, List.set_cons_zero, List.set_cons_succ]
          refine wpAnyH_done (by kernel_rfl) ?_ _
          have oD : Only (fun _ => False) wr w6 := (Only.refl _ wr).drew.trans o6 (fun _ _ e => e)
          have HF := hide oD
          clear hH0 S6 o6 oD
          go_wp2_with fail
          go_meet
          exact ⟨rfl, unhide HF⟩
        case rest =>
        obtain ⟨rfl, oC⟩ := hcut
        generalize wc = w5 at *
        have HO2 := hide ((unhide HO).trans oC (fun _ _ e => e))
        clear oC c1 c2 e0 e1 e2 d0 d1 d2 CS
        go_wp2_with fail
        go_roundw
        case rel => exact ⟨j + 1 + 1, by go_num, by omega, unhide HO2⟩
        case measure => simp [intOf]; omega
    · have a1 : decide ((i : Int) < (n : Int)) = false := decide_eq_false (by omega)
      have HO := hide oW
      clear oW
      go_wp2_with fail
      go_ret
      exact ⟨rfl, unhide HO⟩
end
end Go.Proofs.Qxb6500414aGreat
