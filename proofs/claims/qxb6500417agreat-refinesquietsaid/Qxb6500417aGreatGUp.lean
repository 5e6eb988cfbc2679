/-
  OWN WORK. THE GRAPH: bit, up.
-/
import Derived.Test.Qxb6500417aGreatGBr4
import Derived.Test.Qxb6500417aGreatOBits
namespace Go.Proofs.Qxb6500417aGreat
open Go.RowKit Go.PlainAid
set_option linter.unusedSimpArgs false
set_option linter.unusedVariables false

theorem gmask_fact : ∀ b : Fin 64, IntKind.u64.wrap ((2 : Int) ^ min (IntKind.u64.wrap (bits BinOp.and IntKind.i64 ((b.val : Nat) : Int) 63)).toNat 64) = ((2 ^ b.val : Nat) : Int) := by decide +kernel
set_option maxRecDepth 100000 in
theorem gbit_any (id : Nat) (hid : id < 64) (b : Nat) (hb : b = 2 ^ id) (w : World) :
    Calls Tryz.prog 153 #[.int .i64 id] w fun e w' => e = .returned (.int .u64 (b : Nat)) ∧ w = w' := by
  have hm := gmask_fact ⟨id, hid⟩
  simp only at hm
  rw [← hb] at hm
  have Hm := hide hm
  clear hm hb
  go_enter Tryz.func153, Tryz.ntmps153
  go_wp2_with fail
  go_ret
  refine ⟨?_, rfl⟩
  show Ending.returned (.int .u64 (IntKind.u64.wrap (2 ^ min (IntKind.u64.wrap (bits BinOp.and IntKind.i64 (id : Int) 63)).toNat 64))) = _
  rw [unhide Hm]
/-- The bits of the first k parents. -/
def orPars (r : Cr) : Nat → Nat → Nat
  | 0, x => x
  | k + 1, x => orPars r k x ||| 2 ^ parN r k
def stepU (c : Nat → Cr) (id x : Nat) : Nat := if x.testBit id = true then orPars (c id) (c id).np x else x
def upN (T : Gt) : Nat → Nat → Nat
  | 0, x => x
  | i + 1, x => upN T i (stepU T.c (T.o i) x)
theorem or_lt64 {a b : Nat} (ha : a < 18446744073709551616) (hb : b < 18446744073709551616) : a ||| b < 18446744073709551616 := by
  have := Nat.or_lt_two_pow (n := 64) (x := a) (y := b) (by omega) (by omega)
  omega
theorem orPars_lt {r : Cr} (h0 : r.p0 ≤ 48) (h1 : r.p1 ≤ 48) : ∀ k x, x < 18446744073709551616 → orPars r k x < 18446744073709551616
  | 0, x, h => h
  | k + 1, x, h => or_lt64 (orPars_lt h0 h1 k x h) (pow64 _ (by unfold parN; split <;> omega))
theorem stepU_lt {c : Nat → Cr} {id x : Nat} (h0 : (c id).p0 ≤ 48) (h1 : (c id).p1 ≤ 48) (h : x < 18446744073709551616) : stepU c id x < 18446744073709551616 := by
  unfold stepU
  split
  · exact orPars_lt h0 h1 _ _ h
  · exact h
section
variable {w : World} {g t : Nat} {T : Gt} {J : Nat → Sl} {rt : Nat}
theorem GI.upN_lt (h : GI J rt T) : ∀ i x, i ≤ T.n → x < 18446744073709551616 → upN T i x < 18446744073709551616
  | 0, x, _, hx => hx
  | i + 1, x, hi, hx => by
    have hw := h.tab.cw _ (h.ord.oin i (by omega))
    exact h.upN_lt i _ (by omega) (stepU_lt hw.q0 hw.q1 hx)
set_option maxRecDepth 100000 in
set_option maxHeartbeats 4000000 in
theorem gup_any (h : GH w g t T) (hI : GI J rt T) (x : Nat) (hx : x < 18446744073709551616) :
    Calls Tryz.prog 154 #[.pointer (some ⟨g, 0, none⟩), .int .u64 x] w fun e w' => e = .returned (.int .u64 (upN T T.n x : Nat)) ∧ w = w' := by
  have hn := hI.ord.n40
  have cn := h.n_.1
  have H0 := hide h
  have HI := hide hI
  obtain ⟨R, hR⟩ : ∃ R, upN T T.n x = R := ⟨_, rfl⟩
  rw [hR]
  have HR := hide hR
  clear h hI hR
  go_enter Tryz.func154, Tryz.ntmps154
  go_wp2_with fail
  go_loopw [1, 5] (fun xv iv wr => ∃ i y : Nat, iv = .int .i64 ((i : Int) - 1) ∧ i ≤ T.n ∧ xv = .int .u64 (y : Int) ∧ y < 18446744073709551616 ∧ upN T i y = R ∧ w = wr) (fun _ iv _ => (intOf iv + 1).toNat)
  case atStart => exact ⟨T.n, x, rfl, by omega, rfl, hx, unhide HR, rfl⟩
  case round =>
    clear HR
    obtain ⟨k, y, rfl, hk, rfl, hy, hr, rfl⟩ := hrel
    by_cases h0 : k = 0
    · subst h0
      have a1 : decide ((0 : Int) ≤ ((0 : Nat) : Int) - 1) = false := by simp
      have hr' : y = R := hr
      subst hr'
      clear hr
      go_wp2_with fail
      go_ret
      exact ⟨rfl, rfl⟩
    · obtain ⟨i, rfl⟩ : ∃ i, k = i + 1 := ⟨k - 1, by omega⟩
      have e1 : (((i + 1 : Nat) : Int) - 1) = (i : Int) := by omega
      rw [e1]
      have a1 : decide ((0 : Int) ≤ (i : Int)) = true := by simp
      have a2 : (i : Int) < 48 := by omega
      have hC := (unhide HI).ord.oin i (by omega)
      have hw := (unhide HI).tab.cw _ hC
      have hcl : T.o i < 49 := by have := hC.1.2; omega
      have zo := ((unhide H0).ord i (by omega)).1
      have hr' : upN T i (stepU T.c (T.o i) y) = R := hr
      have Hr := hide hr'
      have C1 := gbit_any (T.o i) (by omega) _ rfl w
      obtain ⟨b, hb⟩ : ∃ b, (2 : Nat) ^ T.o i = b := ⟨_, rfl⟩
      rw [hb] at C1
      have C1 := hide C1
      have hbl : b < 18446744073709551616 := by rw [← hb]; exact pow64 _ (by omega)
      obtain ⟨z, hz⟩ : ∃ z, y &&& b = z := ⟨_, rfl⟩
      have e2 := bits_and_u64_nat y b hy hbl
      rw [hz] at e2
      have hap := and_pow y (T.o i)
      rw [hb, hz] at hap
      have znp : w.cell? ⟨g, 1 + T.o i * 6 + 3, none⟩ = some (.int .i64 ((T.c (T.o i)).np : Int)) := ((unhide H0).com (T.o i) 3 hcl (by omega)).1
      have hnp := hw.np
      have a3 : (T.o i : Int) < 49 := by omega
      have Hb := hide hb
      cases htb : y.testBit (T.o i) with
      | false =>
        rw [htb] at hap
        have hz0 : z = 0 := by
          have : ((z : Int) != 0) = false := hap
          simp at this
          omega
        subst hz0
        have hst : stepU T.c (T.o i) y = y := by unfold stepU; rw [if_neg (by rw [htb]; simp)]
        have Hst := hide hst
        have e2' : bits BinOp.and IntKind.u64 (y : Int) (b : Int) = 0 := e2
        clear hr hr' hz hap hst hC hw htb e1 e2
        go_wp2_with fail
        refine (unhide C1).mono ?_
        rintro e w1 ⟨rfl, rfl⟩
        clear C1
        go_wp2_with fail
        go_roundw
        case rel => exact ⟨i, y, by go_num, by omega, rfl, hy, by rw [← unhide Hst]; exact unhide Hr, by first | trivial | rfl⟩
        case measure => simp [intOf]
      | true =>
        rw [htb] at hap
        have hz0 : ((z : Int) == 0) = false := by
          have : ((z : Int) != 0) = true := hap
          simpa using this
        have hz1 : ((z : Int) != 0) = true := hap
        have hst : stepU T.c (T.o i) y = orPars (T.c (T.o i)) (T.c (T.o i)).np y := by unfold stepU; rw [if_pos htb]
        have Hst := hide hst
        have hpC : ∀ k, k < (T.c (T.o i)).np → IsC T.c (parN (T.c (T.o i)) k) := fun k hk => by
          have hpt := pars_take hnp hk
          have hm2 : parN (T.c (T.o i)) k ∈ (T.c (T.o i)).pars := List.mem_of_mem_take (i := k + 1) (by rw [hpt]; simp)
          exact ((unhide HI).tab.cp _ hC _ hm2).1
        have hpar : ∀ k, k < 2 → w.cell? ⟨g, 1 + T.o i * 6 + 4 + k, none⟩ = some (.int .i64 (parN (T.c (T.o i)) k : Int)) := fun k hk => by
          have h2 : k = 0 ∨ k = 1 := by omega
          rcases h2 with rfl | rfl
          · exact ((unhide H0).com (T.o i) 4 hcl (by omega)).1
          · exact ((unhide H0).com (T.o i) 5 hcl (by omega)).1
        have HpC := hide hpC
        have Hpar := hide hpar
        have hlt := fun k => orPars_lt hw.q0 hw.q1 k y hy
        have Hlt := hide hlt
        clear hr hr' hz hap hst hC hw htb e1 hpC hpar hlt
        generalize hrow : T.c (T.o i) = r at *
        generalize hoi : T.o i = oi at *
        clear hrow hoi
        go_wp2_with fail
        refine (unhide C1).mono ?_
        rintro e w1 ⟨rfl, rfl⟩
        clear C1
        go_wp2_with fail
        go_loopw [1, 7] (fun xv kv wr => ∃ k : Nat, kv = .int .i64 k ∧ k ≤ r.np ∧ xv = .int .u64 (orPars r k y : Nat) ∧ w = wr) (fun _ kv _ => r.np - (intOf kv).toNat)
        case atStart => exact ⟨0, rfl, by omega, rfl, rfl⟩
        case round =>
          obtain ⟨k, rfl, hk2, rfl, rfl⟩ := hrel
          by_cases hkl : k < r.np
          · have b1 : decide ((k : Int) < (r.np : Int)) = true := decide_eq_true (by omega)
            have b1n : decide (k < r.np) = true := decide_eq_true hkl
            have b2 : (k : Int) < 2 := by omega
            have cp := unhide Hpar k (by omega)
            have hpC := unhide HpC k hkl
            have C2 := gbit_any (parN r k) (by have := hpC.1.2; omega) _ rfl w
            obtain ⟨b', hb'⟩ : ∃ b', (2 : Nat) ^ parN r k = b' := ⟨_, rfl⟩
            rw [hb'] at C2
            have C2 := hide C2
            have hbl' : b' < 18446744073709551616 := by rw [← hb']; exact pow64 _ (by have := hpC.1.2; omega)
            have e3 := bits_or_u64_nat (orPars r k y) b' (unhide Hlt k) hbl'
            have hnx : orPars r (k + 1) y = orPars r k y ||| b' := by rw [← hb']; rfl
            have Hnx := hide hnx
            clear hpC hb' hnx
            generalize orPars r k y = u at *
            obtain ⟨v, hv⟩ : ∃ v, u ||| b' = v := ⟨_, rfl⟩
            rw [hv] at e3 Hnx
            clear hv
            generalize parN r k = pn at *
            go_wp2_with fail
            refine (unhide C2).mono ?_
            rintro e w1 ⟨rfl, rfl⟩
            clear C2
            go_wp2_with fail
            go_roundw
            case rel => exact ⟨k + 1, by go_num, by omega, by rw [unhide Hnx], by first | trivial | rfl⟩
            case measure => simp [intOf]; omega
          · have b1 : decide ((k : Int) < (r.np : Int)) = false := decide_eq_false (by omega)
            have b1n : decide (k < r.np) = false := decide_eq_false hkl
            have e4 : k = r.np := by omega
            subst e4
            go_wp2_with fail
            go_roundw
            case rel => exact ⟨i, _, by go_num, by omega, rfl, unhide Hlt _, by rw [← unhide Hst]; exact unhide Hr, by first | trivial | rfl⟩
            case measure => simp [intOf]
end
end Go.Proofs.Qxb6500417aGreat
