/-
  OWN WORK. THE TABLE LAW's MODEL: SortRows (written by tools/gen_mm14.py).
-/
import Derived.Test.Qxb6500412aGreatMM10
import Derived.Test.Qxb6500412aGreatMP3
namespace Go.Proofs.Qxb6500412aGreat
open Go.RowKit Go.PlainAid
set_option linter.unusedSimpArgs false
set_option linter.unusedVariables false

def cmpZ (c : Nat) (a b : Value × List Vl) : Bool := cmpR c a.2 b.2
theorem mid_app {α : Type} {A rest : List α} {x : α} {p : Nat} (h : p ≤ A.length) : (A ++ rest).take p ++ x :: (A ++ rest).drop p = (A.take p ++ x :: A.drop p) ++ rest := by
  rw [List.take_append_of_le_length h, List.drop_append_of_le_length h, List.append_assoc]
  rfl
/-- Two neighbours changed. -/
theorem mid_swap {α : Type} {l : List α} {k : Nat} {a x : α} (hk : k + 1 ≤ l.length) (ha : l[k]? = some a) : ((l.take (k + 1) ++ x :: l.drop (k + 1)).set k x).set (k + 1) a = l.take k ++ x :: l.drop k := by
  rw [List.set_comm _ _ (by omega), rmid_step hk ha, rmid_set (by omega)]
theorem mid_start {α : Type} {l A : List α} {i : Nat} {x : α} (hx : l[i]? = some x) (hA : A.length = i) : (A ++ l.drop (i + 1)).take i ++ x :: (A ++ l.drop (i + 1)).drop i = A ++ l.drop i := by
  obtain ⟨hi, rfl⟩ := List.getElem?_eq_some_iff.mp hx
  rw [mid_app (by omega), List.take_of_length_le (by omega), List.drop_of_length_le (by omega), List.append_assoc, List.drop_eq_getElem_cons hi]
  rfl
section
variable {w : World} {Z : List (Value × List Vl)} {c : Nat}
theorem rows_keep {wr : World} {va : Option Addr} {n vc : Nat} (R : w.ownsRow 0 95 1 (.slice va n vc) n (Z.map (·.1))) (hr : ∀ z ∈ Z, OwnV w z.1 z.2 ∧ c < z.2.length) (ho : Only (fun k => (Value.slice va n vc).ownBlock = some k) w wr) {z : Value × List Vl} (hz : z ∈ Z) : OwnV wr z.1 z.2 ∧ c < z.2.length := by
  refine ⟨(hr z hz).1.keep ho (fun k hk e => ?_), (hr z hz).2⟩
  obtain ⟨cc, hc⟩ := ownsRow_has R e
  exact ownsRow_ne (hr z hz).1 hc (by decide) k hk rfl
set_option maxRecDepth 100000 in
set_option maxHeartbeats 4000000 in
theorem msort_any {v : Value} (R : w.ownsRow 0 95 1 v Z.length (Z.map (·.1))) (hr : ∀ z ∈ Z, OwnV w z.1 z.2 ∧ c < z.2.length) (h8 : Z.length ≤ 100) : Calls Tryz.prog 250 #[v, .int .i64 c, .bool false] w fun e w' => e = .returned (.tuple #[]) ∧ w'.ownsRow 0 95 1 v Z.length ((sortP (cmpZ c) Z).map (·.1)) ∧ Only (fun k => v.ownBlock = some k) w w' := by
  obtain ⟨va, vc, hv⟩ := ownsRow_shape R
  subst hv
  obtain ⟨n, hn⟩ : ∃ n, Z.length = n := ⟨_, rfl⟩
  rw [hn] at R h8 ⊢
  have HR := hide (And.intro R (And.intro hr hn))
  clear R hr hn
  go_enter Tryz.func250, Tryz.ntmps250
  go_upto_region 1 with fail
  go_loopw [6, 7, 8] (fun iv jv cv wr => ∃ i : Nat, iv = .int .i64 i ∧ 1 ≤ i ∧ (i ≤ n ∨ i = 1) ∧ wr.ownsRow 0 95 1 (.slice va n vc) n ((sortP (cmpZ c) (Z.take i) ++ Z.drop i).map (·.1)) ∧ Only (fun k => (Value.slice va n vc).ownBlock = some k) w wr) (fun iv _ _ _ => n - (intOf iv).toNat)
  case atStart =>
    refine ⟨1, rfl, Nat.le_refl _, .inr rfl, ?_, Only.refl _ _⟩
    have e : sortP (cmpZ c) (Z.take 1) ++ Z.drop 1 = Z := by
      cases Z with
      | nil => rfl
      | cons a l => rfl
    rw [e]
    exact (unhide HR).1
  case round =>
    obtain ⟨i, rfl, h1, hin, R1, o1⟩ := hrel
    obtain ⟨wo, rfl⟩ : ∃ wo : World, wo = wr := ⟨_, rfl⟩
    by_cases hi : i < n
    · have d1 : decide ((i : Int) < (n : Int)) = true := decide_eq_true (by omega)
      obtain ⟨x, hx⟩ := getE (l := Z) (i := i) (by rw [(unhide HR).2.2]; exact hi)
      obtain ⟨B, hB⟩ : ∃ B, sortP (cmpZ c) (Z.take i) = B := ⟨_, rfl⟩
      have hBl : B.length = i := by rw [← hB, sortP_len, List.length_take, (unhide HR).2.2]; omega
      have hBm : ∀ z ∈ B, z ∈ Z := fun z hz => by rw [← hB] at hz; exact List.mem_of_mem_take ((sortP_perm _ _).mem_iff.mp hz)
      obtain ⟨tg, hva⟩ : ∃ tg, va = some ⟨tg, 0, none⟩ := by
        obtain ⟨g, cc, he, _⟩ := R1.form (by omega)
        simp only [Value.slice.injEq] at he
        exact ⟨g, he.1⟩
      subst hva
      have hnx : sortP (cmpZ c) (Z.take (i + 1)) = insP (cmpZ c) B x := by rw [sortP_succ hx, hB]
      obtain ⟨l, hl⟩ : ∃ l, B ++ Z.drop (i + 1) = l := ⟨_, rfl⟩
      have hll : l.length = n - 1 := by rw [← hl, List.length_append, hBl, List.length_drop, (unhide HR).2.2]; omega
      have hlB : ∀ k, k < i → l[k]? = B[k]? := fun k hk => by rw [← hl, List.getElem?_append_left (by omega)]
      have hs0 : l.take i ++ x :: l.drop i = B ++ Z.drop i := by rw [← hl]; exact mid_start hx hBl
      have hsp : ∀ p, p ≤ i → posP (cmpZ c) B x i = p → l.take p ++ x :: l.drop p = sortP (cmpZ c) (Z.take (i + 1)) ++ Z.drop (i + 1) := fun p hp hq => by
        rw [hnx, ← hl, mid_app (by omega)]
        unfold insP
        rw [hBl, hq]
      rw [hB, ← hs0] at R1
      have HX := hide (And.intro hx (And.intro hBl (And.intro hBm (And.intro hll (And.intro hlB hsp)))))
      clear hx hB hBl hBm hnx hl hll hlB hs0 hsp
      have HR1 := hide (And.intro R1 o1)
      clear R1 o1
      go_upto_region 4 with fail
      go_loopw [7, 8] (fun jv cv wi => ∃ j : Nat, jv = .int .i64 j ∧ j ≤ i ∧ posP (cmpZ c) B x i = posP (cmpZ c) B x j ∧ wi.ownsRow 0 95 1 (.slice (some ⟨tg, 0, none⟩) n vc) n ((l.take j ++ x :: l.drop j).map (·.1)) ∧ Only (fun k => (Value.slice (some ⟨tg, 0, none⟩) n vc).ownBlock = some k) w wi) (fun jv _ _ => (intOf jv).toNat)
      case atStart => exact ⟨i, rfl, Nat.le_refl _, rfl, (unhide HR1).1, (unhide HR1).2⟩
      case round =>
        obtain ⟨j, rfl, hji, hpos, R2, o2⟩ := hrel
        have HEX := hide (fun (hq : posP (cmpZ c) B x i = j) => show wr.ownsRow 0 95 1 (.slice (some ⟨tg, 0, none⟩) n vc) n ((sortP (cmpZ c) (Z.take (i + 1)) ++ Z.drop (i + 1)).map (·.1)) from by rw [← (unhide HX).2.2.2.2.2 j hji hq]; exact R2)
        by_cases hj : 0 < j
        · have dj : decide ((j : Int) > 0) = true := decide_eq_true (by omega)
          have dj' : decide ((0 : Int) < (j : Int)) = true := decide_eq_true (by omega)
          have djn : decide (0 < j) = true := decide_eq_true hj
          obtain ⟨k, hjk⟩ : ∃ k, j = k + 1 := ⟨j - 1, by omega⟩
          obtain ⟨a, ha⟩ := getE (l := B) (i := k) (by rw [(unhide HX).2.1]; omega)
          have hal : l[k]? = some a := by rw [(unhide HX).2.2.2.2.1 k (by omega)]; exact ha
          have hll := (unhide HX).2.2.2.1
          obtain ⟨Oa, la⟩ := rows_keep (unhide HR).1 (unhide HR).2.1 o2 ((unhide HX).2.2.1 a (List.mem_of_getElem? ha))
          obtain ⟨Ox, lx⟩ := rows_keep (unhide HR).1 (unhide HR).2.1 o2 (List.mem_of_getElem? (unhide HX).1)
          obtain ⟨ya, hya⟩ := getE (l := a.2) (i := c) la
          obtain ⟨yx, hyx⟩ := getE (l := x.2) (i := c) lx
          obtain ⟨ga, ka, hea, a0, a1, a2⟩ := getv_at Oa hya
          obtain ⟨gx, kx, hex, x0, x1, x2⟩ := getv_at Ox hyx
          have hc := World.ownsRow.cells R2 (g := tg) rfl
          have d0 := hc k a.1 (by rw [List.getElem?_map, rmid_get (by omega), if_pos (by omega), hal]; rfl)
          have d1 := hc j x.1 (by rw [List.getElem?_map, rmid_get (by omega), if_neg (by omega), if_pos rfl]; rfl)
          rw [addr_add] at d0 d1
          rw [hea] at d0
          rw [hex] at d1
          have ja : (c : Int) < (a.2.length : Int) := by omega
          have jx : (c : Int) < (x.2.length : Int) := by omega
          obtain ⟨an, han⟩ : ∃ an, a.2.length = an := ⟨_, rfl⟩
          obtain ⟨xn, hxn⟩ : ∃ xn, x.2.length = xn := ⟨_, rfl⟩
          rw [han] at d0 ja hea
          rw [hxn] at d1 jx hex
          have CC := ecmp_any ya yx wr.drew
          obtain ⟨z, hz⟩ : ∃ z, vcmp ya yx = z := ⟨_, rfl⟩
          rw [hz] at CC
          unfold vlA at CC
          have CC := hide CC
          have hst : cmpZ c a x = decide (z ≤ 0) := by
            unfold cmpZ cmpR kyR
            rw [hya, hyx, ← hz]
            rfl
          have HA := hide (And.intro ha (And.intro hal (And.intro hst (And.intro hea hex))))
          have HO2 := hide (And.intro R2 (And.intro o2 hpos))
          have hw1 : IntKind.i64.wrap ((j : Int) - 1) = (k : Int) := by rw [IntWalk.i64_in] <;> omega
          have hkn : (k : Int) < (n : Int) := by omega
          have hjn : (j : Int) < (n : Int) := by omega
          have HK := hide hjk
          clear ha hal Oa Ox hya hyx hea hex hc han hxn hz hst R2 o2 hpos hj la lx hll hjk
          go_upto_region 6 with fail
          go_cut [8] (fun zv wx => zv = .int .i64 z ∧ Only (fun _ => False) wr wx)
          case first =>
            refine wp_region_held_drew (S := (fun w' => w'.cell? ⟨tg, k, none⟩ = some (.slice (some ⟨ga, 0, none⟩) an ka) ∧ w'.cell? ⟨tg, j, none⟩ = some (.slice (some ⟨gx, 0, none⟩) xn kx) ∧ w'.cell? ⟨ga, c * 3, none⟩ = some (.bool ya.str) ∧ w'.cell? ⟨ga, c * 3 + 1, none⟩ = some (.int .i64 ya.i) ∧ w'.cell? ⟨ga, c * 3 + 2, none⟩ = some (.string ya.s) ∧ w'.cell? ⟨gx, c * 3, none⟩ = some (.bool yx.str) ∧ w'.cell? ⟨gx, c * 3 + 1, none⟩ = some (.int .i64 yx.i) ∧ w'.cell? ⟨gx, c * 3 + 2, none⟩ = some (.string yx.s))) (by kernel_rfl) ⟨d0, d1, a0, a1, a2, x0, x1, x2⟩ (fun hH0 => ?_)
            refine takeH 0 20 (v := ?vh1) rfl rfl (by kernel_rfl) (by kernel_rfl) (by kernel_rfl) (fun _ _ _ h => h) (Or.inl ⟨by rfl, ?hh1⟩) hH0 ?rh1
            case hh1 => (intro w hSw; clear hSw; go_simp; (try with_reducible rfl))
            case rh1 =>
            try simp only [Act.put, List.setIfInBounds_toArray, List.set_cons_zero, List.set_cons_succ]
            refine takeH 1 21 (v := ?vh2) rfl rfl (by kernel_rfl) (by kernel_rfl) (by kernel_rfl) (fun _ _ _ h => h) (Or.inl ⟨by rfl, ?hh2⟩) hH0 ?rh2
            case hh2 => (intro w hSw; clear hSw; go_simp; (try with_reducible rfl))
            case rh2 =>
            try simp only [Act.put, List.setIfInBounds_toArray, List.set_cons_zero, List.set_cons_succ]
            refine takeH 2 22 (v := ?vh3) rfl rfl (by kernel_rfl) (by kernel_rfl) (by kernel_rfl) (fun _ _ _ h => h) (Or.inl ⟨by rfl, ?hh3⟩) hH0 ?rh3
            case hh3 => (intro w hSw; clear hSw; go_simp; (try with_reducible rfl))
            case rh3 =>
            try simp only [Act.put, List.setIfInBounds_toArray, List.set_cons_zero, List.set_cons_succ]
            refine takeH 3 23 (v := ?vh4) rfl rfl (by kernel_rfl) (by kernel_rfl) (by kernel_rfl) (fun _ _ _ h => h) (Or.inl ⟨by rfl, ?hh4⟩) hH0 ?rh4
            case hh4 => (intro w hSw; clear hSw; go_simp; (try with_reducible rfl))
            case rh4 =>
            try simp only [Act.put, List.setIfInBounds_toArray, List.set_cons_zero, List.set_cons_succ]
            refine takeH 4 24 (v := ?vh5) rfl rfl (by kernel_rfl) (by kernel_rfl) (by kernel_rfl) (fun _ _ _ h => h) (Or.inl ⟨by rfl, ?hh5⟩) hH0 ?rh5
            case hh5 => (intro w hSw; obtain ⟨s0, s1, s2, s3, s4, s5, s6, s7⟩ := hSw; go_simp; (try with_reducible rfl))
            case rh5 =>
            try simp only [Act.put, List.setIfInBounds_toArray, List.set_cons_zero, List.set_cons_succ]
            refine takeH 5 25 (v := ?vh6) rfl rfl (by kernel_rfl) (by kernel_rfl) (by kernel_rfl) (fun _ _ _ h => h) (Or.inl ⟨by rfl, ?hh6⟩) hH0 ?rh6
            case hh6 => (intro w hSw; clear hSw; go_simp; (try with_reducible rfl))
            case rh6 =>
            try simp only [Act.put, List.setIfInBounds_toArray, List.set_cons_zero, List.set_cons_succ]
            refine takeH 6 26 (v := ?vh7) rfl rfl (by kernel_rfl) (by kernel_rfl) (by kernel_rfl) (fun _ _ _ h => h) (Or.inl ⟨by rfl, ?hh7⟩) hH0 ?rh7
            case hh7 => (intro w hSw; clear hSw; go_simp; (try with_reducible rfl))
            case rh7 =>
            try simp only [Act.put, List.setIfInBounds_toArray, List.set_cons_zero, List.set_cons_succ]
            refine takeH 7 27 (v := ?vh8) rfl rfl (by kernel_rfl) (by kernel_rfl) (by kernel_rfl) (fun _ _ _ h => h) (Or.inl ⟨by rfl, ?hh8⟩) hH0 ?rh8
            case hh8 => (intro w hSw; obtain ⟨s0, s1, s2, s3, s4, s5, s6, s7⟩ := hSw; go_simp; (try with_reducible rfl))
            case rh8 =>
            try simp only [Act.put, List.setIfInBounds_toArray, List.set_cons_zero, List.set_cons_succ]
            refine takeH 8 28 (v := ?vh9) rfl rfl (by kernel_rfl) (by kernel_rfl) (by kernel_rfl) (fun _ _ _ h => h) (Or.inl ⟨by rfl, ?hh9⟩) hH0 ?rh9
            case hh9 => (intro w hSw; clear hSw; go_simp; (try with_reducible rfl))
            case rh9 =>
            try simp only [Act.put, List.setIfInBounds_toArray, List.set_cons_zero, List.set_cons_succ]
            refine takeH 9 29 (v := ?vh10) rfl rfl (by kernel_rfl) (by kernel_rfl) (by kernel_rfl) (fun _ _ _ h => h) (Or.inl ⟨by rfl, ?hh10⟩) hH0 ?rh10
            case hh10 => (intro w hSw; clear hSw; go_simp; (try with_reducible rfl))
            case rh10 =>
            try simp only [Act.put, List.setIfInBounds_toArray, List.set_cons_zero, List.set_cons_succ]
            refine takeH 10 30 (v := ?vh11) rfl rfl (by kernel_rfl) (by kernel_rfl) (by kernel_rfl) (fun _ _ _ h => h) (Or.inl ⟨by rfl, ?hh11⟩) hH0 ?rh11
            case hh11 => (intro w hSw; clear hSw; go_simp; (try with_reducible rfl))
            case rh11 =>
            try simp only [Act.put, List.setIfInBounds_toArray, List.set_cons_zero, List.set_cons_succ]
            refine takeH 11 31 (v := ?vh12) rfl rfl (by kernel_rfl) (by kernel_rfl) (by kernel_rfl) (fun _ _ _ h => h) (Or.inl ⟨by rfl, ?hh12⟩) hH0 ?rh12
            case hh12 => (intro w hSw; obtain ⟨s0, s1, s2, s3, s4, s5, s6, s7⟩ := hSw; go_simp; (try with_reducible rfl))
            case rh12 =>
            try simp only [Act.put, List.setIfInBounds_toArray, List.set_cons_zero, List.set_cons_succ]
            refine takeH 12 32 (v := ?vh13) rfl rfl (by kernel_rfl) (by kernel_rfl) (by kernel_rfl) (fun _ _ _ h => h) (Or.inl ⟨by rfl, ?hh13⟩) hH0 ?rh13
            case hh13 => (intro w hSw; clear hSw; go_simp; (try with_reducible rfl))
            case rh13 =>
            try simp only [Act.put, List.setIfInBounds_toArray, List.set_cons_zero, List.set_cons_succ]
            refine takeH 13 33 (v := ?vh14) rfl rfl (by kernel_rfl) (by kernel_rfl) (by kernel_rfl) (fun _ _ _ h => h) (Or.inl ⟨by rfl, ?hh14⟩) hH0 ?rh14
            case hh14 => (intro w hSw; clear hSw; go_simp; (try with_reducible rfl))
            case rh14 =>
            try simp only [Act.put, List.setIfInBounds_toArray, List.set_cons_zero, List.set_cons_succ]
            refine takeH 14 34 (v := ?vh15) rfl rfl (by kernel_rfl) (by kernel_rfl) (by kernel_rfl) (fun _ _ _ h => h) (Or.inl ⟨by rfl, ?hh15⟩) hH0 ?rh15
            case hh15 => (intro w hSw; obtain ⟨s0, s1, s2, s3, s4, s5, s6, s7⟩ := hSw; go_simp; (try with_reducible rfl))
            case rh15 =>
            try simp only [Act.put, List.setIfInBounds_toArray, List.set_cons_zero, List.set_cons_succ]
            refine callH 15 (by kernel_rfl) rfl 35 rfl rfl 115 Tryz.func115 (by kernel_rfl) (by kernel_rfl) #[.tmp 27, .tmp 34] #[152, 152] rfl #[.agg #[.bool ya.str, .int .i64 ya.i, .string ya.s], .agg #[.bool yx.str, .int .i64 yx.i, .string yx.s]] (by simp [Act.eval]) (R := fun v w' => v = .int .i64 z ∧ Only (fun _ => False) wr.drew w') ((unhide CC).mono (by rintro en w' ⟨rfl, o⟩; exact ⟨_, rfl, rfl, o⟩)) ?kh
            case kh =>
            rintro _ w6 ⟨rfl, o6⟩
            have S6 : w6.cell? ⟨tg, k, none⟩ = some (.slice (some ⟨ga, 0, none⟩) an ka) ∧ w6.cell? ⟨tg, j, none⟩ = some (.slice (some ⟨gx, 0, none⟩) xn kx) ∧ w6.cell? ⟨ga, c * 3, none⟩ = some (.bool ya.str) ∧ w6.cell? ⟨ga, c * 3 + 1, none⟩ = some (.int .i64 ya.i) ∧ w6.cell? ⟨ga, c * 3 + 2, none⟩ = some (.string ya.s) ∧ w6.cell? ⟨gx, c * 3, none⟩ = some (.bool yx.str) ∧ w6.cell? ⟨gx, c * 3 + 1, none⟩ = some (.int .i64 yx.i) ∧ w6.cell? ⟨gx, c * 3 + 2, none⟩ = some (.string yx.s) := ⟨o6.cellF hH0.1, o6.cellF hH0.2.1, o6.cellF hH0.2.2.1, o6.cellF hH0.2.2.2.1, o6.cellF hH0.2.2.2.2.1, o6.cellF hH0.2.2.2.2.2.1, o6.cellF hH0.2.2.2.2.2.2.1, o6.cellF hH0.2.2.2.2.2.2.2⟩
            refine ⟨S6, ?_⟩
            try simp only [Act.put, List.setIfInBounds_toArray, List.set_cons_zero, List.set_cons_succ]
            refine takeH 16 8 (v := ?vh16) rfl rfl (by kernel_rfl) (by kernel_rfl) (by kernel_rfl) (fun _ _ _ h => h) (Or.inl ⟨by rfl, ?hh16⟩) S6 ?rh16
            case hh16 => (intro w hSw; clear hSw; go_simp; (try with_reducible rfl))
            case rh16 =>
            try simp only [Act.put, List.setIfInBounds_toArray, List.set_cons_zero, List.set_cons_succ]
            refine wpAnyH_done (by kernel_rfl) ?_ _
            have oD : Only (fun _ => False) wr w6 := (Only.refl _ wr).drew.trans o6 (fun _ _ e => e)
            have HF := hide oD
            clear hH0 S6 o6 oD
            go_wp2_with fail
            go_meet
            exact ⟨rfl, unhide HF⟩
          case rest =>
          obtain ⟨rfl, o3⟩ := hcut
          generalize hwc : wc = w5 at *
          clear hwc
          have d0 := cell_keep d0 o3 (fun e => e)
          have d1 := cell_keep d1 o3 (fun e => e)
          have R5 := ownsRow_keep (unhide HO2).1 o3 (fun _ _ e => e)
          have o5 := (unhide HO2).2.1.trans o3 (fun _ _ e => e.elim)
          clear CC a0 a1 a2 x0 x1 x2 ja jx
          by_cases hz : z ≤ 0
          · have d : decide (z ≤ 0) = true := decide_eq_true hz
            have hq : posP (cmpZ c) B x i = j := by
              rw [(unhide HO2).2.2, unhide HK]
              exact posP_stop (unhide HA).1 (by rw [(unhide HA).2.2.1]; exact d)
            have RX := ownsRow_keep (unhide HEX hq) o3 (fun _ _ e => e)
            have HF2 := hide (And.intro RX o5)
            clear hz hq RX o5 R5 o3 d0 d1 hw1
            go_wp2_with fail
            go_roundw
            case rel => exact ⟨i + 1, by go_num, by omega, .inl (by omega), (unhide HF2).1, (unhide HF2).2⟩
            case measure => simp [intOf]; omega
          · have d : decide (z ≤ 0) = false := decide_eq_false hz
            have f0 := gownFree R5 k
            have f1 := gownFree R5 j
            have hll := (unhide HX).2.2.2.1
            have hKJ := unhide HK
            have R6 := gbrowset (i := j) (gbrowset (i := k) R5 (.slice (some ⟨gx, 0, none⟩) xn kx)) (.slice (some ⟨ga, 0, none⟩) an ka)
            have R7 : ((w5.setCell ⟨tg, k, none⟩ (.slice (some ⟨gx, 0, none⟩) xn kx)).setCell ⟨tg, j, none⟩ (.slice (some ⟨ga, 0, none⟩) an ka)).ownsRow 0 95 1 (.slice (some ⟨tg, 0, none⟩) n vc) n ((l.take k ++ x :: l.drop k).map (·.1)) := by
              have e : ((((l.take j ++ x :: l.drop j).map (·.1)).set k (.slice (some ⟨gx, 0, none⟩) xn kx)).set j (.slice (some ⟨ga, 0, none⟩) an ka)) = (l.take k ++ x :: l.drop k).map (·.1) := by
                rw [← (unhide HA).2.2.2.1, ← (unhide HA).2.2.2.2, hKJ, ← List.map_set, ← List.map_set, mid_swap (by omega) (unhide HA).2.1]
              rw [← e]
              exact R6
            have o7 : Only (fun k => (Value.slice (some ⟨tg, 0, none⟩) n vc).ownBlock = some k) w5 ((w5.setCell ⟨tg, k, none⟩ (.slice (some ⟨gx, 0, none⟩) xn kx)).setCell ⟨tg, j, none⟩ (.slice (some ⟨ga, 0, none⟩) an ka)).drew := (((only1 (p := tg) _ _).trans (only1 (p := tg) _ _) (fun _ _ h => h)).drew).mono (fun k _ e => by rw [e]; rfl)
            have hp2 : posP (cmpZ c) B x i = posP (cmpZ c) B x k := by
              rw [(unhide HO2).2.2, hKJ]
              exact posP_go (unhide HA).1 (by rw [(unhide HA).2.2.1]; exact d)
            have HF2 := hide (And.intro (show ((w5.setCell ⟨tg, k, none⟩ (.slice (some ⟨gx, 0, none⟩) xn kx)).setCell ⟨tg, j, none⟩ (.slice (some ⟨ga, 0, none⟩) an ka)).drew.ownsRow 0 95 1 (.slice (some ⟨tg, 0, none⟩) n vc) n ((l.take k ++ x :: l.drop k).map (·.1)) from R7) (And.intro (o5.trans o7 (fun _ _ e => e)) hp2))
            have hk' : k = j - 1 := by omega
            rw [hk'] at d0 f0 HF2
            have hj1 : (j : Int) - 1 < (n : Int) := by omega
            have hj0 : (0 : Int) ≤ (j : Int) - 1 := by omega
            have hj8 : j ≤ 100 := by omega
            have HK2 := hide hk'
            clear hz R5 R6 R7 o7 o5 o3 hp2 hw1 hll hKJ hk' hkn
            go_upto_region 8 with fail
            go_region
            go_wp2_with fail
            go_roundw
            case rel => exact ⟨k, by rw [unhide HK]; go_num, by have := unhide HK; omega, by rw [unhide HK2]; exact (unhide HF2).2.2, by rw [unhide HK2]; exact (unhide HF2).1, (unhide HF2).2.1⟩
            case measure => have := unhide HK; simp [intOf]; omega
        · obtain rfl : j = 0 := by omega
          have dj : decide (((0 : Nat) : Int) > 0) = false := decide_eq_false (by omega)
          have dj' : decide ((0 : Int) < ((0 : Nat) : Int)) = false := decide_eq_false (by omega)
          have HF2 := hide (And.intro (unhide HEX (by rw [hpos]; rfl)) o2)
          clear R2 o2 hpos hj
          go_wp2_with fail
          go_roundw
          case rel => exact ⟨i + 1, by go_num, by omega, .inl (by omega), (unhide HF2).1, (unhide HF2).2⟩
          case measure => simp [intOf]; omega
    · have d1 : decide ((i : Int) < (n : Int)) = false := decide_eq_false (by omega)
      have d1n : decide (i < n) = false := decide_eq_false hi
      have e : sortP (cmpZ c) (Z.take i) ++ Z.drop i = sortP (cmpZ c) Z := by rw [List.take_of_length_le (by rw [(unhide HR).2.2]; omega), List.drop_of_length_le (by rw [(unhide HR).2.2]; omega), List.append_nil]
      rw [e] at R1
      have HF2 := hide (And.intro R1 o1)
      clear R1 o1 e
      go_wp2_with fail
      go_end0
      exact ⟨rfl, unhide HF2⟩
end
end Go.Proofs.Qxb6500412aGreat
