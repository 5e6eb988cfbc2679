/-
  OWN WORK. QUERY's LAW: loosely, Road (written by tools/gen_ql7.py).
-/
import Derived.Test.Qxb6500412aGreatQL6
namespace Go.Proofs.Qxb6500412aGreat
open Go.RowKit Go.PlainAid
set_option linter.unusedSimpArgs false
set_option linter.unusedVariables false

theorem rl_at {w : World} {a : Option Addr} {n cap : Nat} {Z : List (Value × List Vl)} (h : w.ownsRow 0 95 1 (.slice a n cap) Z.length (Z.map (·.1))) {i : Nat} {z : Value × List Vl} (hx : Z[i]? = some z) : ∃ g, a = some ⟨g, 0, none⟩ ∧ w.cell? ⟨g, i, none⟩ = some z.1 := by
  have hi := (List.getElem?_eq_some_iff.1 hx).1
  rcases h.2 with ⟨he, h0⟩ | ⟨g, cap', cur, he, _⟩
  · omega
  · obtain ⟨rfl, _⟩ : a = some ⟨g, 0, none⟩ ∧ True := by
      have := he
      simp at this
      exact ⟨this.1, trivial⟩
    refine ⟨g, rfl, ?_⟩
    have hc := World.ownsRow.cells h (g := g) (by first | exact rfl | simp [Value.ownBlock])
    have a0 : (Z.map (·.1))[i]? = some z.1 := by rw [List.getElem?_map, hx]; rfl
    have b0 := hc _ _ a0
    rw [addr_add] at b0
    simpa using b0
set_option maxRecDepth 100000 in
set_option maxHeartbeats 4000000 in
theorem slloosely_any (v : Vl) (c : Cm) (w : World) : Calls Tryz.prog 183 #[vlA v, scU c] w fun e w' => ∃ b, e = .returned (.bool b) ∧ Only (fun _ => False) w w' := by
  unfold vlA scU
  have o1 : Only (fun _ => False) w ((w.alloc (.cells #[.bool v.str, .int .i64 v.i, .string v.s] 152)).alloc (.cells #[.string c.col, .string (opT c.op), .bool c.lit.str, .int .i64 c.lit.i, .string c.lit.s] 259)) := ((Only.refl _ w).alloc _).alloc _
  have N1 : Has ((w.alloc (.cells #[.bool v.str, .int .i64 v.i, .string v.s] 152)).alloc (.cells #[.string c.col, .string (opT c.op), .bool c.lit.str, .int .i64 c.lit.i, .string c.lit.s] 259)) w.heap.size #[.bool v.str, .int .i64 v.i, .string v.s] 152 := (Has.new w _ _).keep ((Only.refl (fun _ => False) _).alloc _) (fun e => e)
  have N2 : Has ((w.alloc (.cells #[.bool v.str, .int .i64 v.i, .string v.s] 152)).alloc (.cells #[.string c.col, .string (opT c.op), .bool c.lit.str, .int .i64 c.lit.i, .string c.lit.s] 259)) (w.heap.size + 1) #[.string c.col, .string (opT c.op), .bool c.lit.str, .int .i64 c.lit.i, .string c.lit.s] 259 := Has.new' _ _ _ _ (by simp)
  go_enter Tryz.func183, Tryz.ntmps183
  go_upto_region 1 with fail
  generalize (w.alloc (.cells #[.bool v.str, .int .i64 v.i, .string v.s] 152)).alloc (.cells #[.string c.col, .string (opT c.op), .bool c.lit.str, .int .i64 c.lit.i, .string c.lit.s] 259) = w1 at *
  have a0 : w1.cell? ⟨w.heap.size, 0, none⟩ = some (.bool v.str) := N1.cell 0
  have a1 : w1.cell? ⟨w.heap.size, 1, none⟩ = some (.int .i64 v.i) := N1.cell 1
  have a2 : w1.cell? ⟨w.heap.size, 2, none⟩ = some (.string v.s) := N1.cell 2
  have al := N1.lt
  have b1 : w1.cell? ⟨w.heap.size + 1, 1, none⟩ = some (.string (opT c.op)) := N2.cell 1
  have b2 : w1.cell? ⟨w.heap.size + 1, 2, none⟩ = some (.bool c.lit.str) := N2.cell 2
  have b3 : w1.cell? ⟨w.heap.size + 1, 3, none⟩ = some (.int .i64 c.lit.i) := N2.cell 3
  have b4 : w1.cell? ⟨w.heap.size + 1, 4, none⟩ = some (.string c.lit.s) := N2.cell 4
  have bl := N2.lt
  have CC := ecmp_any v c.lit w1
  unfold vlA at CC
  obtain ⟨z, hz⟩ : ∃ z, vcmp v c.lit = z := ⟨_, rfl⟩
  rw [hz] at CC
  have CC := hide CC
  have HO := hide o1
  obtain ⟨os, hos⟩ : ∃ s, opT c.op = s := ⟨_, rfl⟩
  rw [hos] at b1 N2
  clear hz o1 N1 hos
  generalize w.heap.size = G at *
  go_wp2_with fail
  refine (unhide CC).mono ?_
  rintro e w2 ⟨rfl, o2⟩
  have b1 : w2.cell? ⟨G + 1, 1, none⟩ = some (.string os) := cell_keep b1 o2 (fun e => e)
  have bl : G + 1 < w2.heap.size := Nat.lt_of_lt_of_le bl o2.size
  have HO2 := hide ((unhide HO).trans o2 (fun _ _ e => e))
  clear CC o2 HO a0 a1 a2 al b2 b3 b4 N2
  by_cases e1 : os = ⟨#[61]⟩
  · have d1 : (os.toList == [61]) = true := lit_t (by decide +kernel) e1
    clear e1
    go_wp2_with fail
    go_ret
    exact ⟨_, rfl, unhide HO2⟩
  have d1 : (os.toList == [61]) = false := lit_f (by decide +kernel) e1
  by_cases e2 : os = ⟨#[60]⟩
  · have d2 : (os.toList == [60]) = true := lit_t (by decide +kernel) e2
    clear e1 e2
    go_wp2_with fail
    go_ret
    exact ⟨_, rfl, unhide HO2⟩
  have d2 : (os.toList == [60]) = false := lit_f (by decide +kernel) e2
  by_cases e3 : os = ⟨#[60, 61]⟩
  · have d3 : (os.toList == [60, 61]) = true := lit_t (by decide +kernel) e3
    clear e1 e2 e3
    go_wp2_with fail
    go_ret
    exact ⟨_, rfl, unhide HO2⟩
  have d3 : (os.toList == [60, 61]) = false := lit_f (by decide +kernel) e3
  by_cases e4 : os = ⟨#[62]⟩
  · have d4 : (os.toList == [62]) = true := lit_t (by decide +kernel) e4
    clear e1 e2 e3 e4
    go_wp2_with fail
    go_ret
    exact ⟨_, rfl, unhide HO2⟩
  have d4 : (os.toList == [62]) = false := lit_f (by decide +kernel) e4
  by_cases e5 : os = ⟨#[62, 61]⟩
  · have d5 : (os.toList == [62, 61]) = true := lit_t (by decide +kernel) e5
    clear e1 e2 e3 e4 e5
    go_wp2_with fail
    go_ret
    exact ⟨_, rfl, unhide HO2⟩
  have d5 : (os.toList == [62, 61]) = false := lit_f (by decide +kernel) e5
  clear e1 e2 e3 e4 e5
  go_wp2_with fail
  go_ret
  exact ⟨_, rfl, unhide HO2⟩
section
variable {w w' : World} {ca wa ra : Option Addr} {cn cc wn wc rn rc : Nat} {cols : List Cl} {tn : ByteArray} {pk ix : Int} {l : List Cm} {Z : List (Value × List Vl)}
set_option maxRecDepth 100000 in
set_option maxHeartbeats 16000000 in
theorem slroad_any (h : OwnC w (.slice ca cn cc) cols) (hl : cols.length ≤ 100) (hw : OwnSc w (.slice wa wn wc) l) (hwl : l.length ≤ 200) (hr : w.ownsRow 0 95 1 (.slice ra rn rc) Z.length (Z.map (·.1))) (hrr : ∀ z ∈ Z, OwnV w z.1 z.2 ∧ z.2.length = cols.length) (hz8 : Z.length ≤ 8) : Calls Tryz.prog 127 #[schU tn (.slice ca cn cc) pk ix, .slice wa wn wc, .slice ra rn rc] w fun e w' => ∃ n : Nat, e = .returned (.int .i64 n) ∧ Only (fun _ => False) w w' := by
  unfold schU
  obtain ⟨b7, d7, hsh⟩ := hw.shape
  have hn : wn = l.length := by cases hsh; rfl
  clear hsh
  obtain ⟨b8, d8, hsh⟩ := ownsRow_shape hr
  have hm : rn = Z.length := by cases hsh; rfl
  clear hsh
  rw [← hm] at hz8
  have o1 : Only (fun _ => False) w (w.alloc (.cells #[.string tn, .slice ca cn cc, .int .i64 pk, .int .i64 ix] 79)) := (Only.refl _ w).alloc _
  have N1 := Has.new w #[.string tn, .slice ca cn cc, .int .i64 pk, .int .i64 ix] 79
  have CP := slplanIs_any (tn := tn) (pk := pk) (ix := ix) (h.keep o1 (fun _ _ e => e)) hl (hw.quiet o1) hwl
  unfold schU at CP
  rw [← hn] at hwl
  have HH := hide (And.intro N1 (And.intro (h.keep o1 (fun _ _ e => e)) (And.intro (hw.quiet o1) (And.intro (ownsRow_keep hr o1 (fun _ _ e => e)) (And.intro (show ∀ z ∈ Z, OwnV (w.alloc (.cells #[.string tn, .slice ca cn cc, .int .i64 pk, .int .i64 ix] 79)) z.1 z.2 ∧ z.2.length = cols.length from fun z hz => ⟨(hrr z hz).1.keep o1 (fun _ _ e => e), (hrr z hz).2⟩) o1)))))
  have HN := hide (And.intro hn hm)
  have HL := hide hl
  obtain ⟨kd, hkd⟩ : ∃ z, plI cols pk ix l = z := ⟨_, rfl⟩
  rw [hkd] at CP
  have CP := hide CP
  clear h hw hr hrr o1 N1 hn hm hl hkd
  go_enter Tryz.func127, Tryz.ntmps127
  go_upto_region 1 with fail
  generalize w.alloc (.cells #[.string tn, .slice ca cn cc, .int .i64 pk, .int .i64 ix] 79) = w1 at *
  generalize w.heap.size = G at *
  have s0 : w1.cell? ⟨G, 0, none⟩ = some (.string tn) := (unhide HH).1.cell 0
  have s1 : w1.cell? ⟨G, 1, none⟩ = some (.slice ca cn cc) := (unhide HH).1.cell 1
  have s2 : w1.cell? ⟨G, 2, none⟩ = some (.int .i64 pk) := (unhide HH).1.cell 2
  have s3 : w1.cell? ⟨G, 3, none⟩ = some (.int .i64 ix) := (unhide HH).1.cell 3
  have sl := (unhide HH).1.lt
  go_wp2_with fail
  refine (unhide CP).mono ?_
  rintro e w2 ⟨rfl, o2⟩
  have HO2 := hide o2
  have N2 := (unhide HH).1.keep o2 (fun e => e)
  have s0 : w2.cell? ⟨G, 0, none⟩ = some (.string tn) := N2.cell 0
  have s1 : w2.cell? ⟨G, 1, none⟩ = some (.slice ca cn cc) := N2.cell 1
  have s2 : w2.cell? ⟨G, 2, none⟩ = some (.int .i64 pk) := N2.cell 2
  have s3 : w2.cell? ⟨G, 3, none⟩ = some (.int .i64 ix) := N2.cell 3
  have sl := N2.lt
  clear CP o2 N2
  go_upto_if 19 with fail
  go_cut [8] from 20 to 21 (fun cv wx => ∃ col : Int, cv = .int .i64 col ∧ wx = w2)
  case first =>
    by_cases h3 : kd = 3
    · have b3 : (kd == 3) = true := by simpa using h3
      clear h3
      go_wp2_with fail
      go_meet
      exact ⟨_, rfl, rfl⟩
    · have b3 : (kd == 3) = false := by simpa using h3
      clear h3
      go_wp2_with fail
      go_meet
      exact ⟨_, rfl, rfl⟩
  case rest =>
  obtain ⟨col, rfl, rfl⟩ := hcut
  clear s0 s1 s2 s3 sl
  go_upto_region 7 with fail
  go_loopw [9, 10, 11, 12] (fun cv rv _ _ wr => ∃ (cnt r : Nat), cv = .int .i64 cnt ∧ rv = .int .i64 r ∧ cnt ≤ r ∧ r ≤ rn ∧ Only (fun _ => False) w1 wr) (fun _ rv _ _ _ => rn - (intOf rv).toNat)
  case atStart => exact ⟨0, 0, rfl, rfl, Nat.le_refl _, Nat.zero_le _, unhide HO2⟩
  case round =>
    clear HO2
    obtain ⟨cnt, r, rfl, rfl, hcr, hrn, oR⟩ := hrel
    by_cases hs : r < rn
    · have b1 : decide ((r : Int) < (rn : Int)) = true := decide_eq_true (by omega)
      have b1p : (r : Int) < (rn : Int) := by omega
      obtain ⟨z, hz⟩ := getE (l := Z) (i := r) (by rw [← (unhide HN).2]; exact hs)
      have HZ := hide hz
      have HOR := hide oR
      clear hz oR
      go_upto_region 11 with fail
      generalize hwr : wr = wq at *
      go_loopw [11, 12] (fun bv iv wi => ∃ (b : Bool) (i : Nat), bv = .bool b ∧ iv = .int .i64 i ∧ i ≤ wn ∧ Only (fun _ => False) w1 wi) (fun _ iv _ => wn - (intOf iv).toNat)
      case atStart => exact ⟨true, 0, rfl, rfl, Nat.zero_le _, unhide HOR⟩
      case round =>
        obtain ⟨b, i, rfl, rfl, hi, oI⟩ := hrel
        have HOI := hide oI
        clear oI
        by_cases hsi : i < wn
        · have b2 : decide ((i : Int) < (wn : Int)) = true := decide_eq_true (by omega)
          have b2p : (i : Int) < (wn : Int) := by omega
          cases b with
          | false =>
            go_wp2_with fail
            go_roundw
            case rel => exact ⟨cnt, r + 1, rfl, by go_num, by omega, by omega, unhide HOI⟩
            case measure => simp [intOf]; omega
          | true =>
            obtain ⟨c, hc⟩ := getE (l := l) (i := i) (by rw [← (unhide HN).1]; exact hsi)
            obtain ⟨ga, hga, d0, d1, d2, d3, d4⟩ := ((unhide HH).2.2.1.quiet (unhide HOI)).at_ hc
            have NW := (unhide HH).1.keep (unhide HOI) (fun e => e)
            have s0 : wr.cell? ⟨G, 0, none⟩ = some (.string tn) := NW.cell 0
            have s1 : wr.cell? ⟨G, 1, none⟩ = some (.slice ca cn cc) := NW.cell 1
            have s2 : wr.cell? ⟨G, 2, none⟩ = some (.int .i64 pk) := NW.cell 2
            have s3 : wr.cell? ⟨G, 3, none⟩ = some (.int .i64 ix) := NW.cell 3
            have oD : Only (fun _ => False) wr wr.drew := (Only.refl _ wr).drew
            have C1 := slusableOn_any (tn := tn) (pk := pk) (ix := ix) ((unhide HH).2.1.keep ((unhide HOI).trans oD (fun _ _ e => e)) (fun _ _ e => e)) (unhide HL) c col
            unfold schU scU at C1
            obtain ⟨u, hu⟩ : ∃ b, uoB cols c col = b := ⟨_, rfl⟩
            rw [hu] at C1
            have C1 := hide C1
            have HU := hide hu
            have HC := hide hc
            clear hu hc NW oD
            subst hga
            have S0 : wr.cell? ⟨G, 0, none⟩ = some (.string tn) ∧ wr.cell? ⟨G, 1, none⟩ = some (.slice ca cn cc) ∧ wr.cell? ⟨G, 2, none⟩ = some (.int .i64 pk) ∧ wr.cell? ⟨G, 3, none⟩ = some (.int .i64 ix) ∧ wr.cell? ⟨ga, i * 5, none⟩ = some (.string c.col) ∧ wr.cell? ⟨ga, i * 5 + 1, none⟩ = some (.string (opT c.op)) ∧ wr.cell? ⟨ga, i * 5 + 2, none⟩ = some (.bool c.lit.str) ∧ wr.cell? ⟨ga, i * 5 + 3, none⟩ = some (.int .i64 c.lit.i) ∧ wr.cell? ⟨ga, i * 5 + 4, none⟩ = some (.string c.lit.s) := ⟨s0, s1, s2, s3, d0, d1, d2, d3, d4⟩
            have HSB := hide (show ∀ W, Only (fun _ => False) wr W → (W.cell? ⟨G, 0, none⟩ = some (.string tn) ∧ W.cell? ⟨G, 1, none⟩ = some (.slice ca cn cc) ∧ W.cell? ⟨G, 2, none⟩ = some (.int .i64 pk) ∧ W.cell? ⟨G, 3, none⟩ = some (.int .i64 ix) ∧ W.cell? ⟨ga, i * 5, none⟩ = some (.string c.col) ∧ W.cell? ⟨ga, i * 5 + 1, none⟩ = some (.string (opT c.op)) ∧ W.cell? ⟨ga, i * 5 + 2, none⟩ = some (.bool c.lit.str) ∧ W.cell? ⟨ga, i * 5 + 3, none⟩ = some (.int .i64 c.lit.i) ∧ W.cell? ⟨ga, i * 5 + 4, none⟩ = some (.string c.lit.s)) from fun W o => ⟨o.cellS s0, o.cellS s1, o.cellS s2, o.cellS s3, o.cellS d0, o.cellS d1, o.cellS d2, o.cellS d3, o.cellS d4⟩)
            clear s0 s1 s2 s3 d0 d1 d2 d3 d4
            go_upto_region 13 with fail
            go_cut [59] from 37 to 58 (fun bv wx => ∃ b : Bool, bv = .bool b ∧ (b = true → uoB cols c col = true) ∧ Only (fun _ => False) wr wx)
            case first =>
              by_cases h4 : kd = 4
              · have b4 : (kd != 4) = false := by simp [h4]
                clear h4
                refine wp_region_held_drew (S := (fun w' => w'.cell? ⟨G, 0, none⟩ = some (.string tn) ∧ w'.cell? ⟨G, 1, none⟩ = some (.slice ca cn cc) ∧ w'.cell? ⟨G, 2, none⟩ = some (.int .i64 pk) ∧ w'.cell? ⟨G, 3, none⟩ = some (.int .i64 ix) ∧ w'.cell? ⟨ga, i * 5, none⟩ = some (.string c.col) ∧ w'.cell? ⟨ga, i * 5 + 1, none⟩ = some (.string (opT c.op)) ∧ w'.cell? ⟨ga, i * 5 + 2, none⟩ = some (.bool c.lit.str) ∧ w'.cell? ⟨ga, i * 5 + 3, none⟩ = some (.int .i64 c.lit.i) ∧ w'.cell? ⟨ga, i * 5 + 4, none⟩ = some (.string c.lit.s))) (by kernel_rfl) S0 (fun hH0 => ?_)
                refine takeH 0 37 (v := ?vra1) rfl rfl (by kernel_rfl) (by kernel_rfl) (by kernel_rfl) (fun _ _ _ h => h) (Or.inl ⟨by rfl, ?hra1⟩) hH0 ?rra1
                case hra1 => (intro w hSw; clear hSw; go_simp; (try with_reducible rfl))
                case rra1 =>
                try simp only [Act.put, List.setIfInBounds_toArray, List.set_cons_zero, List.set_cons_succ]
                refine takeH 1 38 (v := ?vra2) rfl rfl (by kernel_rfl) (by kernel_rfl) (by kernel_rfl) (fun _ _ _ h => h) (Or.inl ⟨by rfl, ?hra2⟩) hH0 ?rra2
                case hra2 => (intro w hSw; clear hSw; go_simp; (try with_reducible rfl))
                case rra2 =>
                try simp only [Act.put, List.setIfInBounds_toArray, List.set_cons_zero, List.set_cons_succ]
                refine takeH 2 39 (v := ?vra3) rfl rfl (by kernel_rfl) (by kernel_rfl) (by kernel_rfl) (fun _ _ _ h => h) (Or.inl ⟨by rfl, ?hra3⟩) hH0 ?rra3
                case hra3 => (intro w hSw; clear hSw; go_simp; (try with_reducible rfl))
                case rra3 =>
                try simp only [Act.put, List.setIfInBounds_toArray, List.set_cons_zero, List.set_cons_succ]
                refine takeH 3 40 (v := undef) rfl rfl (by kernel_rfl) (by kernel_rfl) (by kernel_rfl) (fun _ _ _ h => h) (Or.inr ⟨by rfl, rfl⟩) hH0 ?rra4
                case rra4 =>
                try simp only [Act.put, List.setIfInBounds_toArray, List.set_cons_zero, List.set_cons_succ]
                refine takeH 4 41 (v := undef) rfl rfl (by kernel_rfl) (by kernel_rfl) (by kernel_rfl) (fun _ _ _ h => h) (Or.inr ⟨by rfl, rfl⟩) hH0 ?rra5
                case rra5 =>
                try simp only [Act.put, List.setIfInBounds_toArray, List.set_cons_zero, List.set_cons_succ]
                refine takeH 5 42 (v := undef) rfl rfl (by kernel_rfl) (by kernel_rfl) (by kernel_rfl) (fun _ _ _ h => h) (Or.inr ⟨by rfl, rfl⟩) hH0 ?rra6
                case rra6 =>
                try simp only [Act.put, List.setIfInBounds_toArray, List.set_cons_zero, List.set_cons_succ]
                refine takeH 6 43 (v := undef) rfl rfl (by kernel_rfl) (by kernel_rfl) (by kernel_rfl) (fun _ _ _ h => h) (Or.inr ⟨by rfl, rfl⟩) hH0 ?rra7
                case rra7 =>
                try simp only [Act.put, List.setIfInBounds_toArray, List.set_cons_zero, List.set_cons_succ]
                refine takeH 7 44 (v := undef) rfl rfl (by kernel_rfl) (by kernel_rfl) (by kernel_rfl) (fun _ _ _ h => h) (Or.inr ⟨by rfl, rfl⟩) hH0 ?rra8
                case rra8 =>
                try simp only [Act.put, List.setIfInBounds_toArray, List.set_cons_zero, List.set_cons_succ]
                refine takeH 8 45 (v := undef) rfl rfl (by kernel_rfl) (by kernel_rfl) (by kernel_rfl) (fun _ _ _ h => h) (Or.inr ⟨by rfl, rfl⟩) hH0 ?rra9
                case rra9 =>
                try simp only [Act.put, List.setIfInBounds_toArray, List.set_cons_zero, List.set_cons_succ]
                refine skipH 9 (by kernel_rfl) rfl 46 rfl (by rfl) hH0 ?rra10
                case rra10 =>
                try simp only [Act.put, List.setIfInBounds_toArray, List.set_cons_zero, List.set_cons_succ]
                refine takeH 10 47 (v := ?vra11) rfl rfl (by kernel_rfl) (by kernel_rfl) (by kernel_rfl) (fun _ _ _ h => h) (Or.inl ⟨by rfl, ?hra11⟩) hH0 ?rra11
                case hra11 => (intro w hSw; clear hSw; go_simp; (try with_reducible rfl))
                case rra11 =>
                try simp only [Act.put, List.setIfInBounds_toArray, List.set_cons_zero, List.set_cons_succ]
                refine takeH 11 48 (v := ?vra12) rfl rfl (by kernel_rfl) (by kernel_rfl) (by kernel_rfl) (fun _ _ _ h => h) (Or.inl ⟨by rfl, ?hra12⟩) hH0 ?rra12
                case hra12 => (intro w hSw; clear hSw; go_simp; (try with_reducible rfl))
                case rra12 =>
                try simp only [Act.put, List.setIfInBounds_toArray, List.set_cons_zero, List.set_cons_succ]
                refine takeH 12 49 (v := undef) rfl rfl (by kernel_rfl) (by kernel_rfl) (by kernel_rfl) (fun _ _ _ h => h) (Or.inr ⟨by rfl, rfl⟩) hH0 ?rra13
                case rra13 =>
                try simp only [Act.put, List.setIfInBounds_toArray, List.set_cons_zero, List.set_cons_succ]
                refine takeH 13 50 (v := undef) rfl rfl (by kernel_rfl) (by kernel_rfl) (by kernel_rfl) (fun _ _ _ h => h) (Or.inr ⟨by rfl, rfl⟩) hH0 ?rra14
                case rra14 =>
                try simp only [Act.put, List.setIfInBounds_toArray, List.set_cons_zero, List.set_cons_succ]
                refine takeH 14 51 (v := undef) rfl rfl (by kernel_rfl) (by kernel_rfl) (by kernel_rfl) (fun _ _ _ h => h) (Or.inr ⟨by rfl, rfl⟩) hH0 ?rra15
                case rra15 =>
                try simp only [Act.put, List.setIfInBounds_toArray, List.set_cons_zero, List.set_cons_succ]
                refine takeH 15 52 (v := undef) rfl rfl (by kernel_rfl) (by kernel_rfl) (by kernel_rfl) (fun _ _ _ h => h) (Or.inr ⟨by rfl, rfl⟩) hH0 ?rra16
                case rra16 =>
                try simp only [Act.put, List.setIfInBounds_toArray, List.set_cons_zero, List.set_cons_succ]
                refine takeH 16 53 (v := undef) rfl rfl (by kernel_rfl) (by kernel_rfl) (by kernel_rfl) (fun _ _ _ h => h) (Or.inr ⟨by rfl, rfl⟩) hH0 ?rra17
                case rra17 =>
                try simp only [Act.put, List.setIfInBounds_toArray, List.set_cons_zero, List.set_cons_succ]
                refine takeH 17 54 (v := undef) rfl rfl (by kernel_rfl) (by kernel_rfl) (by kernel_rfl) (fun _ _ _ h => h) (Or.inr ⟨by rfl, rfl⟩) hH0 ?rra18
                case rra18 =>
                try simp only [Act.put, List.setIfInBounds_toArray, List.set_cons_zero, List.set_cons_succ]
                refine takeH 18 55 (v := undef) rfl rfl (by kernel_rfl) (by kernel_rfl) (by kernel_rfl) (fun _ _ _ h => h) (Or.inr ⟨by rfl, rfl⟩) hH0 ?rra19
                case rra19 =>
                try simp only [Act.put, List.setIfInBounds_toArray, List.set_cons_zero, List.set_cons_succ]
                refine takeH 19 56 (v := undef) rfl rfl (by kernel_rfl) (by kernel_rfl) (by kernel_rfl) (fun _ _ _ h => h) (Or.inr ⟨by rfl, rfl⟩) hH0 ?rra20
                case rra20 =>
                try simp only [Act.put, List.setIfInBounds_toArray, List.set_cons_zero, List.set_cons_succ]
                refine takeH 20 57 (v := undef) rfl rfl (by kernel_rfl) (by kernel_rfl) (by kernel_rfl) (fun _ _ _ h => h) (Or.inr ⟨by rfl, rfl⟩) hH0 ?rra21
                case rra21 =>
                try simp only [Act.put, List.setIfInBounds_toArray, List.set_cons_zero, List.set_cons_succ]
                refine takeH 21 58 (v := undef) rfl rfl (by kernel_rfl) (by kernel_rfl) (by kernel_rfl) (fun _ _ _ h => h) (Or.inr ⟨by rfl, rfl⟩) hH0 ?rra22
                case rra22 =>
                try simp only [Act.put, List.setIfInBounds_toArray, List.set_cons_zero, List.set_cons_succ]
                refine takeH 22 59 (v := ?vra23) rfl rfl (by kernel_rfl) (by kernel_rfl) (by kernel_rfl) (fun _ _ _ h => h) (Or.inl ⟨by rfl, ?hra23⟩) hH0 ?rra23
                case hra23 => (intro w hSw; clear hSw; go_simp; (try with_reducible rfl))
                case rra23 =>
                try simp only [Act.put, List.setIfInBounds_toArray, List.set_cons_zero, List.set_cons_succ]
                refine wpAnyH_done (by kernel_rfl) ?_ _
                have HO6 := hide (show Only (fun _ => False) wr wr.drew from (Only.refl _ wr).drew)
                clear HSB C1 S0
                go_wp2_with fail
                go_meet
                exact ⟨_, rfl, (fun e => by cases e), unhide HO6⟩
              have b4 : (kd != 4) = true := by simpa using h4
              clear h4
              cases u with
              | false =>
                refine wp_region_held_drew (S := (fun w' => w'.cell? ⟨G, 0, none⟩ = some (.string tn) ∧ w'.cell? ⟨G, 1, none⟩ = some (.slice ca cn cc) ∧ w'.cell? ⟨G, 2, none⟩ = some (.int .i64 pk) ∧ w'.cell? ⟨G, 3, none⟩ = some (.int .i64 ix) ∧ w'.cell? ⟨ga, i * 5, none⟩ = some (.string c.col) ∧ w'.cell? ⟨ga, i * 5 + 1, none⟩ = some (.string (opT c.op)) ∧ w'.cell? ⟨ga, i * 5 + 2, none⟩ = some (.bool c.lit.str) ∧ w'.cell? ⟨ga, i * 5 + 3, none⟩ = some (.int .i64 c.lit.i) ∧ w'.cell? ⟨ga, i * 5 + 4, none⟩ = some (.string c.lit.s))) (by kernel_rfl) S0 (fun hH0 => ?_)
                refine takeH 0 37 (v := ?vrb1) rfl rfl (by kernel_rfl) (by kernel_rfl) (by kernel_rfl) (fun _ _ _ h => h) (Or.inl ⟨by rfl, ?hrb1⟩) hH0 ?rrb1
                case hrb1 => (intro w hSw; clear hSw; go_simp; (try with_reducible rfl))
                case rrb1 =>
                try simp only [Act.put, List.setIfInBounds_toArray, List.set_cons_zero, List.set_cons_succ]
                refine takeH 1 38 (v := ?vrb2) rfl rfl (by kernel_rfl) (by kernel_rfl) (by kernel_rfl) (fun _ _ _ h => h) (Or.inl ⟨by rfl, ?hrb2⟩) hH0 ?rrb2
                case hrb2 => (intro w hSw; clear hSw; go_simp; (try with_reducible rfl))
                case rrb2 =>
                try simp only [Act.put, List.setIfInBounds_toArray, List.set_cons_zero, List.set_cons_succ]
                refine takeH 2 39 (v := ?vrb3) rfl rfl (by kernel_rfl) (by kernel_rfl) (by kernel_rfl) (fun _ _ _ h => h) (Or.inl ⟨by rfl, ?hrb3⟩) hH0 ?rrb3
                case hrb3 => (intro w hSw; clear hSw; go_simp; (try with_reducible rfl))
                case rrb3 =>
                try simp only [Act.put, List.setIfInBounds_toArray, List.set_cons_zero, List.set_cons_succ]
                refine takeH 3 40 (v := ?vrb4) rfl rfl (by kernel_rfl) (by kernel_rfl) (by kernel_rfl) (fun _ _ _ h => h) (Or.inl ⟨by rfl, ?hrb4⟩) hH0 ?rrb4
                case hrb4 => (intro w hSw; obtain ⟨s0, s1, s2, s3, s4, s5, s6, s7, s8⟩ := hSw; go_simp; (try with_reducible rfl))
                case rrb4 =>
                try simp only [Act.put, List.setIfInBounds_toArray, List.set_cons_zero, List.set_cons_succ]
                refine takeH 4 41 (v := ?vrb5) rfl rfl (by kernel_rfl) (by kernel_rfl) (by kernel_rfl) (fun _ _ _ h => h) (Or.inl ⟨by rfl, ?hrb5⟩) hH0 ?rrb5
                case hrb5 => (intro w hSw; clear hSw; go_simp; (try with_reducible rfl))
                case rrb5 =>
                try simp only [Act.put, List.setIfInBounds_toArray, List.set_cons_zero, List.set_cons_succ]
                refine takeH 5 42 (v := ?vrb6) rfl rfl (by kernel_rfl) (by kernel_rfl) (by kernel_rfl) (fun _ _ _ h => h) (Or.inl ⟨by rfl, ?hrb6⟩) hH0 ?rrb6
                case hrb6 => (intro w hSw; clear hSw; go_simp; (try with_reducible rfl))
                case rrb6 =>
                try simp only [Act.put, List.setIfInBounds_toArray, List.set_cons_zero, List.set_cons_succ]
                refine takeH 6 43 (v := ?vrb7) rfl rfl (by kernel_rfl) (by kernel_rfl) (by kernel_rfl) (fun _ _ _ h => h) (Or.inl ⟨by rfl, ?hrb7⟩) hH0 ?rrb7
                case hrb7 => (intro w hSw; clear hSw; go_simp; (try with_reducible rfl))
                case rrb7 =>
                try simp only [Act.put, List.setIfInBounds_toArray, List.set_cons_zero, List.set_cons_succ]
                refine takeH 7 44 (v := ?vrb8) rfl rfl (by kernel_rfl) (by kernel_rfl) (by kernel_rfl) (fun _ _ _ h => h) (Or.inl ⟨by rfl, ?hrb8⟩) hH0 ?rrb8
                case hrb8 => (intro w hSw; obtain ⟨s0, s1, s2, s3, s4, s5, s6, s7, s8⟩ := hSw; go_simp; (try with_reducible rfl))
                case rrb8 =>
                try simp only [Act.put, List.setIfInBounds_toArray, List.set_cons_zero, List.set_cons_succ]
                refine takeH 8 45 (v := ?vrb9) rfl rfl (by kernel_rfl) (by kernel_rfl) (by kernel_rfl) (fun _ _ _ h => h) (Or.inl ⟨by rfl, ?hrb9⟩) hH0 ?rrb9
                case hrb9 => (intro w hSw; clear hSw; go_simp; (try with_reducible rfl))
                case rrb9 =>
                try simp only [Act.put, List.setIfInBounds_toArray, List.set_cons_zero, List.set_cons_succ]
                refine callHg 9 (by kernel_rfl) rfl 46 rfl (by rfl) 182 Tryz.func182 (by kernel_rfl) (by kernel_rfl) #[.tmp 40, .tmp 44, .tmp 45] #[79, 259, 3] rfl #[.agg #[.string tn, .slice ca cn cc, .int .i64 pk, .int .i64 ix], .agg #[.string c.col, .string (opT c.op), .bool c.lit.str, .int .i64 c.lit.i, .string c.lit.s], .int .i64 col] (by simp [Act.eval]) (R := fun v w' => v = .bool false ∧ Only (fun _ => False) wr.drew w') ((unhide C1).mono (by rintro en w' ⟨rfl, o⟩; exact ⟨_, rfl, rfl, o⟩)) ?kccrb
                case kccrb =>
                rintro _ w6 ⟨rfl, o6⟩
                have oE : Only (fun _ => False) wr w6 := (Only.refl _ wr).drew.trans o6 (fun _ _ e => e)
                have S6 := unhide HSB w6 oE
                refine ⟨S6, ?_⟩
                try simp only [Act.put, List.setIfInBounds_toArray, List.set_cons_zero, List.set_cons_succ]
                refine takeH 10 47 (v := ?vrb10) rfl rfl (by kernel_rfl) (by kernel_rfl) (by kernel_rfl) (fun _ _ _ h => h) (Or.inl ⟨by rfl, ?hrb10⟩) S6 ?rrb10
                case hrb10 => (intro w hSw; clear hSw; go_simp; (try with_reducible rfl))
                case rrb10 =>
                try simp only [Act.put, List.setIfInBounds_toArray, List.set_cons_zero, List.set_cons_succ]
                refine takeH 11 48 (v := ?vrb11) rfl rfl (by kernel_rfl) (by kernel_rfl) (by kernel_rfl) (fun _ _ _ h => h) (Or.inl ⟨by rfl, ?hrb11⟩) S6 ?rrb11
                case hrb11 => (intro w hSw; clear hSw; go_simp; (try with_reducible rfl))
                case rrb11 =>
                try simp only [Act.put, List.setIfInBounds_toArray, List.set_cons_zero, List.set_cons_succ]
                refine takeH 12 49 (v := undef) rfl rfl (by kernel_rfl) (by kernel_rfl) (by kernel_rfl) (fun _ _ _ h => h) (Or.inr ⟨by rfl, rfl⟩) S6 ?rrb12
                case rrb12 =>
                try simp only [Act.put, List.setIfInBounds_toArray, List.set_cons_zero, List.set_cons_succ]
                refine takeH 13 50 (v := undef) rfl rfl (by kernel_rfl) (by kernel_rfl) (by kernel_rfl) (fun _ _ _ h => h) (Or.inr ⟨by rfl, rfl⟩) S6 ?rrb13
                case rrb13 =>
                try simp only [Act.put, List.setIfInBounds_toArray, List.set_cons_zero, List.set_cons_succ]
                refine takeH 14 51 (v := undef) rfl rfl (by kernel_rfl) (by kernel_rfl) (by kernel_rfl) (fun _ _ _ h => h) (Or.inr ⟨by rfl, rfl⟩) S6 ?rrb14
                case rrb14 =>
                try simp only [Act.put, List.setIfInBounds_toArray, List.set_cons_zero, List.set_cons_succ]
                refine takeH 15 52 (v := undef) rfl rfl (by kernel_rfl) (by kernel_rfl) (by kernel_rfl) (fun _ _ _ h => h) (Or.inr ⟨by rfl, rfl⟩) S6 ?rrb15
                case rrb15 =>
                try simp only [Act.put, List.setIfInBounds_toArray, List.set_cons_zero, List.set_cons_succ]
                refine takeH 16 53 (v := undef) rfl rfl (by kernel_rfl) (by kernel_rfl) (by kernel_rfl) (fun _ _ _ h => h) (Or.inr ⟨by rfl, rfl⟩) S6 ?rrb16
                case rrb16 =>
                try simp only [Act.put, List.setIfInBounds_toArray, List.set_cons_zero, List.set_cons_succ]
                refine takeH 17 54 (v := undef) rfl rfl (by kernel_rfl) (by kernel_rfl) (by kernel_rfl) (fun _ _ _ h => h) (Or.inr ⟨by rfl, rfl⟩) S6 ?rrb17
                case rrb17 =>
                try simp only [Act.put, List.setIfInBounds_toArray, List.set_cons_zero, List.set_cons_succ]
                refine takeH 18 55 (v := undef) rfl rfl (by kernel_rfl) (by kernel_rfl) (by kernel_rfl) (fun _ _ _ h => h) (Or.inr ⟨by rfl, rfl⟩) S6 ?rrb18
                case rrb18 =>
                try simp only [Act.put, List.setIfInBounds_toArray, List.set_cons_zero, List.set_cons_succ]
                refine takeH 19 56 (v := undef) rfl rfl (by kernel_rfl) (by kernel_rfl) (by kernel_rfl) (fun _ _ _ h => h) (Or.inr ⟨by rfl, rfl⟩) S6 ?rrb19
                case rrb19 =>
                try simp only [Act.put, List.setIfInBounds_toArray, List.set_cons_zero, List.set_cons_succ]
                refine takeH 20 57 (v := undef) rfl rfl (by kernel_rfl) (by kernel_rfl) (by kernel_rfl) (fun _ _ _ h => h) (Or.inr ⟨by rfl, rfl⟩) S6 ?rrb20
                case rrb20 =>
                try simp only [Act.put, List.setIfInBounds_toArray, List.set_cons_zero, List.set_cons_succ]
                refine takeH 21 58 (v := undef) rfl rfl (by kernel_rfl) (by kernel_rfl) (by kernel_rfl) (fun _ _ _ h => h) (Or.inr ⟨by rfl, rfl⟩) S6 ?rrb21
                case rrb21 =>
                try simp only [Act.put, List.setIfInBounds_toArray, List.set_cons_zero, List.set_cons_succ]
                refine takeH 22 59 (v := ?vrb22) rfl rfl (by kernel_rfl) (by kernel_rfl) (by kernel_rfl) (fun _ _ _ h => h) (Or.inl ⟨by rfl, ?hrb22⟩) S6 ?rrb22
                case hrb22 => (intro w hSw; clear hSw; go_simp; (try with_reducible rfl))
                case rrb22 =>
                try simp only [Act.put, List.setIfInBounds_toArray, List.set_cons_zero, List.set_cons_succ]
                refine wpAnyH_done (by kernel_rfl) ?_ _
                have HO6 := hide oE
                clear HSB C1 S0 S6 o6 oE
                go_wp2_with fail
                go_meet
                exact ⟨_, rfl, (fun e => by cases e), unhide HO6⟩
              | true =>
                by_cases h1 : kd = 1
                · have c1 : (kd != 1) = false := by simp [h1]
                  clear h1
                  by_cases e2 : opT c.op = ⟨#[61]⟩
                  · have d9 : ((opT c.op).toList == [61]) = true := lit_t (by decide +kernel) e2
                    clear e2
                    refine wp_region_held_drew (S := (fun w' => w'.cell? ⟨G, 0, none⟩ = some (.string tn) ∧ w'.cell? ⟨G, 1, none⟩ = some (.slice ca cn cc) ∧ w'.cell? ⟨G, 2, none⟩ = some (.int .i64 pk) ∧ w'.cell? ⟨G, 3, none⟩ = some (.int .i64 ix) ∧ w'.cell? ⟨ga, i * 5, none⟩ = some (.string c.col) ∧ w'.cell? ⟨ga, i * 5 + 1, none⟩ = some (.string (opT c.op)) ∧ w'.cell? ⟨ga, i * 5 + 2, none⟩ = some (.bool c.lit.str) ∧ w'.cell? ⟨ga, i * 5 + 3, none⟩ = some (.int .i64 c.lit.i) ∧ w'.cell? ⟨ga, i * 5 + 4, none⟩ = some (.string c.lit.s))) (by kernel_rfl) S0 (fun hH0 => ?_)
                    refine takeH 0 37 (v := ?vrc1) rfl rfl (by kernel_rfl) (by kernel_rfl) (by kernel_rfl) (fun _ _ _ h => h) (Or.inl ⟨by rfl, ?hrc1⟩) hH0 ?rrc1
                    case hrc1 => (intro w hSw; clear hSw; go_simp; (try with_reducible rfl))
                    case rrc1 =>
                    try simp only [Act.put, List.setIfInBounds_toArray, List.set_cons_zero, List.set_cons_succ]
                    refine takeH 1 38 (v := ?vrc2) rfl rfl (by kernel_rfl) (by kernel_rfl) (by kernel_rfl) (fun _ _ _ h => h) (Or.inl ⟨by rfl, ?hrc2⟩) hH0 ?rrc2
                    case hrc2 => (intro w hSw; clear hSw; go_simp; (try with_reducible rfl))
                    case rrc2 =>
                    try simp only [Act.put, List.setIfInBounds_toArray, List.set_cons_zero, List.set_cons_succ]
                    refine takeH 2 39 (v := ?vrc3) rfl rfl (by kernel_rfl) (by kernel_rfl) (by kernel_rfl) (fun _ _ _ h => h) (Or.inl ⟨by rfl, ?hrc3⟩) hH0 ?rrc3
                    case hrc3 => (intro w hSw; clear hSw; go_simp; (try with_reducible rfl))
                    case rrc3 =>
                    try simp only [Act.put, List.setIfInBounds_toArray, List.set_cons_zero, List.set_cons_succ]
                    refine takeH 3 40 (v := ?vrc4) rfl rfl (by kernel_rfl) (by kernel_rfl) (by kernel_rfl) (fun _ _ _ h => h) (Or.inl ⟨by rfl, ?hrc4⟩) hH0 ?rrc4
                    case hrc4 => (intro w hSw; obtain ⟨s0, s1, s2, s3, s4, s5, s6, s7, s8⟩ := hSw; go_simp; (try with_reducible rfl))
                    case rrc4 =>
                    try simp only [Act.put, List.setIfInBounds_toArray, List.set_cons_zero, List.set_cons_succ]
                    refine takeH 4 41 (v := ?vrc5) rfl rfl (by kernel_rfl) (by kernel_rfl) (by kernel_rfl) (fun _ _ _ h => h) (Or.inl ⟨by rfl, ?hrc5⟩) hH0 ?rrc5
                    case hrc5 => (intro w hSw; clear hSw; go_simp; (try with_reducible rfl))
                    case rrc5 =>
                    try simp only [Act.put, List.setIfInBounds_toArray, List.set_cons_zero, List.set_cons_succ]
                    refine takeH 5 42 (v := ?vrc6) rfl rfl (by kernel_rfl) (by kernel_rfl) (by kernel_rfl) (fun _ _ _ h => h) (Or.inl ⟨by rfl, ?hrc6⟩) hH0 ?rrc6
                    case hrc6 => (intro w hSw; clear hSw; go_simp; (try with_reducible rfl))
                    case rrc6 =>
                    try simp only [Act.put, List.setIfInBounds_toArray, List.set_cons_zero, List.set_cons_succ]
                    refine takeH 6 43 (v := ?vrc7) rfl rfl (by kernel_rfl) (by kernel_rfl) (by kernel_rfl) (fun _ _ _ h => h) (Or.inl ⟨by rfl, ?hrc7⟩) hH0 ?rrc7
                    case hrc7 => (intro w hSw; clear hSw; go_simp; (try with_reducible rfl))
                    case rrc7 =>
                    try simp only [Act.put, List.setIfInBounds_toArray, List.set_cons_zero, List.set_cons_succ]
                    refine takeH 7 44 (v := ?vrc8) rfl rfl (by kernel_rfl) (by kernel_rfl) (by kernel_rfl) (fun _ _ _ h => h) (Or.inl ⟨by rfl, ?hrc8⟩) hH0 ?rrc8
                    case hrc8 => (intro w hSw; obtain ⟨s0, s1, s2, s3, s4, s5, s6, s7, s8⟩ := hSw; go_simp; (try with_reducible rfl))
                    case rrc8 =>
                    try simp only [Act.put, List.setIfInBounds_toArray, List.set_cons_zero, List.set_cons_succ]
                    refine takeH 8 45 (v := ?vrc9) rfl rfl (by kernel_rfl) (by kernel_rfl) (by kernel_rfl) (fun _ _ _ h => h) (Or.inl ⟨by rfl, ?hrc9⟩) hH0 ?rrc9
                    case hrc9 => (intro w hSw; clear hSw; go_simp; (try with_reducible rfl))
                    case rrc9 =>
                    try simp only [Act.put, List.setIfInBounds_toArray, List.set_cons_zero, List.set_cons_succ]
                    refine callHg 9 (by kernel_rfl) rfl 46 rfl (by rfl) 182 Tryz.func182 (by kernel_rfl) (by kernel_rfl) #[.tmp 40, .tmp 44, .tmp 45] #[79, 259, 3] rfl #[.agg #[.string tn, .slice ca cn cc, .int .i64 pk, .int .i64 ix], .agg #[.string c.col, .string (opT c.op), .bool c.lit.str, .int .i64 c.lit.i, .string c.lit.s], .int .i64 col] (by simp [Act.eval]) (R := fun v w' => v = .bool true ∧ Only (fun _ => False) wr.drew w') ((unhide C1).mono (by rintro en w' ⟨rfl, o⟩; exact ⟨_, rfl, rfl, o⟩)) ?kccrc
                    case kccrc =>
                    rintro _ w6 ⟨rfl, o6⟩
                    have oE : Only (fun _ => False) wr w6 := (Only.refl _ wr).drew.trans o6 (fun _ _ e => e)
                    have S6 := unhide HSB w6 oE
                    refine ⟨S6, ?_⟩
                    try simp only [Act.put, List.setIfInBounds_toArray, List.set_cons_zero, List.set_cons_succ]
                    refine takeH 10 47 (v := ?vrc10) rfl rfl (by kernel_rfl) (by kernel_rfl) (by kernel_rfl) (fun _ _ _ h => h) (Or.inl ⟨by rfl, ?hrc10⟩) S6 ?rrc10
                    case hrc10 => (intro w hSw; clear hSw; go_simp; (try with_reducible rfl))
                    case rrc10 =>
                    try simp only [Act.put, List.setIfInBounds_toArray, List.set_cons_zero, List.set_cons_succ]
                    refine takeH 11 48 (v := ?vrc11) rfl rfl (by kernel_rfl) (by kernel_rfl) (by kernel_rfl) (fun _ _ _ h => h) (Or.inl ⟨by rfl, ?hrc11⟩) S6 ?rrc11
                    case hrc11 => (intro w hSw; clear hSw; go_simp; (try with_reducible rfl))
                    case rrc11 =>
                    try simp only [Act.put, List.setIfInBounds_toArray, List.set_cons_zero, List.set_cons_succ]
                    refine takeH 12 49 (v := ?vrc12) rfl rfl (by kernel_rfl) (by kernel_rfl) (by kernel_rfl) (fun _ _ _ h => h) (Or.inl ⟨by rfl, ?hrc12⟩) S6 ?rrc12
                    case hrc12 => (intro w hSw; clear hSw; go_simp; (try with_reducible rfl))
                    case rrc12 =>
                    try simp only [Act.put, List.setIfInBounds_toArray, List.set_cons_zero, List.set_cons_succ]
                    refine takeH 13 50 (v := ?vrc13) rfl rfl (by kernel_rfl) (by kernel_rfl) (by kernel_rfl) (fun _ _ _ h => h) (Or.inl ⟨by rfl, ?hrc13⟩) S6 ?rrc13
                    case hrc13 => (intro w hSw; clear hSw; go_simp; (try with_reducible rfl))
                    case rrc13 =>
                    try simp only [Act.put, List.setIfInBounds_toArray, List.set_cons_zero, List.set_cons_succ]
                    refine takeH 14 51 (v := ?vrc14) rfl rfl (by kernel_rfl) (by kernel_rfl) (by kernel_rfl) (fun _ _ _ h => h) (Or.inl ⟨by rfl, ?hrc14⟩) S6 ?rrc14
                    case hrc14 => (intro w hSw; clear hSw; go_simp; (try with_reducible rfl))
                    case rrc14 =>
                    try simp only [Act.put, List.setIfInBounds_toArray, List.set_cons_zero, List.set_cons_succ]
                    refine takeH 15 52 (v := ?vrc15) rfl rfl (by kernel_rfl) (by kernel_rfl) (by kernel_rfl) (fun _ _ _ h => h) (Or.inl ⟨by rfl, ?hrc15⟩) S6 ?rrc15
                    case hrc15 => (intro w hSw; clear hSw; go_simp; (try with_reducible rfl))
                    case rrc15 =>
                    try simp only [Act.put, List.setIfInBounds_toArray, List.set_cons_zero, List.set_cons_succ]
                    refine takeH 16 53 (v := ?vrc16) rfl rfl (by kernel_rfl) (by kernel_rfl) (by kernel_rfl) (fun _ _ _ h => h) (Or.inl ⟨by rfl, ?hrc16⟩) S6 ?rrc16
                    case hrc16 => (intro w hSw; clear hSw; go_simp; (try with_reducible rfl))
                    case rrc16 =>
                    try simp only [Act.put, List.setIfInBounds_toArray, List.set_cons_zero, List.set_cons_succ]
                    refine takeH 17 54 (v := ?vrc17) rfl rfl (by kernel_rfl) (by kernel_rfl) (by kernel_rfl) (fun _ _ _ h => h) (Or.inl ⟨by rfl, ?hrc17⟩) S6 ?rrc17
                    case hrc17 => (intro w hSw; clear hSw; go_simp; (try with_reducible rfl))
                    case rrc17 =>
                    try simp only [Act.put, List.setIfInBounds_toArray, List.set_cons_zero, List.set_cons_succ]
                    refine takeH 18 55 (v := ?vrc18) rfl rfl (by kernel_rfl) (by kernel_rfl) (by kernel_rfl) (fun _ _ _ h => h) (Or.inl ⟨by rfl, ?hrc18⟩) S6 ?rrc18
                    case hrc18 => (intro w hSw; clear hSw; go_simp; (try with_reducible rfl))
                    case rrc18 =>
                    try simp only [Act.put, List.setIfInBounds_toArray, List.set_cons_zero, List.set_cons_succ]
                    refine takeH 19 56 (v := ?vrc19) rfl rfl (by kernel_rfl) (by kernel_rfl) (by kernel_rfl) (fun _ _ _ h => h) (Or.inl ⟨by rfl, ?hrc19⟩) S6 ?rrc19
                    case hrc19 => (intro w hSw; obtain ⟨s0, s1, s2, s3, s4, s5, s6, s7, s8⟩ := hSw; go_simp; (try with_reducible rfl))
                    case rrc19 =>
                    try simp only [Act.put, List.setIfInBounds_toArray, List.set_cons_zero, List.set_cons_succ]
                    refine takeH 20 57 (v := ?vrc20) rfl rfl (by kernel_rfl) (by kernel_rfl) (by kernel_rfl) (fun _ _ _ h => h) (Or.inl ⟨by rfl, ?hrc20⟩) S6 ?rrc20
                    case hrc20 => (intro w hSw; clear hSw; go_simp; (try with_reducible rfl))
                    case rrc20 =>
                    try simp only [Act.put, List.setIfInBounds_toArray, List.set_cons_zero, List.set_cons_succ]
                    refine takeH 21 58 (v := ?vrc21) rfl rfl (by kernel_rfl) (by kernel_rfl) (by kernel_rfl) (fun _ _ _ h => h) (Or.inl ⟨by rfl, ?hrc21⟩) S6 ?rrc21
                    case hrc21 => (intro w hSw; clear hSw; go_simp; (try with_reducible rfl))
                    case rrc21 =>
                    try simp only [Act.put, List.setIfInBounds_toArray, List.set_cons_zero, List.set_cons_succ]
                    refine takeH 22 59 (v := ?vrc22) rfl rfl (by kernel_rfl) (by kernel_rfl) (by kernel_rfl) (fun _ _ _ h => h) (Or.inl ⟨by rfl, ?hrc22⟩) S6 ?rrc22
                    case hrc22 => (intro w hSw; clear hSw; go_simp; (try with_reducible rfl))
                    case rrc22 =>
                    try simp only [Act.put, List.setIfInBounds_toArray, List.set_cons_zero, List.set_cons_succ]
                    refine wpAnyH_done (by kernel_rfl) ?_ _
                    have HO6 := hide oE
                    clear HSB C1 S0 S6 o6 oE
                    go_wp2_with fail
                    go_meet
                    exact ⟨_, rfl, (fun _ => unhide HU), unhide HO6⟩
                  · have d9 : ((opT c.op).toList == [61]) = false := lit_f (by decide +kernel) e2
                    clear e2
                    refine wp_region_held_drew (S := (fun w' => w'.cell? ⟨G, 0, none⟩ = some (.string tn) ∧ w'.cell? ⟨G, 1, none⟩ = some (.slice ca cn cc) ∧ w'.cell? ⟨G, 2, none⟩ = some (.int .i64 pk) ∧ w'.cell? ⟨G, 3, none⟩ = some (.int .i64 ix) ∧ w'.cell? ⟨ga, i * 5, none⟩ = some (.string c.col) ∧ w'.cell? ⟨ga, i * 5 + 1, none⟩ = some (.string (opT c.op)) ∧ w'.cell? ⟨ga, i * 5 + 2, none⟩ = some (.bool c.lit.str) ∧ w'.cell? ⟨ga, i * 5 + 3, none⟩ = some (.int .i64 c.lit.i) ∧ w'.cell? ⟨ga, i * 5 + 4, none⟩ = some (.string c.lit.s))) (by kernel_rfl) S0 (fun hH0 => ?_)
                    refine takeH 0 37 (v := ?vrd1) rfl rfl (by kernel_rfl) (by kernel_rfl) (by kernel_rfl) (fun _ _ _ h => h) (Or.inl ⟨by rfl, ?hrd1⟩) hH0 ?rrd1
                    case hrd1 => (intro w hSw; clear hSw; go_simp; (try with_reducible rfl))
                    case rrd1 =>
                    try simp only [Act.put, List.setIfInBounds_toArray, List.set_cons_zero, List.set_cons_succ]
                    refine takeH 1 38 (v := ?vrd2) rfl rfl (by kernel_rfl) (by kernel_rfl) (by kernel_rfl) (fun _ _ _ h => h) (Or.inl ⟨by rfl, ?hrd2⟩) hH0 ?rrd2
                    case hrd2 => (intro w hSw; clear hSw; go_simp; (try with_reducible rfl))
                    case rrd2 =>
                    try simp only [Act.put, List.setIfInBounds_toArray, List.set_cons_zero, List.set_cons_succ]
                    refine takeH 2 39 (v := ?vrd3) rfl rfl (by kernel_rfl) (by kernel_rfl) (by kernel_rfl) (fun _ _ _ h => h) (Or.inl ⟨by rfl, ?hrd3⟩) hH0 ?rrd3
                    case hrd3 => (intro w hSw; clear hSw; go_simp; (try with_reducible rfl))
                    case rrd3 =>
                    try simp only [Act.put, List.setIfInBounds_toArray, List.set_cons_zero, List.set_cons_succ]
                    refine takeH 3 40 (v := ?vrd4) rfl rfl (by kernel_rfl) (by kernel_rfl) (by kernel_rfl) (fun _ _ _ h => h) (Or.inl ⟨by rfl, ?hrd4⟩) hH0 ?rrd4
                    case hrd4 => (intro w hSw; obtain ⟨s0, s1, s2, s3, s4, s5, s6, s7, s8⟩ := hSw; go_simp; (try with_reducible rfl))
                    case rrd4 =>
                    try simp only [Act.put, List.setIfInBounds_toArray, List.set_cons_zero, List.set_cons_succ]
                    refine takeH 4 41 (v := ?vrd5) rfl rfl (by kernel_rfl) (by kernel_rfl) (by kernel_rfl) (fun _ _ _ h => h) (Or.inl ⟨by rfl, ?hrd5⟩) hH0 ?rrd5
                    case hrd5 => (intro w hSw; clear hSw; go_simp; (try with_reducible rfl))
                    case rrd5 =>
                    try simp only [Act.put, List.setIfInBounds_toArray, List.set_cons_zero, List.set_cons_succ]
                    refine takeH 5 42 (v := ?vrd6) rfl rfl (by kernel_rfl) (by kernel_rfl) (by kernel_rfl) (fun _ _ _ h => h) (Or.inl ⟨by rfl, ?hrd6⟩) hH0 ?rrd6
                    case hrd6 => (intro w hSw; clear hSw; go_simp; (try with_reducible rfl))
                    case rrd6 =>
                    try simp only [Act.put, List.setIfInBounds_toArray, List.set_cons_zero, List.set_cons_succ]
                    refine takeH 6 43 (v := ?vrd7) rfl rfl (by kernel_rfl) (by kernel_rfl) (by kernel_rfl) (fun _ _ _ h => h) (Or.inl ⟨by rfl, ?hrd7⟩) hH0 ?rrd7
                    case hrd7 => (intro w hSw; clear hSw; go_simp; (try with_reducible rfl))
                    case rrd7 =>
                    try simp only [Act.put, List.setIfInBounds_toArray, List.set_cons_zero, List.set_cons_succ]
                    refine takeH 7 44 (v := ?vrd8) rfl rfl (by kernel_rfl) (by kernel_rfl) (by kernel_rfl) (fun _ _ _ h => h) (Or.inl ⟨by rfl, ?hrd8⟩) hH0 ?rrd8
                    case hrd8 => (intro w hSw; obtain ⟨s0, s1, s2, s3, s4, s5, s6, s7, s8⟩ := hSw; go_simp; (try with_reducible rfl))
                    case rrd8 =>
                    try simp only [Act.put, List.setIfInBounds_toArray, List.set_cons_zero, List.set_cons_succ]
                    refine takeH 8 45 (v := ?vrd9) rfl rfl (by kernel_rfl) (by kernel_rfl) (by kernel_rfl) (fun _ _ _ h => h) (Or.inl ⟨by rfl, ?hrd9⟩) hH0 ?rrd9
                    case hrd9 => (intro w hSw; clear hSw; go_simp; (try with_reducible rfl))
                    case rrd9 =>
                    try simp only [Act.put, List.setIfInBounds_toArray, List.set_cons_zero, List.set_cons_succ]
                    refine callHg 9 (by kernel_rfl) rfl 46 rfl (by rfl) 182 Tryz.func182 (by kernel_rfl) (by kernel_rfl) #[.tmp 40, .tmp 44, .tmp 45] #[79, 259, 3] rfl #[.agg #[.string tn, .slice ca cn cc, .int .i64 pk, .int .i64 ix], .agg #[.string c.col, .string (opT c.op), .bool c.lit.str, .int .i64 c.lit.i, .string c.lit.s], .int .i64 col] (by simp [Act.eval]) (R := fun v w' => v = .bool true ∧ Only (fun _ => False) wr.drew w') ((unhide C1).mono (by rintro en w' ⟨rfl, o⟩; exact ⟨_, rfl, rfl, o⟩)) ?kccrd
                    case kccrd =>
                    rintro _ w6 ⟨rfl, o6⟩
                    have oE : Only (fun _ => False) wr w6 := (Only.refl _ wr).drew.trans o6 (fun _ _ e => e)
                    have S6 := unhide HSB w6 oE
                    refine ⟨S6, ?_⟩
                    try simp only [Act.put, List.setIfInBounds_toArray, List.set_cons_zero, List.set_cons_succ]
                    refine takeH 10 47 (v := ?vrd10) rfl rfl (by kernel_rfl) (by kernel_rfl) (by kernel_rfl) (fun _ _ _ h => h) (Or.inl ⟨by rfl, ?hrd10⟩) S6 ?rrd10
                    case hrd10 => (intro w hSw; clear hSw; go_simp; (try with_reducible rfl))
                    case rrd10 =>
                    try simp only [Act.put, List.setIfInBounds_toArray, List.set_cons_zero, List.set_cons_succ]
                    refine takeH 11 48 (v := ?vrd11) rfl rfl (by kernel_rfl) (by kernel_rfl) (by kernel_rfl) (fun _ _ _ h => h) (Or.inl ⟨by rfl, ?hrd11⟩) S6 ?rrd11
                    case hrd11 => (intro w hSw; clear hSw; go_simp; (try with_reducible rfl))
                    case rrd11 =>
                    try simp only [Act.put, List.setIfInBounds_toArray, List.set_cons_zero, List.set_cons_succ]
                    refine takeH 12 49 (v := ?vrd12) rfl rfl (by kernel_rfl) (by kernel_rfl) (by kernel_rfl) (fun _ _ _ h => h) (Or.inl ⟨by rfl, ?hrd12⟩) S6 ?rrd12
                    case hrd12 => (intro w hSw; clear hSw; go_simp; (try with_reducible rfl))
                    case rrd12 =>
                    try simp only [Act.put, List.setIfInBounds_toArray, List.set_cons_zero, List.set_cons_succ]
                    refine takeH 13 50 (v := ?vrd13) rfl rfl (by kernel_rfl) (by kernel_rfl) (by kernel_rfl) (fun _ _ _ h => h) (Or.inl ⟨by rfl, ?hrd13⟩) S6 ?rrd13
                    case hrd13 => (intro w hSw; clear hSw; go_simp; (try with_reducible rfl))
                    case rrd13 =>
                    try simp only [Act.put, List.setIfInBounds_toArray, List.set_cons_zero, List.set_cons_succ]
                    refine takeH 14 51 (v := ?vrd14) rfl rfl (by kernel_rfl) (by kernel_rfl) (by kernel_rfl) (fun _ _ _ h => h) (Or.inl ⟨by rfl, ?hrd14⟩) S6 ?rrd14
                    case hrd14 => (intro w hSw; clear hSw; go_simp; (try with_reducible rfl))
                    case rrd14 =>
                    try simp only [Act.put, List.setIfInBounds_toArray, List.set_cons_zero, List.set_cons_succ]
                    refine takeH 15 52 (v := ?vrd15) rfl rfl (by kernel_rfl) (by kernel_rfl) (by kernel_rfl) (fun _ _ _ h => h) (Or.inl ⟨by rfl, ?hrd15⟩) S6 ?rrd15
                    case hrd15 => (intro w hSw; clear hSw; go_simp; (try with_reducible rfl))
                    case rrd15 =>
                    try simp only [Act.put, List.setIfInBounds_toArray, List.set_cons_zero, List.set_cons_succ]
                    refine takeH 16 53 (v := ?vrd16) rfl rfl (by kernel_rfl) (by kernel_rfl) (by kernel_rfl) (fun _ _ _ h => h) (Or.inl ⟨by rfl, ?hrd16⟩) S6 ?rrd16
                    case hrd16 => (intro w hSw; clear hSw; go_simp; (try with_reducible rfl))
                    case rrd16 =>
                    try simp only [Act.put, List.setIfInBounds_toArray, List.set_cons_zero, List.set_cons_succ]
                    refine takeH 17 54 (v := ?vrd17) rfl rfl (by kernel_rfl) (by kernel_rfl) (by kernel_rfl) (fun _ _ _ h => h) (Or.inl ⟨by rfl, ?hrd17⟩) S6 ?rrd17
                    case hrd17 => (intro w hSw; clear hSw; go_simp; (try with_reducible rfl))
                    case rrd17 =>
                    try simp only [Act.put, List.setIfInBounds_toArray, List.set_cons_zero, List.set_cons_succ]
                    refine takeH 18 55 (v := ?vrd18) rfl rfl (by kernel_rfl) (by kernel_rfl) (by kernel_rfl) (fun _ _ _ h => h) (Or.inl ⟨by rfl, ?hrd18⟩) S6 ?rrd18
                    case hrd18 => (intro w hSw; clear hSw; go_simp; (try with_reducible rfl))
                    case rrd18 =>
                    try simp only [Act.put, List.setIfInBounds_toArray, List.set_cons_zero, List.set_cons_succ]
                    refine takeH 19 56 (v := ?vrd19) rfl rfl (by kernel_rfl) (by kernel_rfl) (by kernel_rfl) (fun _ _ _ h => h) (Or.inl ⟨by rfl, ?hrd19⟩) S6 ?rrd19
                    case hrd19 => (intro w hSw; obtain ⟨s0, s1, s2, s3, s4, s5, s6, s7, s8⟩ := hSw; go_simp; (try with_reducible rfl))
                    case rrd19 =>
                    try simp only [Act.put, List.setIfInBounds_toArray, List.set_cons_zero, List.set_cons_succ]
                    refine takeH 20 57 (v := ?vrd20) rfl rfl (by kernel_rfl) (by kernel_rfl) (by kernel_rfl) (fun _ _ _ h => h) (Or.inl ⟨by rfl, ?hrd20⟩) S6 ?rrd20
                    case hrd20 => (intro w hSw; clear hSw; go_simp; (try with_reducible rfl))
                    case rrd20 =>
                    try simp only [Act.put, List.setIfInBounds_toArray, List.set_cons_zero, List.set_cons_succ]
                    refine takeH 21 58 (v := ?vrd21) rfl rfl (by kernel_rfl) (by kernel_rfl) (by kernel_rfl) (fun _ _ _ h => h) (Or.inl ⟨by rfl, ?hrd21⟩) S6 ?rrd21
                    case hrd21 => (intro w hSw; clear hSw; go_simp; (try with_reducible rfl))
                    case rrd21 =>
                    try simp only [Act.put, List.setIfInBounds_toArray, List.set_cons_zero, List.set_cons_succ]
                    refine takeH 22 59 (v := ?vrd22) rfl rfl (by kernel_rfl) (by kernel_rfl) (by kernel_rfl) (fun _ _ _ h => h) (Or.inl ⟨by rfl, ?hrd22⟩) S6 ?rrd22
                    case hrd22 => (intro w hSw; clear hSw; go_simp; (try with_reducible rfl))
                    case rrd22 =>
                    try simp only [Act.put, List.setIfInBounds_toArray, List.set_cons_zero, List.set_cons_succ]
                    refine wpAnyH_done (by kernel_rfl) ?_ _
                    have HO6 := hide oE
                    clear HSB C1 S0 S6 o6 oE
                    go_wp2_with fail
                    go_meet
                    exact ⟨_, rfl, (fun _ => unhide HU), unhide HO6⟩
                · have c1 : (kd != 1) = true := by simpa using h1
                  clear h1
                  refine wp_region_held_drew (S := (fun w' => w'.cell? ⟨G, 0, none⟩ = some (.string tn) ∧ w'.cell? ⟨G, 1, none⟩ = some (.slice ca cn cc) ∧ w'.cell? ⟨G, 2, none⟩ = some (.int .i64 pk) ∧ w'.cell? ⟨G, 3, none⟩ = some (.int .i64 ix) ∧ w'.cell? ⟨ga, i * 5, none⟩ = some (.string c.col) ∧ w'.cell? ⟨ga, i * 5 + 1, none⟩ = some (.string (opT c.op)) ∧ w'.cell? ⟨ga, i * 5 + 2, none⟩ = some (.bool c.lit.str) ∧ w'.cell? ⟨ga, i * 5 + 3, none⟩ = some (.int .i64 c.lit.i) ∧ w'.cell? ⟨ga, i * 5 + 4, none⟩ = some (.string c.lit.s))) (by kernel_rfl) S0 (fun hH0 => ?_)
                  refine takeH 0 37 (v := ?vre1) rfl rfl (by kernel_rfl) (by kernel_rfl) (by kernel_rfl) (fun _ _ _ h => h) (Or.inl ⟨by rfl, ?hre1⟩) hH0 ?rre1
                  case hre1 => (intro w hSw; clear hSw; go_simp; (try with_reducible rfl))
                  case rre1 =>
                  try simp only [Act.put, List.setIfInBounds_toArray, List.set_cons_zero, List.set_cons_succ]
                  refine takeH 1 38 (v := ?vre2) rfl rfl (by kernel_rfl) (by kernel_rfl) (by kernel_rfl) (fun _ _ _ h => h) (Or.inl ⟨by rfl, ?hre2⟩) hH0 ?rre2
                  case hre2 => (intro w hSw; clear hSw; go_simp; (try with_reducible rfl))
                  case rre2 =>
                  try simp only [Act.put, List.setIfInBounds_toArray, List.set_cons_zero, List.set_cons_succ]
                  refine takeH 2 39 (v := ?vre3) rfl rfl (by kernel_rfl) (by kernel_rfl) (by kernel_rfl) (fun _ _ _ h => h) (Or.inl ⟨by rfl, ?hre3⟩) hH0 ?rre3
                  case hre3 => (intro w hSw; clear hSw; go_simp; (try with_reducible rfl))
                  case rre3 =>
                  try simp only [Act.put, List.setIfInBounds_toArray, List.set_cons_zero, List.set_cons_succ]
                  refine takeH 3 40 (v := ?vre4) rfl rfl (by kernel_rfl) (by kernel_rfl) (by kernel_rfl) (fun _ _ _ h => h) (Or.inl ⟨by rfl, ?hre4⟩) hH0 ?rre4
                  case hre4 => (intro w hSw; obtain ⟨s0, s1, s2, s3, s4, s5, s6, s7, s8⟩ := hSw; go_simp; (try with_reducible rfl))
                  case rre4 =>
                  try simp only [Act.put, List.setIfInBounds_toArray, List.set_cons_zero, List.set_cons_succ]
                  refine takeH 4 41 (v := ?vre5) rfl rfl (by kernel_rfl) (by kernel_rfl) (by kernel_rfl) (fun _ _ _ h => h) (Or.inl ⟨by rfl, ?hre5⟩) hH0 ?rre5
                  case hre5 => (intro w hSw; clear hSw; go_simp; (try with_reducible rfl))
                  case rre5 =>
                  try simp only [Act.put, List.setIfInBounds_toArray, List.set_cons_zero, List.set_cons_succ]
                  refine takeH 5 42 (v := ?vre6) rfl rfl (by kernel_rfl) (by kernel_rfl) (by kernel_rfl) (fun _ _ _ h => h) (Or.inl ⟨by rfl, ?hre6⟩) hH0 ?rre6
                  case hre6 => (intro w hSw; clear hSw; go_simp; (try with_reducible rfl))
                  case rre6 =>
                  try simp only [Act.put, List.setIfInBounds_toArray, List.set_cons_zero, List.set_cons_succ]
                  refine takeH 6 43 (v := ?vre7) rfl rfl (by kernel_rfl) (by kernel_rfl) (by kernel_rfl) (fun _ _ _ h => h) (Or.inl ⟨by rfl, ?hre7⟩) hH0 ?rre7
                  case hre7 => (intro w hSw; clear hSw; go_simp; (try with_reducible rfl))
                  case rre7 =>
                  try simp only [Act.put, List.setIfInBounds_toArray, List.set_cons_zero, List.set_cons_succ]
                  refine takeH 7 44 (v := ?vre8) rfl rfl (by kernel_rfl) (by kernel_rfl) (by kernel_rfl) (fun _ _ _ h => h) (Or.inl ⟨by rfl, ?hre8⟩) hH0 ?rre8
                  case hre8 => (intro w hSw; obtain ⟨s0, s1, s2, s3, s4, s5, s6, s7, s8⟩ := hSw; go_simp; (try with_reducible rfl))
                  case rre8 =>
                  try simp only [Act.put, List.setIfInBounds_toArray, List.set_cons_zero, List.set_cons_succ]
                  refine takeH 8 45 (v := ?vre9) rfl rfl (by kernel_rfl) (by kernel_rfl) (by kernel_rfl) (fun _ _ _ h => h) (Or.inl ⟨by rfl, ?hre9⟩) hH0 ?rre9
                  case hre9 => (intro w hSw; clear hSw; go_simp; (try with_reducible rfl))
                  case rre9 =>
                  try simp only [Act.put, List.setIfInBounds_toArray, List.set_cons_zero, List.set_cons_succ]
                  refine callHg 9 (by kernel_rfl) rfl 46 rfl (by rfl) 182 Tryz.func182 (by kernel_rfl) (by kernel_rfl) #[.tmp 40, .tmp 44, .tmp 45] #[79, 259, 3] rfl #[.agg #[.string tn, .slice ca cn cc, .int .i64 pk, .int .i64 ix], .agg #[.string c.col, .string (opT c.op), .bool c.lit.str, .int .i64 c.lit.i, .string c.lit.s], .int .i64 col] (by simp [Act.eval]) (R := fun v w' => v = .bool true ∧ Only (fun _ => False) wr.drew w') ((unhide C1).mono (by rintro en w' ⟨rfl, o⟩; exact ⟨_, rfl, rfl, o⟩)) ?kccre
                  case kccre =>
                  rintro _ w6 ⟨rfl, o6⟩
                  have oE : Only (fun _ => False) wr w6 := (Only.refl _ wr).drew.trans o6 (fun _ _ e => e)
                  have S6 := unhide HSB w6 oE
                  refine ⟨S6, ?_⟩
                  try simp only [Act.put, List.setIfInBounds_toArray, List.set_cons_zero, List.set_cons_succ]
                  refine takeH 10 47 (v := ?vre10) rfl rfl (by kernel_rfl) (by kernel_rfl) (by kernel_rfl) (fun _ _ _ h => h) (Or.inl ⟨by rfl, ?hre10⟩) S6 ?rre10
                  case hre10 => (intro w hSw; clear hSw; go_simp; (try with_reducible rfl))
                  case rre10 =>
                  try simp only [Act.put, List.setIfInBounds_toArray, List.set_cons_zero, List.set_cons_succ]
                  refine takeH 11 48 (v := ?vre11) rfl rfl (by kernel_rfl) (by kernel_rfl) (by kernel_rfl) (fun _ _ _ h => h) (Or.inl ⟨by rfl, ?hre11⟩) S6 ?rre11
                  case hre11 => (intro w hSw; clear hSw; go_simp; (try with_reducible rfl))
                  case rre11 =>
                  try simp only [Act.put, List.setIfInBounds_toArray, List.set_cons_zero, List.set_cons_succ]
                  refine takeH 12 49 (v := ?vre12) rfl rfl (by kernel_rfl) (by kernel_rfl) (by kernel_rfl) (fun _ _ _ h => h) (Or.inl ⟨by rfl, ?hre12⟩) S6 ?rre12
                  case hre12 => (intro w hSw; clear hSw; go_simp; (try with_reducible rfl))
                  case rre12 =>
                  try simp only [Act.put, List.setIfInBounds_toArray, List.set_cons_zero, List.set_cons_succ]
                  refine takeH 13 50 (v := ?vre13) rfl rfl (by kernel_rfl) (by kernel_rfl) (by kernel_rfl) (fun _ _ _ h => h) (Or.inl ⟨by rfl, ?hre13⟩) S6 ?rre13
                  case hre13 => (intro w hSw; clear hSw; go_simp; (try with_reducible rfl))
                  case rre13 =>
                  try simp only [Act.put, List.setIfInBounds_toArray, List.set_cons_zero, List.set_cons_succ]
                  refine takeH 14 51 (v := ?vre14) rfl rfl (by kernel_rfl) (by kernel_rfl) (by kernel_rfl) (fun _ _ _ h => h) (Or.inl ⟨by rfl, ?hre14⟩) S6 ?rre14
                  case hre14 => (intro w hSw; clear hSw; go_simp; (try with_reducible rfl))
                  case rre14 =>
                  try simp only [Act.put, List.setIfInBounds_toArray, List.set_cons_zero, List.set_cons_succ]
                  refine takeH 15 52 (v := undef) rfl rfl (by kernel_rfl) (by kernel_rfl) (by kernel_rfl) (fun _ _ _ h => h) (Or.inr ⟨by rfl, rfl⟩) S6 ?rre15
                  case rre15 =>
                  try simp only [Act.put, List.setIfInBounds_toArray, List.set_cons_zero, List.set_cons_succ]
                  refine takeH 16 53 (v := undef) rfl rfl (by kernel_rfl) (by kernel_rfl) (by kernel_rfl) (fun _ _ _ h => h) (Or.inr ⟨by rfl, rfl⟩) S6 ?rre16
                  case rre16 =>
                  try simp only [Act.put, List.setIfInBounds_toArray, List.set_cons_zero, List.set_cons_succ]
                  refine takeH 17 54 (v := undef) rfl rfl (by kernel_rfl) (by kernel_rfl) (by kernel_rfl) (fun _ _ _ h => h) (Or.inr ⟨by rfl, rfl⟩) S6 ?rre17
                  case rre17 =>
                  try simp only [Act.put, List.setIfInBounds_toArray, List.set_cons_zero, List.set_cons_succ]
                  refine takeH 18 55 (v := undef) rfl rfl (by kernel_rfl) (by kernel_rfl) (by kernel_rfl) (fun _ _ _ h => h) (Or.inr ⟨by rfl, rfl⟩) S6 ?rre18
                  case rre18 =>
                  try simp only [Act.put, List.setIfInBounds_toArray, List.set_cons_zero, List.set_cons_succ]
                  refine takeH 19 56 (v := undef) rfl rfl (by kernel_rfl) (by kernel_rfl) (by kernel_rfl) (fun _ _ _ h => h) (Or.inr ⟨by rfl, rfl⟩) S6 ?rre19
                  case rre19 =>
                  try simp only [Act.put, List.setIfInBounds_toArray, List.set_cons_zero, List.set_cons_succ]
                  refine takeH 20 57 (v := undef) rfl rfl (by kernel_rfl) (by kernel_rfl) (by kernel_rfl) (fun _ _ _ h => h) (Or.inr ⟨by rfl, rfl⟩) S6 ?rre20
                  case rre20 =>
                  try simp only [Act.put, List.setIfInBounds_toArray, List.set_cons_zero, List.set_cons_succ]
                  refine takeH 21 58 (v := ?vre21) rfl rfl (by kernel_rfl) (by kernel_rfl) (by kernel_rfl) (fun _ _ _ h => h) (Or.inl ⟨by rfl, ?hre21⟩) S6 ?rre21
                  case hre21 => (intro w hSw; clear hSw; go_simp; (try with_reducible rfl))
                  case rre21 =>
                  try simp only [Act.put, List.setIfInBounds_toArray, List.set_cons_zero, List.set_cons_succ]
                  refine takeH 22 59 (v := ?vre22) rfl rfl (by kernel_rfl) (by kernel_rfl) (by kernel_rfl) (fun _ _ _ h => h) (Or.inl ⟨by rfl, ?hre22⟩) S6 ?rre22
                  case hre22 => (intro w hSw; clear hSw; go_simp; (try with_reducible rfl))
                  case rre22 =>
                  try simp only [Act.put, List.setIfInBounds_toArray, List.set_cons_zero, List.set_cons_succ]
                  refine wpAnyH_done (by kernel_rfl) ?_ _
                  have HO6 := hide oE
                  clear HSB C1 S0 S6 o6 oE
                  go_wp2_with fail
                  go_meet
                  exact ⟨_, rfl, (fun _ => unhide HU), unhide HO6⟩
            case rest =>
            obtain ⟨bb, rfl, hbb, oC⟩ := hcut
            have HBB := hide hbb
            have HOC := hide ((unhide HOI).trans oC (fun _ _ e => e))
            clear hbb oC HSB S0 C1 HU
            cases bb with
            | false =>
              go_wp2_with fail
              go_roundw
              case rel => exact ⟨true, i + 1, rfl, by go_num, by omega, unhide HOC⟩
              case measure => simp [intOf]; omega
            | true =>
              have huo := unhide HBB rfl
              have hcol : 0 ≤ col ∧ qcol cols c.col = col := by
                unfold uoB at huo
                simp only [Bool.and_eq_true, decide_eq_true_eq] at huo
                exact ⟨huo.1.2, huo.2⟩
              have hq := qcol_rng cols c.col
              obtain ⟨cx, rfl⟩ : ∃ k : Nat, col = (k : Int) := ⟨col.toNat, by omega⟩
              have hcx : cx < z.2.length := by rw [((unhide HH).2.2.2.2.1 z (List.mem_of_getElem? (unhide HZ))).2]; omega
              obtain ⟨y, hy⟩ := getE hcx
              have hR := ownsRow_keep (unhide HH).2.2.2.1 (unhide HOC) (fun _ _ e => e)
              have hZr := ((unhide HH).2.2.2.2.1 z (List.mem_of_getElem? (unhide HZ))).1.keep (unhide HOC) (fun _ _ e => e)
              obtain ⟨rg, hrg, f0⟩ := rl_at hR (unhide HZ)
              obtain ⟨za, zc, hzs⟩ := hZr.shape
              obtain ⟨zn, hzn⟩ : ∃ n, z.2.length = n := ⟨_, rfl⟩
              rw [hzn] at hzs hcx
              rw [hzs] at f0 hZr
              obtain ⟨zg, hzg, v0, v1, v2⟩ := hZr.at_ hy
              subst hzg
              subst hrg
              obtain ⟨ga', hga', d0, d1, d2, d3, d4⟩ := ((unhide HH).2.2.1.quiet (unhide HOC)).at_ (unhide HC)
              obtain rfl : ga = ga' := by simpa using hga'
              have oD : Only (fun _ => False) wc wc.drew := (Only.refl _ wc).drew
              have C2 := slloosely_any y c wc.drew
              unfold vlA scU at C2
              have C2 := hide (C2.mono (fun e w' h => show ∃ v, e = .returned v ∧ ((∃ b, v = .bool b) ∧ Only (fun _ => False) wc.drew w') from by obtain ⟨b, h1, h2⟩ := h; exact ⟨_, h1, ⟨b, rfl⟩, h2⟩))
              have hcxp : (cx : Int) < (zn : Int) := by omega
              clear huo hcol hq hy hR hZr hzs hzn hga' oD HBB
              have S0 : wc.cell? ⟨rg, r, none⟩ = some (.slice (some ⟨zg, 0, none⟩) zn zc) ∧ wc.cell? ⟨zg, cx * 3, none⟩ = some (.bool y.str) ∧ wc.cell? ⟨zg, cx * 3 + 1, none⟩ = some (.int .i64 y.i) ∧ wc.cell? ⟨zg, cx * 3 + 2, none⟩ = some (.string y.s) ∧ wc.cell? ⟨ga, i * 5, none⟩ = some (.string c.col) ∧ wc.cell? ⟨ga, i * 5 + 1, none⟩ = some (.string (opT c.op)) ∧ wc.cell? ⟨ga, i * 5 + 2, none⟩ = some (.bool c.lit.str) ∧ wc.cell? ⟨ga, i * 5 + 3, none⟩ = some (.int .i64 c.lit.i) ∧ wc.cell? ⟨ga, i * 5 + 4, none⟩ = some (.string c.lit.s) := ⟨f0, v0, v1, v2, d0, d1, d2, d3, d4⟩
              have HSB := hide (show ∀ W, Only (fun _ => False) wc W → (W.cell? ⟨rg, r, none⟩ = some (.slice (some ⟨zg, 0, none⟩) zn zc) ∧ W.cell? ⟨zg, cx * 3, none⟩ = some (.bool y.str) ∧ W.cell? ⟨zg, cx * 3 + 1, none⟩ = some (.int .i64 y.i) ∧ W.cell? ⟨zg, cx * 3 + 2, none⟩ = some (.string y.s) ∧ W.cell? ⟨ga, i * 5, none⟩ = some (.string c.col) ∧ W.cell? ⟨ga, i * 5 + 1, none⟩ = some (.string (opT c.op)) ∧ W.cell? ⟨ga, i * 5 + 2, none⟩ = some (.bool c.lit.str) ∧ W.cell? ⟨ga, i * 5 + 3, none⟩ = some (.int .i64 c.lit.i) ∧ W.cell? ⟨ga, i * 5 + 4, none⟩ = some (.string c.lit.s)) from fun W o => ⟨o.cellS f0, o.cellS v0, o.cellS v1, o.cellS v2, o.cellS d0, o.cellS d1, o.cellS d2, o.cellS d3, o.cellS d4⟩)
              clear f0 v0 v1 v2 d0 d1 d2 d3 d4
              go_upto_region 14 with fail
              refine wp_region_held_drew (S := (fun w' => w'.cell? ⟨rg, r, none⟩ = some (.slice (some ⟨zg, 0, none⟩) zn zc) ∧ w'.cell? ⟨zg, cx * 3, none⟩ = some (.bool y.str) ∧ w'.cell? ⟨zg, cx * 3 + 1, none⟩ = some (.int .i64 y.i) ∧ w'.cell? ⟨zg, cx * 3 + 2, none⟩ = some (.string y.s) ∧ w'.cell? ⟨ga, i * 5, none⟩ = some (.string c.col) ∧ w'.cell? ⟨ga, i * 5 + 1, none⟩ = some (.string (opT c.op)) ∧ w'.cell? ⟨ga, i * 5 + 2, none⟩ = some (.bool c.lit.str) ∧ w'.cell? ⟨ga, i * 5 + 3, none⟩ = some (.int .i64 c.lit.i) ∧ w'.cell? ⟨ga, i * 5 + 4, none⟩ = some (.string c.lit.s))) (by kernel_rfl) S0 (fun hH0 => ?_)
              refine takeH 0 60 (v := ?vrz1) rfl rfl (by kernel_rfl) (by kernel_rfl) (by kernel_rfl) (fun _ _ _ h => h) (Or.inl ⟨by rfl, ?hrz1⟩) hH0 ?rrz1
              case hrz1 => (intro w hSw; clear hSw; go_simp; (try with_reducible rfl))
              case rrz1 =>
              try simp only [Act.put, List.setIfInBounds_toArray, List.set_cons_zero, List.set_cons_succ]
              refine takeH 1 61 (v := ?vrz2) rfl rfl (by kernel_rfl) (by kernel_rfl) (by kernel_rfl) (fun _ _ _ h => h) (Or.inl ⟨by rfl, ?hrz2⟩) hH0 ?rrz2
              case hrz2 => (intro w hSw; clear hSw; go_simp; (try with_reducible rfl))
              case rrz2 =>
              try simp only [Act.put, List.setIfInBounds_toArray, List.set_cons_zero, List.set_cons_succ]
              refine takeH 2 62 (v := ?vrz3) rfl rfl (by kernel_rfl) (by kernel_rfl) (by kernel_rfl) (fun _ _ _ h => h) (Or.inl ⟨by rfl, ?hrz3⟩) hH0 ?rrz3
              case hrz3 => (intro w hSw; clear hSw; go_simp; (try with_reducible rfl))
              case rrz3 =>
              try simp only [Act.put, List.setIfInBounds_toArray, List.set_cons_zero, List.set_cons_succ]
              refine takeH 3 63 (v := ?vrz4) rfl rfl (by kernel_rfl) (by kernel_rfl) (by kernel_rfl) (fun _ _ _ h => h) (Or.inl ⟨by rfl, ?hrz4⟩) hH0 ?rrz4
              case hrz4 => (intro w hSw; obtain ⟨s0, s1, s2, s3, s4, s5, s6, s7, s8⟩ := hSw; go_simp; (try with_reducible rfl))
              case rrz4 =>
              try simp only [Act.put, List.setIfInBounds_toArray, List.set_cons_zero, List.set_cons_succ]
              refine takeH 4 64 (v := ?vrz5) rfl rfl (by kernel_rfl) (by kernel_rfl) (by kernel_rfl) (fun _ _ _ h => h) (Or.inl ⟨by rfl, ?hrz5⟩) hH0 ?rrz5
              case hrz5 => (intro w hSw; clear hSw; go_simp; (try with_reducible rfl))
              case rrz5 =>
              try simp only [Act.put, List.setIfInBounds_toArray, List.set_cons_zero, List.set_cons_succ]
              refine takeH 5 65 (v := ?vrz6) rfl rfl (by kernel_rfl) (by kernel_rfl) (by kernel_rfl) (fun _ _ _ h => h) (Or.inl ⟨by rfl, ?hrz6⟩) hH0 ?rrz6
              case hrz6 => (intro w hSw; clear hSw; go_simp; (try with_reducible rfl))
              case rrz6 =>
              try simp only [Act.put, List.setIfInBounds_toArray, List.set_cons_zero, List.set_cons_succ]
              refine takeH 6 66 (v := ?vrz7) rfl rfl (by kernel_rfl) (by kernel_rfl) (by kernel_rfl) (fun _ _ _ h => h) (Or.inl ⟨by rfl, ?hrz7⟩) hH0 ?rrz7
              case hrz7 => (intro w hSw; obtain ⟨s0, s1, s2, s3, s4, s5, s6, s7, s8⟩ := hSw; go_simp; (try with_reducible rfl))
              case rrz7 =>
              try simp only [Act.put, List.setIfInBounds_toArray, List.set_cons_zero, List.set_cons_succ]
              refine takeH 7 67 (v := ?vrz8) rfl rfl (by kernel_rfl) (by kernel_rfl) (by kernel_rfl) (fun _ _ _ h => h) (Or.inl ⟨by rfl, ?hrz8⟩) hH0 ?rrz8
              case hrz8 => (intro w hSw; clear hSw; go_simp; (try with_reducible rfl))
              case rrz8 =>
              try simp only [Act.put, List.setIfInBounds_toArray, List.set_cons_zero, List.set_cons_succ]
              refine takeH 8 68 (v := ?vrz9) rfl rfl (by kernel_rfl) (by kernel_rfl) (by kernel_rfl) (fun _ _ _ h => h) (Or.inl ⟨by rfl, ?hrz9⟩) hH0 ?rrz9
              case hrz9 => (intro w hSw; clear hSw; go_simp; (try with_reducible rfl))
              case rrz9 =>
              try simp only [Act.put, List.setIfInBounds_toArray, List.set_cons_zero, List.set_cons_succ]
              refine takeH 9 69 (v := ?vrz10) rfl rfl (by kernel_rfl) (by kernel_rfl) (by kernel_rfl) (fun _ _ _ h => h) (Or.inl ⟨by rfl, ?hrz10⟩) hH0 ?rrz10
              case hrz10 => (intro w hSw; clear hSw; go_simp; (try with_reducible rfl))
              case rrz10 =>
              try simp only [Act.put, List.setIfInBounds_toArray, List.set_cons_zero, List.set_cons_succ]
              refine takeH 10 70 (v := ?vrz11) rfl rfl (by kernel_rfl) (by kernel_rfl) (by kernel_rfl) (fun _ _ _ h => h) (Or.inl ⟨by rfl, ?hrz11⟩) hH0 ?rrz11
              case hrz11 => (intro w hSw; obtain ⟨s0, s1, s2, s3, s4, s5, s6, s7, s8⟩ := hSw; go_simp; (try with_reducible rfl))
              case rrz11 =>
              try simp only [Act.put, List.setIfInBounds_toArray, List.set_cons_zero, List.set_cons_succ]
              refine callH 11 (by kernel_rfl) rfl 71 rfl rfl 183 Tryz.func183 (by kernel_rfl) (by kernel_rfl) #[.tmp 66, .tmp 70] #[152, 259] rfl #[.agg #[.bool y.str, .int .i64 y.i, .string y.s], .agg #[.string c.col, .string (opT c.op), .bool c.lit.str, .int .i64 c.lit.i, .string c.lit.s]] (by simp [Act.eval]) (R := fun v w' => (∃ b, v = .bool b) ∧ Only (fun _ => False) wc.drew w') (unhide C2) ?klo
              case klo =>
              rintro _ w6 ⟨⟨lb, rfl⟩, o6⟩
              have oE : Only (fun _ => False) wc w6 := (Only.refl _ wc).drew.trans o6 (fun _ _ e => e)
              have S6 := unhide HSB w6 oE
              refine ⟨S6, ?_⟩
              try simp only [Act.put, List.setIfInBounds_toArray, List.set_cons_zero, List.set_cons_succ]
              refine takeH 12 11 (v := ?vrz12) rfl rfl (by kernel_rfl) (by kernel_rfl) (by kernel_rfl) (fun _ _ _ h => h) (Or.inl ⟨by rfl, ?hrz12⟩) S6 ?rrz12
              case hrz12 => (intro w hSw; clear hSw; go_simp; (try with_reducible rfl))
              case rrz12 =>
              try simp only [Act.put, List.setIfInBounds_toArray, List.set_cons_zero, List.set_cons_succ]
              refine wpAnyH_done (by kernel_rfl) ?_ _
              have HOI := hide ((unhide HOC).trans oE (fun _ _ e => e))
              clear HSB C2 S0 S6 o6 oE HOC
              by_cases h1 : kd = 1
              · have c1 : (kd == 1) = true := by simpa using h1
                clear h1
                cases lb with
                | false =>
                  go_wp2_with fail
                  go_roundw
                  case rel => exact ⟨cnt, r + 1, rfl, by go_num, by omega, by omega, unhide HOI⟩
                  case measure => simp [intOf]; omega
                | true =>
                  go_wp2_with fail
                  go_roundw
                  case rel => exact ⟨cnt + 1, r + 1, by go_num, by go_num, by omega, by omega, unhide HOI⟩
                  case measure => simp [intOf]; omega
              · have c1 : (kd == 1) = false := by simpa using h1
                clear h1
                go_wp2_with fail
                go_roundw
                case rel => exact ⟨lb, i + 1, rfl, by go_num, by omega, unhide HOI⟩
                case measure => simp [intOf]; omega
        · have b2 : decide ((i : Int) < (wn : Int)) = false := decide_eq_false (by omega)
          have b2p : ¬ (i : Int) < (wn : Int) := by omega
          cases b with
          | false =>
            go_wp2_with fail
            go_roundw
            case rel => exact ⟨cnt, r + 1, rfl, by go_num, by omega, by omega, unhide HOI⟩
            case measure => simp [intOf]; omega
          | true =>
            go_wp2_with fail
            go_roundw
            case rel => exact ⟨cnt + 1, r + 1, by go_num, by go_num, by omega, by omega, unhide HOI⟩
            case measure => simp [intOf]; omega
    · have b1 : decide ((r : Int) < (rn : Int)) = false := decide_eq_false (by omega)
      have b1p : ¬ (r : Int) < (rn : Int) := by omega
      have HOR := hide oR
      clear oR
      go_wp2_with fail
      go_ret
      exact ⟨⟨cnt, rfl⟩, (unhide HH).2.2.2.2.2.trans (unhide HOR) (fun _ _ e => e)⟩
end
end Go.Proofs.Qxb6500412aGreat
