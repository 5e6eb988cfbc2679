/-
  OWN WORK. QUERY: a number read.
-/
import Derived.Test.Qxb6500412aGreatS1
namespace Go.Proofs.Qxb6500412aGreat
open Go.RowKit Go.PlainAid
set_option linter.unusedSimpArgs false
set_option linter.unusedVariables false

theorem sres_cell {fn : Func} {p : Tmp} {ty : TypeId} (h : fn.results = #[.cell p ty]) (tmps : Array Value) {w : World} {g : Nat} {c : Array Value} (hp : tmps.getD p undef = .pointer (some ⟨g, 0, none⟩)) (hl : (loadVar ty ⟨g, 0, none⟩).run Tryz.prog w = .ok (.agg c) w) : (results fn tmps).run Tryz.prog w = .ok (.agg c) w := by
  simp only [results, h]
  have hp' : tmps[p]?.getD undef = .pointer (some ⟨g, 0, none⟩) := by simpa using hp
  simp [Sem.run_bind, Result.andThen, hp', asAddr, hl]
theorem Only.lateS {B C : Nat → Prop} {w w' w1 : World} (o : Only B w w') (ho : Only C w' w1) (hC : ∀ k, C k → w.heap.size ≤ k) : Only B w w1 :=
  ((o.mono (T := fun k => B k ∨ w.heap.size ≤ k) (fun k _ h => .inl h)).trans (ho.mono (T := fun k => B k ∨ w.heap.size ≤ k) (fun k _ h => .inr (hC k h))) (fun _ _ h => h)).mono (fun k hl h => h.elim id (fun c => by omega))
theorem Tryz.sizeSQTok : (Tryz.prog.info? 227).map (·.size) = some 4 := by kernel_rfl
theorem sres_tok {fn : Func} {p : Tmp} (h : fn.results = #[.cell p 227]) (tmps : Array Value) {w : World} {g : Nat} {c : Array Value} (hp : tmps.getD p undef = .pointer (some ⟨g, 0, none⟩)) (hn : Has w g c 227) (hc : c.size = 4) : (results fn tmps).run Tryz.prog w = .ok (.agg c) w :=
  sres_cell h tmps hp (run_loadVar_row w g 227 227 _ (0, 0) _ hn Tryz.underlying227 rfl (by rw [Tryz.sizeSQTok, hc]))
/-- A token in memory: kind, text, value, end. -/
def tkV (k : Int) (s : ByteArray) (v e : Int) : Array Value := #[.int .i64 k, .string s, .int .i64 v, .int .i64 e]
def tokC : Option (Tk × Nat) → Array Value
  | none => tkV 1 ⟨#[]⟩ 0 0
  | some (.word s, e) => tkV (if kwB s = true then 3 else 2) s 0 e
  | some (.num v, e) => tkV 4 ⟨#[]⟩ v e
  | some (.str s, e) => tkV 5 s 0 e
  | some (.sign s, e) => tkV 6 s 0 e
theorem dig_rng {c : Nat} (h : digC c = true) : 48 ≤ c ∧ c ≤ 57 := by
  unfold digC at h
  simp only [Bool.and_eq_true, decide_eq_true_eq] at h
  exact h
/-- A token laid into the result's block. -/
theorem tok_set {w : World} {g : Nat} {a b x y : Value} (h : Has w g #[a, b, x, y] 227) (k : Int) (s : ByteArray) (v e : Int) : Has ((((w.setCell ⟨g, 0, none⟩ (.int .i64 k)).setCell ⟨g, 1, none⟩ (.string s)).setCell ⟨g, 2, none⟩ (.int .i64 v)).setCell ⟨g, 3, none⟩ (.int .i64 e)) g (tkV k s v e) 227 :=
  (((h.setCell 0 (.int .i64 k)).setCell 1 (.string s)).setCell 2 (.int .i64 v)).setCell 3 (.int .i64 e)
theorem onlyS4 (w : World) (g : Nat) (a b x y : Value) : Only (fun k => k = g) w ((((w.setCell ⟨g, 0, none⟩ a).setCell ⟨g, 1, none⟩ b).setCell ⟨g, 2, none⟩ x).setCell ⟨g, 3, none⟩ y) := (((only1 (p := g) _ _).trans (only1 (p := g) _ _) (fun _ _ h => h)).trans (only1 (p := g) _ _) (fun _ _ h => h)).trans (only1 (p := g) _ _) (fun _ _ h => h)
/-- Digits to their end. -/
theorem run_here {t : ByteArray} {d j : Nat} (hdj : d ≤ j) (hj : j ≤ t.size) (hall : ∀ k, d ≤ k → k < j → digC (byteAt t k) = true) (hs : t.size ≤ j ∨ digC (byteAt t j) = false) : run digC t d = j :=
  run_eq hdj hj hall (fun h => hs.elim (fun c => by omega) id)
theorem run_over {t : ByteArray} {d j : Nat} (hdj : d ≤ j) (hj : j ≤ t.size) (hall : ∀ k, d ≤ k → k < j → digC (byteAt t k) = true) : j ≤ run digC t d := by
  obtain ⟨r1, r2, r3, r4⟩ := run_spec (p := digC) (t := t) (i := d) (by omega)
  rcases Nat.lt_or_ge (run digC t d) j with c | c
  · have := hall _ r1 c
    rw [r4 (by omega)] at this
    cases this
  · exact c
section
variable {t : ByteArray} {i : Nat}
set_option maxRecDepth 100000 in
set_option maxHeartbeats 8000000 in
theorem sqlexInt_any (t : ByteArray) (ht : t.size ≤ 256) (i : Nat) (hi : i < t.size) (hn : numb t i = true) (w : World) : Calls Tryz.prog 293 #[.string t, .int .i64 (i : Int)] w fun e w' => e = .returned (.agg (tokC (numA t i))) ∧ Only (fun _ => False) w w' := by
  have o1 : Only (fun _ => False) w (w.alloc (.cells #[.int .i64 0, .string ⟨#[]⟩, .int .i64 0, .int .i64 0] 227)) := (Only.refl _ w).alloc _
  have N1 := Has.new w #[.int .i64 0, .string ⟨#[]⟩, .int .i64 0, .int .i64 0] 227
  have hb : (t[i].toNat : Int) = ((byteAt t i : Nat) : Int) := byteAt_idx t i hi
  have iI : (i : Int) < (t.size : Int) := by omega
  have hsI : (t.size : Int) ≤ 256 := by omega
  -- what is owed, by where the digits start
  obtain ⟨neg, hneg⟩ : ∃ b, decide (byteAt t i = 45) = b := ⟨_, rfl⟩
  have e45 : (((byteAt t i : Nat) : Int) == 45) = neg := by rw [← hneg, Bool.eq_iff_iff]; simp; omega
  obtain ⟨d, hd⟩ : ∃ d : Nat, d = if neg = true then i + 1 else i := ⟨_, rfl⟩
  have hds : d ≤ t.size := by rw [hd]; split <;> omega
  have key : ∀ j : Nat, run digC t d = j → numA t i = if neg = true then (if numD t d j ≤ 9223372036854775808 then some (.num (-(numD t d j : Int)), j) else none) else (if numD t d j ≤ 9223372036854775807 then some (.num (numD t d j : Int), j) else none) := by
    intro j hj
    unfold numA
    cases neg with
    | true =>
      rw [if_pos (of_decide_eq_true hneg), if_pos rfl]
      rw [if_pos rfl] at hd
      rw [← hd, hj]
    | false =>
      rw [if_neg (of_decide_eq_false hneg), if_neg (by decide : ¬ (false = true))]
      rw [if_neg (by decide : ¬ (false = true))] at hd
      rw [← hd, hj]
  have HK := hide key
  have HO := hide o1
  have HN := hide N1
  have Hd := hide hd
  clear key o1 N1 hneg hn
  go_enter Tryz.func293, Tryz.ntmps293
  go_upto_region 1 with fail
  generalize w.alloc (.cells #[.int .i64 0, .string ⟨#[]⟩, .int .i64 0, .int .i64 0] 227) = w1 at *
  generalize hg : w.heap.size = g at *
  have Hg := hide hg
  clear hg
  have gl := (unhide HN).lt
  have c0 : w1.cell? ⟨g, 0, none⟩ = some (.int .i64 0) := (unhide HN).cell 0
  have c1 : w1.cell? ⟨g, 1, none⟩ = some (.string ⟨#[]⟩) := (unhide HN).cell 1
  have c2 : w1.cell? ⟨g, 2, none⟩ = some (.int .i64 0) := (unhide HN).cell 2
  have c3 : w1.cell? ⟨g, 3, none⟩ = some (.int .i64 0) := (unhide HN).cell 3
  have f0 := (unhide HN).free 0
  have f1 := (unhide HN).free 1
  have f2 := (unhide HN).free 2
  have f3 := (unhide HN).free 3
  -- the end, whatever is stored
  have HE := hide (fun (k : Int) (s : ByteArray) (v e : Int) (h : tkV k s v e = tokC (numA t i)) => show (Ending.returned (.agg (tkV k s v e)) = .returned (.agg (tokC (numA t i))) ∧ Only (fun _ => False) w ((((w1.setCell ⟨g, 0, none⟩ (.int .i64 k)).setCell ⟨g, 1, none⟩ (.string s)).setCell ⟨g, 2, none⟩ (.int .i64 v)).setCell ⟨g, 3, none⟩ (.int .i64 e))) from ⟨by rw [h], (unhide HO).fresh (onlyS4 w1 g _ _ _ _) (by have := unhide Hg; omega)⟩)
  have HT := hide (fun (k : Int) (s : ByteArray) (v e : Int) => tok_set (unhide HN) k s v e)
  go_upto_if 12 with fail
  go_cut [1] from 13 to 14 (fun av wx => av = .int .i64 (d : Int) ∧ wx = w1)
  case first =>
    cases neg with
    | true =>
      have e : d = i + 1 := by rw [unhide Hd]; rfl
      go_wp2_with fail
      go_meet
      exact ⟨by rw [e]; go_num, rfl⟩
    | false =>
      have e : d = i := by rw [unhide Hd]; rfl
      go_wp2_with fail
      go_meet
      exact ⟨by rw [e], rfl⟩
  case rest =>
  obtain ⟨rfl, hw⟩ := hcut
  subst wc
  clear hb iI e45
  go_upto_region 5 with fail
  go_loopw [1, 6, 7] (fun av cv _ wr => ∃ j : Nat, av = .int .i64 (j : Int) ∧ d ≤ j ∧ j ≤ t.size ∧ (∀ k, d ≤ k → k < j → digC (byteAt t k) = true) ∧ numD t d j ≤ 9223372036854775808 ∧ cv = .int .i64 (-(numD t d j : Int)) ∧ wr = w1) (fun av _ _ _ => t.size + 1 - (intOf av).toNat)
  case atStart => exact ⟨d, rfl, Nat.le_refl _, hds, fun k h1 h2 => by omega, by rw [numD_nil]; omega, by rw [numD_nil]; rfl, rfl⟩
  case round =>
    obtain ⟨j, rfl, hdj, hjs, hall, hle, rfl, hwr⟩ := hrel
    subst wr
    have HA := hide hall
    obtain ⟨V, hV⟩ : ∃ V, numD t d j = V := ⟨_, rfl⟩
    rw [hV] at hle ⊢
    have HV := hide hV
    clear hall hV
    have vI : (V : Int) ≤ 9223372036854775808 := by omega
    by_cases hjl : j < t.size
    · have a1 : decide ((j : Int) < (t.size : Int)) = true := decide_eq_true (by omega)
      have a1p : (j : Int) < (t.size : Int) := by omega
      have hb : (t[j].toNat : Int) = ((byteAt t j : Nat) : Int) := byteAt_idx t j hjl
      have CD := hide (sqdigit_any (byteAt t j) w1)
      obtain ⟨bd, hbd⟩ : ∃ b, digC (byteAt t j) = b := ⟨_, rfl⟩
      rw [hbd] at CD
      have Hb := hide hbd
      obtain ⟨c, hc⟩ : ∃ c, byteAt t j = c := ⟨_, rfl⟩
      rw [hc] at CD hb
      have Hc := hide hc
      clear hbd hc
      go_wp2_with fail
      refine (unhide CD).mono ?_
      rintro e w2 ⟨rfl, rfl⟩
      clear CD
      cases bd with
      | true =>
        have rg := dig_rng (by rw [← unhide Hc]; exact unhide Hb : digC c = true)
        have hnx : numD t d (j + 1) = V * 10 + (c - 48) := by rw [numD_step hdj, unhide HV, unhide Hc]
        obtain ⟨m, hm⟩ : ∃ m, c - 48 = m := ⟨_, rfl⟩
        rw [hm] at hnx
        have m9 : m ≤ 9 := by omega
        have cw : IntKind.u8.wrap ((c : Int) - 48) = (m : Int) := by rw [IntKind.wrap_u8]; omega
        have mw : IntKind.i64.wrap (m : Int) = (m : Int) := by rw [IntWalk.i64_in] <;> omega
        have sw : IntKind.i64.wrap (-9223372036854775808 + (m : Int)) = -9223372036854775808 + (m : Int) := by rw [IntWalk.i64_in] <;> omega
        obtain ⟨Q, hQ⟩ : ∃ Q, (9223372036854775808 - m) / 10 = Q := ⟨_, rfl⟩
        have hq : (-9223372036854775808 + (m : Int)).tdiv 10 = -(Q : Int) := by
          have e : (-9223372036854775808 + (m : Int)) = -((9223372036854775808 - m : Nat) : Int) := by omega
          rw [e, Int.neg_tdiv, Int.tdiv_eq_ediv_of_nonneg (by omega)]
          omega
        have mI : (m : Int) ≤ 9 := by omega
        have Q9 : (Q : Int) ≤ 922337203685477580 := by omega
        have HX := hide (And.intro hnx hQ)
        by_cases hov : V * 10 + m ≤ 9223372036854775808
        · have a2 : decide (Q < V) = false := decide_eq_false (by omega)
          have a3 : decide ((Q : Int) < (V : Int)) = false := decide_eq_false (by omega)
          have a4 : ¬ Q < V := by omega
          have mu : IntKind.i64.wrap (-(V : Int) * 10) = -(V : Int) * 10 := by rw [IntWalk.i64_in] <;> omega
          have su : IntKind.i64.wrap (-(V : Int) * 10 - (m : Int)) = -((V * 10 + m : Nat) : Int) := by rw [IntWalk.i64_in] <;> omega
          have HR := hide (show d ≤ j + 1 ∧ j + 1 ≤ t.size ∧ (∀ k, d ≤ k → k < j + 1 → digC (byteAt t k) = true) ∧ numD t d (j + 1) ≤ 9223372036854775808 ∧ -((V : Int) * 10 + (m : Int)) = -(numD t d (j + 1) : Int) from ⟨by omega, by omega, fun k h1 h2 => (by
            by_cases e : k = j
            · rw [e]; exact unhide Hb
            · exact unhide HA k h1 (by omega)), by rw [hnx]; exact hov, by rw [hnx]; omega⟩)
          clear hnx hQ hov rg hm hle
          go_wp2_with fail
          exact ⟨⟨j + 1, by go_num, (unhide HR).1, (unhide HR).2.1, (unhide HR).2.2.1, (unhide HR).2.2.2.1, by rw [(unhide HR).2.2.2.2], trivial⟩, by simp [intOf]; omega⟩
        · have a2 : decide (Q < V) = true := decide_eq_true (by omega)
          have a3 : decide ((Q : Int) < (V : Int)) = true := decide_eq_true (by omega)
          have a4 : Q < V := by omega
          have hfin : tkV 1 ⟨#[]⟩ 0 0 = tokC (numA t i) := by
            have h1 := run_over (t := t) (d := d) (j := j + 1) (by omega) (by omega) (fun k h1 h2 => by
              by_cases e : k = j
              · rw [e]; exact unhide Hb
              · exact unhide HA k h1 (by omega))
            have h2 := numD_mono (t := t) (i := d) h1
            have h3 : ¬ numD t d (run digC t d) ≤ 9223372036854775808 := by omega
            have h4 : ¬ numD t d (run digC t d) ≤ 9223372036854775807 := by omega
            rw [unhide HK _ rfl, if_neg h3, if_neg h4]
            split <;> rfl
          have FF := hide (unhide HE 1 ⟨#[]⟩ 0 0 hfin)
          have HH := hide (unhide HT 1 ⟨#[]⟩ 0 0)
          clear hnx hQ hov rg hm hle hfin
          go_wp2_with fail
          exact bodyPost_ret (sres_tok Tryz.results293 _ rfl (unhide HH) rfl) rfl (unhide FF)
      | false =>
        have hj := run_here hdj hjs (unhide HA) (.inr (unhide Hb))
        have hk := unhide HK j hj
        rw [unhide HV] at hk
        cases neg with
        | true =>
          rw [if_pos rfl, if_pos hle] at hk
          have hfin : tkV 4 ⟨#[]⟩ (-(V : Int)) (j : Int) = tokC (numA t i) := by rw [hk]; rfl
          have FF := hide (unhide HE 4 ⟨#[]⟩ (-(V : Int)) (j : Int) hfin)
          have HH := hide (unhide HT 4 ⟨#[]⟩ (-(V : Int)) (j : Int))
          clear hk hfin hj
          go_wp2_with fail
          exact bodyPost_ret (sres_tok Tryz.results293 _ rfl (unhide HH) rfl) rfl (unhide FF)
        | false =>
          rw [if_neg (by decide : ¬ (false = true))] at hk
          by_cases hm : V = 9223372036854775808
          · rw [if_neg (by omega)] at hk
            have hfin : tkV 1 ⟨#[]⟩ 0 0 = tokC (numA t i) := by rw [hk]; rfl
            have FF := hide (unhide HE 1 ⟨#[]⟩ 0 0 hfin)
            have HH := hide (unhide HT 1 ⟨#[]⟩ 0 0)
            subst hm
            clear hk hfin hj
            go_wp2_with fail
            exact bodyPost_ret (sres_tok Tryz.results293 _ rfl (unhide HH) rfl) rfl (unhide FF)
          · rw [if_pos (by omega)] at hk
            have b1 : (-(V : Int) == -9223372036854775808) = false := ne_intO (by omega)
            have b2 : (V : Int) ≠ 9223372036854775808 := by omega
            have b3 : ((V : Int) == 9223372036854775808) = false := ne_intO (by omega)
            have b4 : (V == 9223372036854775808) = false := by simpa using hm
            have nw : IntKind.i64.wrap (-(-(V : Int))) = (V : Int) := by rw [IntWalk.i64_in] <;> omega
            have nw2 : IntKind.i64.wrap ((V : Int)) = (V : Int) := by rw [IntWalk.i64_in] <;> omega
            have hfin : tkV 4 ⟨#[]⟩ (V : Int) (j : Int) = tokC (numA t i) := by rw [hk]; rfl
            have FF := hide (unhide HE 4 ⟨#[]⟩ (V : Int) (j : Int) hfin)
            have HH := hide (unhide HT 4 ⟨#[]⟩ (V : Int) (j : Int))
            clear hk hfin hj
            go_wp2_with fail
            exact bodyPost_ret (sres_tok Tryz.results293 _ rfl (unhide HH) rfl) rfl (unhide FF)
    · have a1 : decide ((j : Int) < (t.size : Int)) = false := decide_eq_false (by omega)
      have hj := run_here hdj hjs (unhide HA) (.inl (by omega))
      have hk := unhide HK j hj
      rw [unhide HV] at hk
      cases neg with
      | true =>
        rw [if_pos rfl, if_pos hle] at hk
        have hfin : tkV 4 ⟨#[]⟩ (-(V : Int)) (j : Int) = tokC (numA t i) := by rw [hk]; rfl
        have FF := hide (unhide HE 4 ⟨#[]⟩ (-(V : Int)) (j : Int) hfin)
        have HH := hide (unhide HT 4 ⟨#[]⟩ (-(V : Int)) (j : Int))
        clear hk hfin hj
        go_wp2_with fail
        exact bodyPost_ret (sres_tok Tryz.results293 _ rfl (unhide HH) rfl) rfl (unhide FF)
      | false =>
        rw [if_neg (by decide : ¬ (false = true))] at hk
        by_cases hm : V = 9223372036854775808
        · rw [if_neg (by omega)] at hk
          have hfin : tkV 1 ⟨#[]⟩ 0 0 = tokC (numA t i) := by rw [hk]; rfl
          have FF := hide (unhide HE 1 ⟨#[]⟩ 0 0 hfin)
          have HH := hide (unhide HT 1 ⟨#[]⟩ 0 0)
          subst hm
          clear hk hfin hj
          go_wp2_with fail
          exact bodyPost_ret (sres_tok Tryz.results293 _ rfl (unhide HH) rfl) rfl (unhide FF)
        · rw [if_pos (by omega)] at hk
          have b1 : (-(V : Int) == -9223372036854775808) = false := ne_intO (by omega)
          have b2 : (V : Int) ≠ 9223372036854775808 := by omega
          have b3 : ((V : Int) == 9223372036854775808) = false := ne_intO (by omega)
          have b4 : (V == 9223372036854775808) = false := by simpa using hm
          have nw : IntKind.i64.wrap (-(-(V : Int))) = (V : Int) := by rw [IntWalk.i64_in] <;> omega
          have nw2 : IntKind.i64.wrap ((V : Int)) = (V : Int) := by rw [IntWalk.i64_in] <;> omega
          have hfin : tkV 4 ⟨#[]⟩ (V : Int) (j : Int) = tokC (numA t i) := by rw [hk]; rfl
          have FF := hide (unhide HE 4 ⟨#[]⟩ (V : Int) (j : Int) hfin)
          have HH := hide (unhide HT 4 ⟨#[]⟩ (V : Int) (j : Int))
          clear hk hfin hj
          go_wp2_with fail
          exact bodyPost_ret (sres_tok Tryz.results293 _ rfl (unhide HH) rfl) rfl (unhide FF)
end
end Go.Proofs.Qxb6500412aGreat
