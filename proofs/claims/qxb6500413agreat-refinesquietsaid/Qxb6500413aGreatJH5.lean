/-
  OWN WORK. THE TABLE LAW's GHOST: Due.
-/
import Derived.Test.Qxb6500413aGreatJH3
import Derived.Test.Qxb6500413aGreatJH4
namespace Go.Proofs.Qxb6500413aGreat
open Go.RowKit Go.PlainAid
set_option linter.unusedSimpArgs false
set_option linter.unusedVariables false

section
variable {w w' w1 : World} {g : Nat} {cv mv cv' : Value} {cl ml cl' : List GE} {op : Bool} {kind a : Int} {s T : ByteArray} {D : Db}
theorem BrP.low {x : Ending} (o1 : Only (fun _ => False) w w1) (h : BrP kind w1 g cv cl mv ml op x w') : BrP kind w g cv cl mv ml op x w' := by
  obtain ⟨cv', cl', mv', ml', op', z, hx, h1, h2, h3, h4, h6, h5⟩ := h
  have := o1.size
  exact ⟨cv', cl', mv', ml', op', z, hx, h1, h2, fun k hk => (h3 k hk).imp id (fun c => by omega), fun k hk => (h4 k hk).imp id (fun c => by omega), h6, (o1.mono (fun _ _ e => e.elim)).trans h5 (fun _ _ e => e)⟩
theorem DuP.low {x : Ending} (o1 : Only (fun _ => False) w w1) (h : DuP kind a s T D w1 g cv cl mv ml x w') : DuP kind a s T D w g cv cl mv ml x w' := by
  obtain ⟨cv', cl', hx, h1, h2, h3, h4, h5⟩ := h
  have := o1.size
  exact ⟨cv', cl', hx, h1, h2, fun k hk => (h3 k hk).imp id (fun c => by omega), fun k hk => (h4 k hk).imp id (fun c => by omega), (o1.mono (fun _ _ e => e.elim)).trans h5 (fun _ _ e => e)⟩
def opA (kind a bb cc : Int) (s T : ByteArray) : Value := .agg #[.int .i64 kind, .int .i64 a, .int .i64 bb, .int .i64 cc, .string s, .string T]
set_option maxRecDepth 100000 in
set_option maxHeartbeats 4000000 in
theorem jdueBr_any (H : GH w g cv cl mv ml op) (kind a bb cc : Int) (s T : ByteArray) (hk : kind ≤ 3) : Calls Tryz.prog 41 #[.pointer (some ⟨g, 0, none⟩), opA kind a bb cc s T] w (BrP kind w g cv cl mv ml op) := by
  have o1 : Only (fun _ => False) w (w.alloc (.cells #[.int .i64 kind, .int .i64 a, .int .i64 bb, .int .i64 cc, .string s, .string T] 41)) := (Only.refl _ w).alloc _
  have A1 : Has (w.alloc (.cells #[.int .i64 kind, .int .i64 a, .int .i64 bb, .int .i64 cc, .string s, .string T] 41)) w.heap.size #[.int .i64 kind, .int .i64 a, .int .i64 bb, .int .i64 cc, .string s, .string T] 41 := Has.new w _ _
  have a0 := A1.cell 0
  simp at a0
  have dk : decide (kind ≤ 3) = true := decide_eq_true hk
  have CB := hide (jdueB_any (H.quiet o1) kind)
  have HO := hide o1
  clear H o1 A1 hk
  unfold opA
  go_enter Tryz.func41, Tryz.ntmps41
  go_wp2_with fail
  refine (unhide CB).mono ?_
  rintro x w2 ⟨cv', cl', mv', ml', op', z, rfl, h⟩
  have HR := hide (BrP.low (unhide HO) (x := .returned (.int .i64 z)) ⟨cv', cl', mv', ml', op', z, rfl, h⟩)
  clear h CB a0
  go_wp2_with fail
  go_ret
  exact unhide HR
set_option maxRecDepth 100000 in
set_option maxHeartbeats 4000000 in
theorem jdueSh_any (H : GH w g cv cl mv ml false) (kind a bb cc : Int) (s T : ByteArray) (hk : 3 < kind) : Calls Tryz.prog 41 #[.pointer (some ⟨g, 0, none⟩), opA kind a bb cc s T] w fun x w' => x = .returned (.int .i64 2) ∧ Only (fun _ => False) w w' := by
  have o1 : Only (fun _ => False) w (w.alloc (.cells #[.int .i64 kind, .int .i64 a, .int .i64 bb, .int .i64 cc, .string s, .string T] 41)) := (Only.refl _ w).alloc _
  have A1 : Has (w.alloc (.cells #[.int .i64 kind, .int .i64 a, .int .i64 bb, .int .i64 cc, .string s, .string T] 41)) w.heap.size #[.int .i64 kind, .int .i64 a, .int .i64 bb, .int .i64 cc, .string s, .string T] 41 := Has.new w _ _
  have a0 := A1.cell 0
  simp at a0
  have c2 := (H.quiet o1).has.cell 2
  simp at c2
  have dk : decide (kind ≤ 3) = false := decide_eq_false (by omega)
  have HO := hide o1
  clear H o1 A1 hk
  unfold opA
  go_enter Tryz.func41, Tryz.ntmps41
  go_wp2_with fail
  go_ret
  exact ⟨rfl, unhide HO⟩
set_option maxRecDepth 100000 in
set_option maxHeartbeats 4000000 in
theorem jdueOp_any (H : GH w g cv cl mv ml true) (P : GP (cl.map (·.t)) D) (d : DOk D) (kind a bb cc : Int) (s T : ByteArray) (hT : T.size ≤ maxLen) (hk : 3 < kind) (hk9 : kind ≤ 9) : Calls Tryz.prog 41 #[.pointer (some ⟨g, 0, none⟩), opA kind a bb cc s T] w (DuP kind a s T D w g cv cl mv ml) := by
  have o1 : Only (fun _ => False) w (w.alloc (.cells #[.int .i64 kind, .int .i64 a, .int .i64 bb, .int .i64 cc, .string s, .string T] 41)) := (Only.refl _ w).alloc _
  have A1 : Has (w.alloc (.cells #[.int .i64 kind, .int .i64 a, .int .i64 bb, .int .i64 cc, .string s, .string T] 41)) w.heap.size #[.int .i64 kind, .int .i64 a, .int .i64 bb, .int .i64 cc, .string s, .string T] 41 := Has.new w _ _
  have a0 := A1.cell 0
  have a4 := A1.cell 4
  simp at a0 a4
  have H1 := H.quiet o1
  have c0 := H1.has.cell 0
  have c2 := H1.has.cell 2
  simp at c0 c2
  have dk : decide (kind ≤ 3) = false := decide_eq_false (by omega)
  obtain ⟨ia, icap, hiv⟩ := H1.cur.shape
  have CF := jgfind_any (H1.cur.quiet (Only.refl (fun _ => False) _).drew) s
  rw [hiv] at c0 CF
  have CF := hide CF
  have HG := hide (And.intro H (And.intro P (And.intro d (And.intro hk (And.intro hk9 (And.intro hT hiv))))))
  have HO := hide (And.intro o1 A1)
  obtain ⟨n, hN⟩ : ∃ n, cl.length = n := ⟨_, rfl⟩
  rw [hN] at c0 CF
  have HN := hide hN
  clear H P d o1 A1 hk hk9 hT H1 hiv hN
  unfold opA
  go_enter Tryz.func41, Tryz.ntmps41
  go_upto_region 5 with fail
  generalize w.alloc (.cells #[.int .i64 kind, .int .i64 a, .int .i64 bb, .int .i64 cc, .string s, .string T] 41) = w1 at *
  generalize w.heap.size = kb at *
  have c0 := ((unhide HG).1.quiet (unhide HO).1).has.cell 0
  have a4 := (unhide HO).2.cell 4
  simp at c0 a4
  rw [(unhide HG).2.2.2.2.2.2, unhide HN] at c0
  go_cut [5] (fun rv wx => ∃ r, rv = .int .i64 r ∧ GFR cl s r ∧ Only (fun _ => False) w1 wx)
  case first =>
    refine wp_region_held_drew (S := (fun w' => w'.cell? ⟨g, 0, none⟩ = some (.slice ia n icap) ∧ w'.cell? ⟨kb, 4, none⟩ = some (.string s))) (by kernel_rfl) ⟨c0, a4⟩ (fun hH0 => ?_)
    refine takeH 0 18 (v := ?vf1) rfl rfl (by kernel_rfl) (by kernel_rfl) (by kernel_rfl) (fun _ _ _ h => h) (Or.inl ⟨by rfl, ?hf1⟩) hH0 ?rf1
    case hf1 => (intro w hSw; clear hSw; go_simp; (try with_reducible rfl))
    case rf1 =>
    try simp only [Act.put, List.setIfInBounds_toArray, List.set_cons_zero, List.set_cons_succ]
    refine takeH 1 19 (v := ?vf2) rfl rfl (by kernel_rfl) (by kernel_rfl) (by kernel_rfl) (fun _ _ _ h => h) (Or.inl ⟨by rfl, ?hf2⟩) hH0 ?rf2
    case hf2 => (intro w hSw; clear hSw; go_simp; (try with_reducible rfl))
    case rf2 =>
    try simp only [Act.put, List.setIfInBounds_toArray, List.set_cons_zero, List.set_cons_succ]
    refine takeH 2 20 (v := ?vf3) rfl rfl (by kernel_rfl) (by kernel_rfl) (by kernel_rfl) (fun _ _ _ h => h) (Or.inl ⟨by rfl, ?hf3⟩) hH0 ?rf3
    case hf3 => (intro w hSw; clear hSw; go_simp; (try with_reducible rfl))
    case rf3 =>
    try simp only [Act.put, List.setIfInBounds_toArray, List.set_cons_zero, List.set_cons_succ]
    refine takeH 3 21 (v := ?vf4) rfl rfl (by kernel_rfl) (by kernel_rfl) (by kernel_rfl) (fun _ _ _ h => h) (Or.inl ⟨by rfl, ?hf4⟩) hH0 ?rf4
    case hf4 => (intro w hSw; obtain ⟨s0, s1⟩ := hSw; go_simp; (try with_reducible rfl))
    case rf4 =>
    try simp only [Act.put, List.setIfInBounds_toArray, List.set_cons_zero, List.set_cons_succ]
    refine takeH 4 22 (v := ?vf5) rfl rfl (by kernel_rfl) (by kernel_rfl) (by kernel_rfl) (fun _ _ _ h => h) (Or.inl ⟨by rfl, ?hf5⟩) hH0 ?rf5
    case hf5 => (intro w hSw; clear hSw; go_simp; (try with_reducible rfl))
    case rf5 =>
    try simp only [Act.put, List.setIfInBounds_toArray, List.set_cons_zero, List.set_cons_succ]
    refine takeH 5 23 (v := ?vf6) rfl rfl (by kernel_rfl) (by kernel_rfl) (by kernel_rfl) (fun _ _ _ h => h) (Or.inl ⟨by rfl, ?hf6⟩) hH0 ?rf6
    case hf6 => (intro w hSw; obtain ⟨s0, s1⟩ := hSw; go_simp; (try with_reducible rfl))
    case rf6 =>
    try simp only [Act.put, List.setIfInBounds_toArray, List.set_cons_zero, List.set_cons_succ]
    refine callH 6 (by kernel_rfl) rfl 24 rfl rfl 94 Tryz.func94 (by kernel_rfl) (by kernel_rfl) #[.tmp 21, .tmp 23] #[36, 9] rfl #[.slice ia n icap, .string s] (by simp [Act.eval]) (R := fun v w' => ∃ r, v = .int .i64 r ∧ GFR cl s r ∧ Only (fun _ => False) w1.drew w') ((unhide CF).mono (by rintro en w' ⟨r, rfl, hr, rfl⟩; exact ⟨_, rfl, r, rfl, hr, Only.refl _ _⟩)) ?kf
    case kf =>
    rintro _ w6 ⟨r, rfl, hr, o6⟩
    have S6 : w6.cell? ⟨g, 0, none⟩ = some (.slice ia n icap) ∧ w6.cell? ⟨kb, 4, none⟩ = some (.string s) := ⟨o6.cellF hH0.1, o6.cellF hH0.2⟩
    refine ⟨S6, ?_⟩
    try simp only [Act.put, List.setIfInBounds_toArray, List.set_cons_zero, List.set_cons_succ]
    refine takeH 7 5 (v := ?vf7) rfl rfl (by kernel_rfl) (by kernel_rfl) (by kernel_rfl) (fun _ _ _ h => h) (Or.inl ⟨by rfl, ?hf7⟩) S6 ?rf7
    case hf7 => (intro w hSw; clear hSw; go_simp; (try with_reducible rfl))
    case rf7 =>
    try simp only [Act.put, List.setIfInBounds_toArray, List.set_cons_zero, List.set_cons_succ]
    refine wpAnyH_done (by kernel_rfl) ?_ _
    have oD : Only (fun _ => False) w1 w6 := (Only.refl _ w1).drew.trans o6 (fun _ _ e => e)
    have HF := hide oD
    clear hH0 S6 o6 oD
    have HR := hide hr
    clear hr
    go_wp2_with fail
    go_meet
    exact ⟨r, rfl, unhide HR, unhide HF⟩
  case rest =>
  obtain ⟨r, rfl, hr, o2⟩ := hcut
  generalize wc = w2 at *
  have HO2 := hide ((unhide HO).1.trans o2 (fun _ _ e => e))
  have A2 := (unhide HO).2.keep o2 (fun e => e)
  have H2 := (unhide HG).1.quiet (unhide HO2)
  clear a0 a4 c0 c2 CF o2 HO
  have a0 := A2.cell 0
  have a1 := A2.cell 1
  have a2 := A2.cell 2
  have a3 := A2.cell 3
  have a4 := A2.cell 4
  have a5 := A2.cell 5
  simp at a0 a1 a2 a3 a4 a5
  have hk := (unhide HG).2.2.2.1
  have hk9 := (unhide HG).2.2.2.2.1
  by_cases k6 : kind ≤ 6
  · have d6 : decide (kind ≤ 6) = true := decide_eq_true k6
    have CS : Calls Tryz.prog 106 #[.pointer (some ⟨g, 0, none⟩), .agg #[.int .i64 kind, .int .i64 a, .int .i64 bb, .int .i64 cc, .string s, .string T], .int .i64 r] w2 (DuP kind a s T D w2 g cv cl mv ml) := by
      obtain rfl | rfl | rfl : kind = 4 ∨ kind = 5 ∨ kind = 6 := by omega
      · exact jdueS4_any H2 (unhide HG).2.1 (unhide HG).2.2.1 a bb cc s T (unhide HG).2.2.2.2.2.1 hr
      · exact jdueS5_any H2 (unhide HG).2.1 (unhide HG).2.2.1 a bb cc s T hr
      · exact jdueS6_any H2 (unhide HG).2.1 (unhide HG).2.2.1 a bb cc s T hr
    have CS := hide CS
    clear H2 hr A2 hk hk9 k6
    go_wp2_with fail
    refine (unhide CS).mono ?_
    rintro x w3 ⟨cv', cl', rfl, h⟩
    have HR := hide (DuP.low (unhide HO2) (x := .returned (.int .i64 (dueD kind a s T D).2)) ⟨cv', cl', rfl, h⟩)
    clear h CS
    go_wp2_with fail
    go_ret
    exact unhide HR
  · have d6 : decide (kind ≤ 6) = false := decide_eq_false k6
    have k789 : kind = 7 ∨ kind = 8 ∨ kind = 9 := by omega
    by_cases r0 : r < 0
    · have dr : decide (r < 0) = true := decide_eq_true r0
      have HR := hide (DuP.same (kind := kind) (a := a) (s := s) (T := T) (z := 10) (unhide HG).1 (unhide HG).2.1 (unhide HO2) (by rw [dueD_row k789]; unfold onT; rw [hr.no (unhide HG).2.1 r0]))
      clear H2 hr A2 hk hk9 k6 r0 k789
      go_wp2_with fail
      go_ret
      exact unhide HR
    · have dr : decide (r < 0) = false := decide_eq_false r0
      obtain ⟨i, e, t0, rfl, hi, hn, hf, h0, hg⟩ := hr.yes (unhide HG).2.1 (by omega)
      obtain ⟨b, cap, hcv, _, _⟩ := H2.cur.pt hi
      have hil := (List.getElem?_eq_some_iff.mp hi).1
      have c0 := H2.has.cell 0
      simp at c0
      have H2d := H2.cur.quiet ((Only.refl (fun _ => False) w2).drew)
      rw [hcv] at H2d c0
      have CR : Calls Tryz.prog 107 #[.pointer (some ⟨b, i * 5, none⟩), .agg #[.int .i64 kind, .int .i64 a, .int .i64 bb, .int .i64 cc, .string s, .string T]] w2.drew (RoP kind T t0 w2.drew b cap cl i e) := by
        rcases k789 with rfl | rfl | rfl
        · exact jdueI_any H2d hi hg ((unhide HG).2.2.1.tb t0 h0) 7 a bb cc (.inl rfl) s T (unhide HG).2.2.2.2.2.1
        · exact jdueI_any H2d hi hg ((unhide HG).2.2.1.tb t0 h0) 8 a bb cc (.inr rfl) s T (unhide HG).2.2.2.2.2.1
        · exact jdueD_any H2d hi hg ((unhide HG).2.2.1.tb t0 h0) a bb cc s T (unhide HG).2.2.2.2.2.1
      have HD := hide (fun x w3 (R : RoP kind T t0 w2.drew b cap cl i e x w3) => DuP.row (a := a) (s := s) (unhide HG).1 (unhide HG).2.1 (unhide HG).2.2.1 k789 hcv hi hn hf h0 hg (((unhide HO2).trans ((Only.refl (fun _ => False) w2).drew) (fun _ _ e => e))) R)
      have CR := hide CR
      rw [unhide HN] at c0 hil
      have hiI : (i : Int) < (n : Int) := by omega
      have h3 : n ≤ 3 := by rw [← unhide HN]; exact H2.cur.len
      clear H2 hr A2 hk hk9 k6 r0 k789 hi hn hf h0 hg hcv H2d
      go_upto_region 10 with fail
      go_region_with (go_at_call 107; refine (unhide CR).mono ?_; rintro x w3 ⟨e', rfl, h⟩; have HR := hide (unhide HD (.returned (.int .i64 (rowOp kind T t0).2)) w3 ⟨e', rfl, h⟩); clear h)
      all_goals
        go_wp2_with fail
        go_ret
        exact unhide HR
end
end Go.Proofs.Qxb6500413aGreat
