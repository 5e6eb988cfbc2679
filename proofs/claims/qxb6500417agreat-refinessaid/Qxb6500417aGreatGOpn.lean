/-
  OWN WORK. THE GRAPH: format, Open, New.
-/
import Derived.Test.Qxb6500417aGreatGAb
namespace Go.Proofs.Qxb6500417aGreat
open Go.RowKit Go.PlainAid
set_option linter.unusedSimpArgs false
set_option linter.unusedVariables false

def Gt.zero : Gt := ⟨fun _ => Cr.zero, fun _ => 0, 0, fun _ => Br.zero, 0, ⟨#[]⟩, 0, 0, 0, 0⟩
theorem graph_zero : Tryz.zeroCells89 = tabV 358 (fun off => if off = 0 then .pointer none else gcell 0 Gt.zero off) := by kernel_rfl
theorem graph_new (t : Nat) : Tryz.zeroCells89.setIfInBounds 0 (.pointer (some ⟨t, 0, none⟩)) = tabV 358 (gcell t Gt.zero) := by
  rw [graph_zero, tabV_set]
  apply tabV_congr
  intro j hj
  by_cases h0 : j = 0
  · rw [if_pos h0, h0]; rfl
  · rw [if_neg h0, if_neg h0]
    unfold gcell
    rw [if_neg h0, if_neg h0]
/-- What the making of the layer leaves. -/
structure OpG (w w' : World) (g t s d : Nat) (D B : Nat → Nat) (recs : List Rec) (J J' : Nat → Sl) (rt rt' : Nat) (F : Nat → Prop) (T : Gt) (S : GA) (R : List Rec) (F' : Nat → Prop) : Prop where
  went : Went w w' g t s d D B recs J J' rt rt' F R F'
  gr : GR w' g t s d (replayB D R) B (recs ++ R) J' rt' F' T S
  abs : absG J' T = S
section
variable {w : World} {g t s d : Nat} {D B : Nat → Nat} {recs : List Rec} {J : Nat → Sl} {rt : Nat} {F : Nat → Prop} {T : Gt} {S : GA}
set_option maxRecDepth 100000 in
set_option maxHeartbeats 2000000 in
theorem gformat_any (h : TS w t s d D B recs J rt F) (hG : GH w g t T) (hA : Apart g t s F) (hb : Blank J) (hrl : recs.length ≤ 700) :
    Calls Tryz.prog 60 #[.pointer (some ⟨g, 0, none⟩)] w fun e w' => e = .returned (.tuple #[]) ∧ ∃ R F', OpG w w' g t s d D B recs J (comJ (fmJ2 J)) rt 2 F fmT GA.fresh R F' ∧ 1 ≤ R.length := by
  have C1 := hide (gclear_any hG)
  have H0 := hide h
  have HA := hide hA
  have Hb := hide hb
  have hgl := hG.lt
  obtain ⟨t1, t2, t3⟩ := h.ts_lt
  have T3 := hide t3
  have hfr := frJ_blank hb
  clear h hG hA hb t3
  go_enter Tryz.func60, Tryz.ntmps60
  go_wp2_with fail
  refine (unhide C1).mono ?_
  rintro e w1 ⟨rfl, hG1, hO1⟩
  have hT1 := (unhide H0).keepG (unhide HA) hO1
  have C2 := twrite_any hT1 (.slice none 0 0) [] ⟨_, _, rfl, fun h => absurd h (by simp)⟩ (fun y hy => by simp [Value.ownBlock] at hy) (by omega) (by simp)
  rw [wr_blank (unhide Hb)] at C2
  have C2 := hide C2
  have c1 := hG1.tr.1
  have HG1 := hide hG1
  have HO1 := hide hO1
  have hs1 := hO1.size
  clear C1 hG1 hO1 hT1
  go_wp2_with fail
  refine (unhide C2).mono ?_
  rintro e w2 ⟨rfl, n2, F2, hW2⟩
  have hG2 := (unhide HG1).keep hW2.only (fun e => by
    rcases e with e | e | e
    · exact (unhide HA).nt e
    · exact (unhide HA).ns e
    · exact (unhide HA).nF e)
  have hs2 := hW2.only.size
  have z := hG2.aux_
  have hG3 := hG2.putAux 1
  have hO3 : Only (fun y => y = g) w2 (w2.setCell ⟨g, 356, none⟩ (.int .i64 1)) := (Only.refl (fun y => y = g) w2).setCell (fun _ => rfl) _
  have hR : RefW fmT := (fm_gi (unhide Hb)).1.refW
  have hG3' : GH (w2.setCell ⟨g, 356, none⟩ (.int .i64 1)) g t fmT := hG3
  have C3 := hide (refsBytes_any hG3' hR)
  have HW2 := hide hW2
  have HG3 := hide hG3'
  have HO3 := hide hO3
  have HR := hide hR
  clear C2 hW2 hG2 hG3 hO3 hR hG3'
  go_wp2_with fail
  refine (unhide C3).mono ?_
  rintro e w4 ⟨v4, rfl, hU4⟩
  have hap2 := ((unhide HW2).went (g := g)).apart (unhide HA) (by omega)
  have hT3 := (unhide HW2).ts.keepG hap2 (unhide HO3)
  have hT4 := hT3.quiet hU4.ho
  obtain ⟨q1, q2, q3⟩ := hT3.ts_lt
  have hln := (unhide HR).len
  have hpot := (unhide HW2).pot
  have C4 := tput_any hT4 4 (by omega) (by omega) (by omega) (rdat fmT) v4 hU4.own.at_ (by omega) (dF_lt (unhide HR).lt) (fun y hy => by
    have := hU4.hb y hy
    exact ⟨fun hf => by have := q3 y hf; omega, by omega⟩) (by rw [List.length_append]; omega)
  rw [put_blank (unhide Hb)] at C4
  have C4 := hide C4
  have hG4 := (unhide HG3).quiet hU4.ho
  have c4 := hG4.tr.1
  have HG4 := hide hG4
  have HU4 := hide hU4
  obtain ⟨va, vc, rfl⟩ := ownsRow_shape hU4.own
  clear C3 hU4 hT3 hT4 hG4 q3
  go_wp2_with fail
  refine (unhide C4).mono ?_
  rintro e w5 ⟨rfl, n5, F5, hW5⟩
  have hG5 := (unhide HG4).keep hW5.only (fun e => by
    rcases e with e | e | e
    · exact hap2.nt e
    · exact hap2.ns e
    · exact hap2.nF e)
  have c5 := hG5.tr.1
  have hpot5 := hW5.pot
  have hfj := frJ_le J
  have hlv : liveS (fmJ2 J 2) = true := by have : fmJ2 J 2 = ⟨1, 4, rdat fmT, [], []⟩ := updT_same _ _ _; rw [this]; rfl
  have C5 := hide (tcommit_in hW5.ts 2 (.inr ⟨⟨by omega, by omega⟩, hlv⟩) (by rw [List.length_append, List.length_append]; omega))
  have HW5 := hide hW5
  have HG5 := hide hG5
  clear C4 hW5 hG5 hlv
  go_wp2_with fail
  refine (unhide C5).mono ?_
  rintro e w6 ⟨rfl, sup, hT6, hO6⟩
  have hO6' : Only (fun y => y = t ∨ y = s ∨ F5 y) w5 w6 := hO6.mono (fun y _ e => .inr e)
  have RR : Hid (∃ R F', OpG w w6 g t s d D B recs J (comJ (fmJ2 J)) rt 2 F fmT GA.fresh R F' ∧ 1 ≤ R.length) := hide (by
    have hs4 := (unhide HU4).ho.size
    have hs3 := (unhide HO3).size
    have hs5 := (unhide HW5).only.size
    have hs6 := hO6.size
    -- the writes in all
    have hWent5 := (unhide HW5).commit (g := g) hT6 (fun y hy => by
      rcases hy with hy | hy
      · exact .inl hy
      · exact .inr hy.1) hO6'
    have hsame : JEq (abortJ (fmJ1 J)) (abortJ J) := (unhide HW2).same
    refine ⟨n2 ++ (n5 ++ [(0, sup)]), Ext F5 w5 w6, ⟨⟨?_, fun kk hk => ?_, fun r hr => ?_, ?_, fun y hy => ?_, ?_⟩, ?_, ?_⟩, by simp; omega⟩
    · have := hWent5.ts
      rw [List.append_assoc] at this
      rw [replayB_append]
      exact this
    · by_cases hle : kk ≤ n2.length
      · rw [List.take_append_of_le_length hle]
        exact (unhide HW2).cuts kk
      · have e : (n2 ++ (n5 ++ [(0, sup)])).take kk = n2 ++ (n5 ++ [(0, sup)]).take (kk - n2.length) := by
          rw [List.take_append, List.take_of_length_le (by omega)]
        rw [e, replayB_append]
        rw [List.length_append] at hk
        exact (hWent5.cuts (kk - n2.length) (by omega)).congr hsame
    · rcases List.mem_append.1 hr with e | e
      · exact (unhide HW2).keys r e
      · exact hWent5.keys r e
    · have h1 := hWent5.len
      rw [List.length_append]
      omega
    · rcases hWent5.ext y hy with e | e
      · rcases (unhide HW2).ext y e with e | e
        · exact .inl e
        · exact .inr (by omega)
      · exact .inr (by omega)
    · have o1 : Only (fun y => y = g ∨ y = t ∨ y = s ∨ F y) w w1 := (unhide HO1).mono (fun y _ e => .inl e)
      have o2 : Only (fun y => y = g ∨ y = t ∨ y = s ∨ F y) w1 w2 := (unhide HW2).only.mono (fun y _ e => .inr e)
      have o3 : Only (fun y => y = g ∨ y = t ∨ y = s ∨ F y) w2 _ := (unhide HO3).mono (fun y _ e => .inl e)
      have o4 := (unhide HU4).ho.mono (T := fun y => y = g ∨ y = t ∨ y = s ∨ F y) (fun y _ e => e.elim)
      refine (((o1.trans o2 (fun _ _ h => h)).trans o3 (fun _ _ h => h)).trans o4 (fun _ _ h => h)).trans hWent5.only (fun y hy e => ?_)
      rcases e with e | e | e | e
      · exact .inl e
      · exact .inr (.inl e)
      · exact .inr (.inr (.inl e))
      · rcases (unhide HW2).ext y e with e | e
        · exact .inr (.inr (.inr e))
        · omega
    · have hap5 := hWent5.apart hap2 (by omega)
      refine ⟨?_, (unhide HG5).keep hO6' (fun e => ?_), hap5, (fm_gi (unhide Hb)).1.com.1, ?_⟩
      · have := hWent5.ts
        rw [List.append_assoc] at this
        rw [replayB_append]
        exact this
      · rcases e with e | e | e
        · exact hap5.nt e
        · exact hap5.ns e
        · exact hap5.nF (.inl e)
      · have e2 : fmJ2 J 2 = ⟨1, 4, rdat fmT, [], []⟩ := updT_same _ _ _
        have := (fm_gi (unhide Hb)).1.saveOld (by rw [e2])
        rw [(fm_gi (unhide Hb)).2] at this
        exact this
    · rw [(fm_gi (unhide Hb)).1.com.2, (fm_gi (unhide Hb)).2])
  clear C5 hT6 hO6 hO6'
  go_wp2_with fail
  go_end0
  exact ⟨rfl, unhide RR⟩
/-- What Open finds. -/
inductive Fnd (J : Nat → Sl) (rt : Nat) (S : GA) : Prop where
  | blank (hb : Blank J) (h0 : rt = 0) (hS : S = GA.fresh)
  | used (T0 : Gt) (hI : GI J rt T0) (hr : (J rt).dat = rdat T0) (hS : absG J T0 = S) (h0 : rt ≠ 0) (hd : ∀ i, In i → (J i).st = 0 ∨ (J i).st = 2)
theorem idle_abort {J : Nat → Sl} (hd : ∀ i, In i → (J i).st = 0 ∨ (J i).st = 2) : JEq (abortJ J) J := fun i hi => by
  unfold abortJ abortS
  rcases hd i hi with e | e
  · rw [if_neg (by omega), if_neg (by omega)]
  · rw [if_neg (by omega), if_neg (by omega)]
set_option maxRecDepth 100000 in
set_option maxHeartbeats 2000000 in
theorem gopen_any (h : TS w t s d D B recs J rt F) (hF : Fnd J rt S) (hrl : recs.length ≤ 700) :
    Calls Tryz.prog 29 #[.pointer (some ⟨t, 0, none⟩)] w fun e w' => ∃ g, e = .returned (.pointer (some ⟨g, 0, none⟩)) ∧ w.heap.size ≤ g ∧ ∃ T R F' J' rt', OpG w w' g t s d D B recs J J' rt rt' F T S R F' ∧ ((rt = 0 ∧ 1 ≤ R.length ∧ rt' = 2 ∧ frJ J' = 46) ∨ (rt ≠ 0 ∧ R = [] ∧ J' = J ∧ rt' = rt)) := by
  obtain ⟨t1, t2, t3⟩ := h.ts_lt
  obtain ⟨g, hg⟩ : ∃ g, g = w.heap.size := ⟨_, rfl⟩
  have hG0 : GH (w.alloc (.cells (Tryz.zeroCells89.setIfInBounds 0 (.pointer (some ⟨t, 0, none⟩))) 89)) g t Gt.zero := by
    have := Has.new' w (Tryz.zeroCells89.setIfInBounds 0 (.pointer (some ⟨t, 0, none⟩))) 89 g hg
    unfold GH
    rw [← graph_new]
    exact this
  have o0 : Only (fun _ => False) w (w.alloc (.cells (Tryz.zeroCells89.setIfInBounds 0 (.pointer (some ⟨t, 0, none⟩))) 89)) := (Only.refl _ w).alloc _
  have hap : Apart g t s F := ⟨by omega, by omega, fun e => by have := t3 g e; omega⟩
  have C1 := hide (troot_any (h.quiet o0))
  have HG0 := hide hG0
  have H0 := hide h
  have O0 := hide o0
  have Ht := hide hg
  have hle : w.heap.size ≤ g := by omega
  have post : ∀ (w1 : World) (R : List Rec) (F' : Nat → Prop) (J' : Nat → Sl) (rt' : Nat) (T : Gt), OpG (w.alloc (.cells (Tryz.zeroCells89.setIfInBounds 0 (.pointer (some ⟨t, 0, none⟩))) 89)) w1 g t s d D B recs J J' rt rt' F T S R F' → OpG w w1 g t s d D B recs J J' rt rt' F T S R F' := fun w1 R F' J' rt' T hx => by
    have hs := o0.size
    refine ⟨⟨hx.went.ts, hx.went.cuts, hx.went.keys, hx.went.len, fun y hy => ?_, (o0.mono (T := fun y => y = g ∨ y = t ∨ y = s ∨ F y) (fun _ _ h => h.elim)).trans hx.went.only (fun _ _ h => h)⟩, hx.gr, hx.abs⟩
    rcases hx.went.ext y hy with e | e
    · exact .inl e
    · exact .inr (by omega)
  have Post := hide post
  cases hF with
  | blank hb h0 hS =>
    subst h0 hS
    have C2 := hide (gformat_any (h.quiet o0) hG0 hap hb hrl)
    have Hb := hide hb
    clear h hG0 o0 hg t3 post
    go_enter Tryz.func29, Tryz.ntmps29
    go_wp2_with fail
    rw [← unhide Ht]
    clear Ht
    generalize w.alloc (.cells (Tryz.zeroCells89.setIfInBounds 0 (.pointer (some ⟨t, 0, none⟩))) 89) = W0 at *
    refine (unhide C1).mono ?_
    rintro e w1 ⟨rfl, rfl⟩
    clear C1
    go_wp2_with fail
    refine (unhide C2).mono ?_
    rintro e w2 ⟨rfl, R, F', hx, hR⟩
    have RR := hide (unhide Post _ _ _ _ _ _ hx)
    clear C2 hx
    go_wp2_with fail
    go_ret
    exact ⟨g, rfl, hle, fmT, R, F', _, 2, unhide RR, .inl ⟨by first | exact rfl | trivial, hR, rfl, fm_free (unhide Hb)⟩⟩
  | used T0 hI hr hS h0 hd =>
    have C2 := hide (gload_any (h.quiet o0) hG0 hap T0 hI hr)
    have hsv : SavI J rt S := by
      have he := idle_abort hd
      obtain ⟨a, b⟩ := hI.congr he.symm hI.inv.abort
      exact ⟨T0, a, by rw [he rt hI.rut.rin]; exact hr, b.trans hS⟩
    have b1 : ((rt : Int) == 0) = false := ne_intO (by omega)
    have HT := hide (h.quiet o0)
    have Hx := hide (And.intro hI (And.intro hsv hS))
    clear h hG0 o0 hg t3 post hI hr hS hd hsv
    go_enter Tryz.func29, Tryz.ntmps29
    go_wp2_with fail
    rw [← unhide Ht]
    clear Ht
    generalize w.alloc (.cells (Tryz.zeroCells89.setIfInBounds 0 (.pointer (some ⟨t, 0, none⟩))) 89) = W0 at *
    refine (unhide C1).mono ?_
    rintro e w1 ⟨rfl, rfl⟩
    clear C1
    go_wp2_with fail
    refine (unhide C2).mono ?_
    rintro e w2 ⟨rfl, hG2, hO2⟩
    have hT2 := (unhide HT).keepG hap hO2
    have RR := hide (unhide Post _ _ _ _ _ _ ⟨Went.none (unhide HT) hT2 (hO2.mono (fun y _ e => .inl e)), ⟨by simpa [replayB] using hT2, hG2, hap, (unhide Hx).1, (unhide Hx).2.1⟩, (unhide Hx).2.2⟩)
    clear C2 hG2 hO2 hT2
    go_wp2_with fail
    go_ret
    exact ⟨g, rfl, hle, T0, [], F, J, rt, unhide RR, .inr ⟨h0, rfl, rfl, rfl⟩⟩
set_option maxRecDepth 100000 in
theorem gnew_any (h : TS w t s d D B recs J rt F) (hF : Fnd J rt S) (hrl : recs.length ≤ 700) :
    Calls Tryz.prog 10 #[.pointer (some ⟨t, 0, none⟩)] w fun e w' => ∃ g, e = .returned (.pointer (some ⟨g, 0, none⟩)) ∧ w.heap.size ≤ g ∧ ∃ T R F' J' rt', OpG w w' g t s d D B recs J J' rt rt' F T S R F' ∧ ((rt = 0 ∧ 1 ≤ R.length ∧ rt' = 2 ∧ frJ J' = 46) ∨ (rt ≠ 0 ∧ R = [] ∧ J' = J ∧ rt' = rt)) := by
  have C := hide (gopen_any h hF hrl)
  clear h hF
  go_enter Tryz.func10, Tryz.ntmps10
  go_wp2_with fail
  refine (unhide C).mono ?_
  rintro e w1 ⟨g, rfl, hx⟩
  have HX := hide hx
  clear hx C
  go_wp2_with fail
  go_ret
  exact ⟨g, rfl, unhide HX⟩
end
end Go.Proofs.Qxb6500417aGreat
