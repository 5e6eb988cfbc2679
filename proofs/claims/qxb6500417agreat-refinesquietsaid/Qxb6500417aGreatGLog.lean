/-
  OWN WORK. THE GRAPH: Log.
-/
import Derived.Test.Qxb6500417aGreatGUpP
namespace Go.Proofs.Qxb6500417aGreat
open Go.RowKit Go.PlainAid
set_option linter.unusedSimpArgs false
set_option linter.unusedVariables false

/-- What Log answers. -/
def logV (A : GA) (q : Int) : List Int × Nat := if hasN A q = true then (logA A q, 0) else ([], 17)
theorem logD_len (nodes : List Nd) (s : Nat → Bool) : ∀ i, (logD nodes s i).length ≤ i
  | 0 => by simp [logD]
  | i + 1 => by
    have := logD_len nodes s i
    unfold logD
    rw [List.length_append]
    split <;> simp <;> omega
section
variable {w : World} {g t s d : Nat} {D B : Nat → Nat} {recs : List Rec} {J : Nat → Sl} {rt : Nat} {F : Nat → Prop} {T : Gt} {S : GA}
set_option maxRecDepth 100000 in
set_option maxHeartbeats 4000000 in
theorem glog_any (h : GR w g t s d D B recs J rt F T S) (q : Int) :
    Calls Tryz.prog 111 #[.pointer (some ⟨g, 0, none⟩), .int .i64 q] w fun e w' => ∃ v, e = .returned (.tuple #[v, .int .i64 ((logV (absG J T) q).2 : Nat)]) ∧ II w v (logV (absG J T) q).1 w' := by
  have hgi := h.gi
  have hsqs : ∀ k, IsC T.c k → (T.c k).seq < 4611686018427387904 := fun k hk => by have := (hgi.tab.cs k hk).2; have := hgi.nx; omega
  have C1 := gfind_any h.gh hgi.ord hsqs q
  have hQ := hgi.has q
  obtain ⟨i0, hi0, hz0, hz1, hz2⟩ := info_parts Tryz.infoIntU
  have H0 := hide h
  have HI := hide hgi
  obtain ⟨fq, hfq⟩ : ∃ fq, fG T q = fq := ⟨_, rfl⟩
  have HRq := hide (fun h1 h2 => hgi.reach (q := q) h1 h2)
  rw [hfq] at C1 hQ HRq
  have C1 := hide C1
  clear h hgi hsqs hfq
  rcases hQ with ⟨rfl, hno⟩ | ⟨hCq, hsq, hyq⟩
  · have hV : logV (absG J T) q = ([], 17) := by unfold logV; rw [if_neg (by rw [hno]; simp)]
    rw [hV]
    clear hV hno
    go_enter Tryz.func111, Tryz.ntmps111
    go_wp2_with fail
    refine (unhide C1).mono ?_
    rintro e w1 ⟨rfl, hO1⟩
    have RR := hide ((II.nil w).quiet hO1)
    clear C1 hO1
    go_wp2_with fail
    go_ret2
    exact ⟨_, rfl, unhide RR⟩
  · have b2 : ((fq : Int) == 0) = false := ne_intO (by have := hCq.1.1; omega)
    have hV : logV (absG J T) q = (logA (absG J T) q, 0) := by unfold logV; rw [if_pos hyq]
    rw [hV]
    have Rq := hide (unhide HRq hCq hsq)
    have hq49 : fq < 49 := by have := hCq.1.2; omega
    clear hCq hsq hyq HRq hV
    go_enter Tryz.func111, Tryz.ntmps111
    go_wp2_with fail
    refine (unhide C1).mono ?_
    rintro e w2 ⟨rfl, hO2'⟩
    have hG2 := (unhide H0).gh.quiet hO2'
    obtain ⟨bq, hbq⟩ : ∃ b, (2 : Nat) ^ fq = b := ⟨_, rfl⟩
    have hbql : bq < 18446744073709551616 := by rw [← hbq]; exact pow64 _ (by omega)
    have C4 := hide (gbit_any fq (by omega) bq hbq.symm w2)
    have C6 := gup_any hG2 (unhide HI) bq hbql
    have hyl := (unhide HI).upN_lt T.n bq (Nat.le_refl _) hbql
    have RRq := unhide Rq
    rw [hbq] at RRq
    obtain ⟨Z, hZ⟩ : ∃ Y, upN T T.n bq = Y := ⟨_, rfl⟩
    rw [hZ] at C6 hyl RRq
    have hlog : logA (absG J T) q = logD (absG J T).nodes (reachA (absG J T) q) T.n := by unfold logA; rw [abs_len]
    obtain ⟨sn, hsn⟩ : ∃ sn, sn = reachA (absG J T) q := ⟨_, rfl⟩
    rw [← hsn] at RRq hlog
    have HcZ := hide RRq
    have Hlo := hide hlog
    have C6 := hide C6
    have HO2 := hide hO2'
    have HG2 := hide hG2
    have cn := hG2.n_.1
    have hn := (unhide HI).ord.n40
    have hgl := hG2.lt
    clear C1 hO2' hG2 hbq hZ RRq hlog Rq hsn
    go_wp2_with fail
    refine (unhide C4).mono ?_
    rintro e w3 ⟨rfl, rfl⟩
    clear C4
    go_wp2_with fail
    refine (unhide C6).mono ?_
    rintro e w3 ⟨rfl, rfl⟩
    clear C6
    go_wp2_with fail
    go_loopw [9, 10] (fun ov iv wr => ∃ (i : Nat) (pre : List Int), iv = .int .i64 ((i : Int) - 1) ∧ i ≤ T.n ∧ pre.length + i ≤ T.n ∧ pre ++ logD (absG J T).nodes sn i = logA (absG J T) q ∧ II w2 ov pre wr) (fun _ iv _ => (intOf iv + 1).toNat)
    case atStart => exact ⟨T.n, [], rfl, Nat.le_refl _, by simp, (unhide Hlo).symm, II.nil w2⟩
    case round =>
      clear Hlo
      obtain ⟨k, pre, rfl, hk, hpl, hr, hM⟩ := hrel
      have hGr := (unhide HG2).quiet hM.ho
      by_cases h0 : k = 0
      · subst h0
        have a1 : decide ((0 : Int) ≤ ((0 : Nat) : Int) - 1) = false := by simp
        have hr' : pre = logA (absG J T) q := by
          have e : logD (absG J T).nodes sn 0 = [] := rfl
          rw [e, List.append_nil] at hr; exact hr
        have HM := hide hM
        obtain ⟨oa, oc, rfl⟩ := ownsRow_shape hM.own
        have Hr := hide hr'
        clear hr hr' hM hGr
        go_wp2_with fail
        go_ret2
        refine ⟨_, rfl, ?_⟩
        rw [← unhide Hr]
        have q1 := unhide HM
        exact ⟨q1.own, fun y hy => by have := q1.hb y hy; have := (unhide HO2).size; omega, (unhide HO2).trans q1.ho (fun _ _ h => h)⟩
      · obtain ⟨i, rfl⟩ : ∃ i, k = i + 1 := ⟨k - 1, by omega⟩
        have e1 : (((i + 1 : Nat) : Int) - 1) = (i : Int) := by omega
        rw [e1]
        have a1 : decide ((0 : Int) ≤ (i : Int)) = true := by simp
        have a2 : (i : Int) < 48 := by omega
        have hC := (unhide HI).ord.oin i (by omega)
        have hcl : T.o i < 49 := by have := hC.1.2; omega
        have zo := (hGr.ord i (by omega)).1
        have zs : wr.cell? ⟨g, 1 + T.o i * 6 + 1, none⟩ = some (.int .i64 ((T.c (T.o i)).seq : Int)) := (hGr.com (T.o i) 1 hcl (by omega)).1
        have hcor := unhide HcZ i (by omega)
        obtain ⟨b, hb⟩ : ∃ b, (2 : Nat) ^ T.o i = b := ⟨_, rfl⟩
        have C7 := hide (gbit_any (T.o i) (by omega) b hb.symm wr)
        have hbl : b < 18446744073709551616 := by rw [← hb]; exact pow64 _ (by omega)
        obtain ⟨z, hz⟩ : ∃ z, Z &&& b = z := ⟨_, rfl⟩
        have e3 := bits_and_u64_nat Z b hyl hbl
        rw [hz] at e3
        have hap := and_pow Z (T.o i)
        rw [hb, hz, hcor] at hap
        have a3 : (T.o i : Int) < 49 := by omega
        have hba : logD (absG J T).nodes sn (i + 1) = (if sn i = true then [((T.c (T.o i)).seq : Int)] else []) ++ logD (absG J T).nodes sn i := by
          show (if sn i = true then [(Go.Proofs.Qxb6500417aGreat.seqAt (absG J T).nodes i : Int)] else []) ++ logD (absG J T).nodes sn i = _
          rw [seqAt_abs J T (by omega)]
        rw [hba] at hr
        have HM := hide hM
        have own2 : wr.ownsRow 0 3 1 _ _ _ := hM.own
        obtain ⟨oa, oc, rfl⟩ := ownsRow_shape hM.own
        clear hGr hC hb hz hcor hba e1 hM
        cases hsi : sn i with
        | true =>
          rw [hsi] at hap
          rw [hsi, if_pos rfl, ← List.append_assoc] at hr
          have hz0' : ((z : Int) == 0) = false := by
            have : ((z : Int) != 0) = true := hap
            simpa using this
          have Hr := hide hr
          clear hr hsi
          generalize (T.c (T.o i)).seq = sqi at *
          generalize T.o i = oi at *
          go_wp2_with fail
          refine (unhide C7).mono ?_
          rintro e w3 ⟨rfl, rfl⟩
          clear C7
          go_wp2_with (at_builtin; refine wpList_append2 _ rfl _ _ 91 rfl 3 i0 _ 1 8 Tryz.underlying91 hi0 hz0 hz1 hz2 rfl (by decide) _ _ _ rfl (own2.alloc _) ⟨wr.heap.size, 0, none⟩ 1 1 [.int .i64 (sqi : Int)] rfl rfl ?d1 ?d2 ?d3 ?d4 ?_)
          try (case d1 => exact news_ok _ _ _ _ rfl)
          case d2 => intro u hu; simp at hu; subst hu; rfl
          case d3 => unfold maxLen; omega
          case d4 => omega
          intro v7 w7 hown hgrow hwhere
          have h7 := (unhide HM).push2 hown rfl hgrow hwhere
          have H7 := hide h7
          clear hown hgrow hwhere own2 HM h7
          go_wp2_with fail
          go_roundw
          case rel => exact ⟨i, pre ++ [(sqi : Int)], by go_num, by omega, by simp; omega, unhide Hr, unhide H7⟩
          case measure => simp [intOf]
        | false =>
          rw [hsi] at hap
          rw [hsi, if_neg (by simp), List.nil_append] at hr
          have hz0' : z = 0 := by
            have : ((z : Int) != 0) = false := hap
            simp at this
            omega
          subst hz0'
          have e3' : bits BinOp.and IntKind.u64 (Z : Int) (b : Int) = 0 := e3
          have Hr := hide hr
          clear hr hsi e3 hap own2
          generalize T.o i = oi at *
          go_wp2_with fail
          refine (unhide C7).mono ?_
          rintro e w3 ⟨rfl, rfl⟩
          clear C7
          go_wp2_with fail
          go_roundw
          case rel => exact ⟨i, pre, by go_num, by omega, by omega, unhide Hr, unhide HM⟩
          case measure => simp [intOf]
end
end Go.Proofs.Qxb6500417aGreat
