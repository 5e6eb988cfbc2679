/-
  OWN WORK. THE GRAPH: Commit.
-/
import Derived.Test.Qxb6500417aGreatGP5
import Derived.Test.Qxb6500417aGreatGSto
import Derived.Test.Qxb6500417aGreatGAb
import Derived.Test.Qxb6500417aGreatGMbr
namespace Go.Proofs.Qxb6500417aGreat
open Go.RowKit Go.PlainAid
set_option linter.unusedSimpArgs false
set_option linter.unusedVariables false

/-- What Commit leaves. -/
structure CmP (w w' : World) (g t s d : Nat) (D B : Nat → Nat) (recs : List Rec) (J : Nat → Sl) (rt : Nat) (F : Nat → Prop) (T : Gt) (S : GA) (l : List Fl) (ps : List Int) (msg : ByteArray) (seq e : Nat) : Prop where
  ex : ∃ J' T' R F', Went w w' g t s d D B recs J J' rt rt F R F' ∧ GR w' g t s d (replayB D R) B (recs ++ R) J' rt F' T' S ∧ JEq (abortJ J') (abortJ J) ∧
    ((comE (absG J T) l ps msg ≠ 0 ∧ e = comE (absG J T) l ps msg ∧ seq = 0 ∧ J' = J ∧ T' = T) ∨
     (comE (absG J T) l ps msg = 0 ∧ e = 5 ∧ seq = 0 ∧ absG J' T' = absG J T ∧ frJ J ≤ frJ J' + (costF l + 1) ∧ frJ J < costF l + 1) ∨
     (comE (absG J T) l ps msg = 0 ∧ e = 0 ∧ seq = T.nx ∧ absG J' T' = (absG J T).addN ⟨T.nx, l, ps.map Int.toNat, msg⟩ ∧ frJ J ≤ frJ J' + (costF l + 1)))
section
variable {w w' : World} {g t s d : Nat} {D B : Nat → Nat} {recs : List Rec} {J : Nat → Sl} {rt : Nat} {F : Nat → Prop} {T : Gt} {S : GA} {l : List Fl} {ps : List Int} {msg : ByteArray}
theorem CmP.early (h : GR w g t s d D B recs J rt F T S) (ho : Only (fun _ => False) w w') {e : Nat} (he : comE (absG J T) l ps msg = e) (h0 : e ≠ 0) : CmP w w' g t s d D B recs J rt F T S l ps msg 0 e :=
  ⟨J, T, [], F, Went.none h.ts (h.ts.quiet ho) (ho.mono (fun _ _ h => h.elim)), by simpa [replayB] using h.quiet ho, JEq.refl _, .inl ⟨by rw [he]; exact h0, he.symm, rfl, rfl, rfl⟩⟩
theorem checkF_parts {l : List Fl} (h : checkF l = 0) : l.length ≤ 8 ∧ ∀ f ∈ l, f.data.size ≤ 180 := by
  unfold checkF at h
  by_cases h8 : 8 < l.length
  · rw [if_pos h8] at h; cases h
  · rw [if_neg h8] at h
    refine ⟨by omega, ?_⟩
    have key : ∀ (l : List Fl) (prev : List ByteArray), chkF l prev = 0 → ∀ f ∈ l, f.data.size ≤ 180 := fun l => by
      induction l with
      | nil => intro _ _ f hf; simp at hf
      | cons x r ih =>
        intro prev hc f hf
        unfold chkF at hc
        by_cases h0 : rowErr x.path x.mode x.data.size prev = 0
        · rw [if_pos h0] at hc
          rcases List.mem_cons.1 hf with rfl | hf
          · unfold rowErr at h0
            by_cases h1 : goodB (ls f.path) = false
            · rw [if_pos h1] at h0; cases h0
            · rw [if_neg h1] at h0
              by_cases h2 : f.mode < 0 ∨ 3 < f.mode
              · rw [if_pos h2] at h0; cases h0
              · rw [if_neg h2] at h0
                by_cases h3 : 180 < f.data.size
                · rw [if_pos h3] at h0; cases h0
                · omega
          · exact ih _ hc f hf
        · rw [if_neg h0] at hc; exact absurd hc h0
    exact key l [] h
/-- A row being made: parents below i are set. -/
def rowP (nx np i : Nat) (q : Nat → Nat) : Cr := ⟨true, nx, 0, np, if 0 < i then q 0 else 0, if 1 < i then q 1 else 0⟩
theorem rowP_set (nx np i : Nat) (q : Nat → Nat) (hi : i < 2) : (crA (rowP nx np i q)).setIfInBounds (4 + i) (.int .i64 (q i : Int)) = crA (rowP nx np (i + 1) q) := by
  have h2 : i = 0 ∨ i = 1 := by omega
  rcases h2 with rfl | rfl
  · rfl
  · rfl
theorem rowP_pars (nx np : Nat) (q : Nat → Nat) (hn : np ≤ 2) : (rowP nx np np q).pars = (List.range np).map q := by
  have h3 : np = 0 ∨ np = 1 ∨ np = 2 := by omega
  rcases h3 with rfl | rfl | rfl
  · rfl
  · rfl
  · rfl
theorem IntsIn.cells {w : World} {v : Value} {l : List Int} (h : IntsIn w v l) (hn : 0 < l.length) : ∃ g c, v = .slice (some ⟨g, 0, none⟩) l.length c ∧ ∀ i (h : i < l.length), w.cell? ⟨g, i, none⟩ = some (.int .i64 l[i]) := by
  obtain ⟨a, c, rfl, h2⟩ := h
  obtain ⟨g, rfl, hc⟩ := h2 hn
  exact ⟨g, c, rfl, hc⟩
set_option maxRecDepth 100000 in
set_option maxHeartbeats 8000000 in
theorem gcommit_any (h : GR w g t s d D B recs J rt F T S) (vf : Value) (hvf : FilesIn w vf l) (hvF : ∀ y, vf.ownBlock = some y → y ≠ t ∧ y ≠ s ∧ ¬ F y ∧ y ≠ g) (vp : Value) (hvp : IntsIn w vp ps) (hpot : recs.length ≤ 600) (hnx : T.nx < 4611686018427387000) :
    Calls Tryz.prog 93 #[.pointer (some ⟨g, 0, none⟩), vf, vp, .string msg] w fun e w' => ∃ seq en : Nat, e = .returned (.tuple #[.int .i64 seq, .int .i64 en]) ∧ CmP w w' g t s d D B recs J rt F T S l ps msg seq en := by
  have C1 := hide (checkFiles_any vf l hvf)
  have H0 := hide h
  have Hvf := hide hvf
  have HvF := hide hvF
  have Hvp := hide hvp
  have hgl := h.gh.lt
  obtain ⟨va, vc, rfl, _⟩ := id hvf
  obtain ⟨pa, pc, rfl, _⟩ := id hvp
  have hfj := frJ_le J
  clear h hvf hvF hvp
  go_enter Tryz.func93, Tryz.ntmps93
  go_wp2_with fail
  refine (unhide C1).mono ?_
  rintro e w1 ⟨rfl, hO1⟩
  have HO1 := hide hO1
  clear C1 hO1
  by_cases hcf : checkF l = 0
  · rw [hcf]
    by_cases hp3 : 2 < ps.length
    · have a1 : decide ((2 : Int) < (ps.length : Int)) = true := decide_eq_true (by omega)
      have a1n : decide (2 < ps.length) = true := decide_eq_true hp3
      have RR := hide (CmP.early (unhide H0) (unhide HO1) (l := l) (ps := ps) (msg := msg) (e := 18) (by unfold comE; rw [if_neg (by simpa using hcf), if_pos hp3]) (by omega))
      go_wp2_with fail
      go_ret2
      exact ⟨0, 18, rfl, unhide RR⟩
    · have a1 : decide ((2 : Int) < (ps.length : Int)) = false := decide_eq_false (by omega)
      have a1n : decide (2 < ps.length) = false := decide_eq_false hp3
      have hI1 := (unhide Hvp).keep (unhide HO1) (fun _ _ h => h)
      by_cases hp2 : ps.length = 2 ∧ ps.getD 0 0 = ps.getD 1 0
      · obtain ⟨gp, cp, hvv, hcp⟩ := hI1.cells (by omega)
        obtain ⟨rfl, _, rfl⟩ : pa = some ⟨gp, 0, none⟩ ∧ True ∧ pc = cp := by simpa using hvv
        have c0 := hcp 0 (by omega)
        have c1 := hcp 1 (by omega)
        have e0 : ps[0]'(by omega) = ps.getD 0 0 := by rw [List.getD_eq_getElem?_getD, List.getElem?_eq_getElem (by omega)]; rfl
        have e1 : ps[1]'(by omega) = ps.getD 1 0 := by rw [List.getD_eq_getElem?_getD, List.getElem?_eq_getElem (by omega)]; rfl
        rw [e0] at c0
        rw [e1, ← hp2.2] at c1
        have a2 : (((ps.length : Nat) : Int) == 2) = true := by rw [hp2.1]; rfl
        have RR := hide (fun (wx : World) (hx : Only (fun _ => False) w1 wx) => CmP.early (unhide H0) ((unhide HO1).trans hx (fun _ _ h => h)) (l := l) (ps := ps) (msg := msg) (e := 18) (by unfold comE; rw [if_neg (by simpa using hcf), if_neg hp3, if_pos hp2]) (by omega))
        have a3 : (0 : Int) < (ps.length : Int) := by omega
        have a4 : (1 : Int) < (ps.length : Int) := by omega
        have a5 : (ps.getD 0 0 == ps.getD 0 0) = true := by simp
        clear hvv hcp e0 e1 hI1
        generalize ps.getD 0 0 = p0 at *
        go_upto_region 6 with fail
        go_quiet (fail)
        have RR2 := hide (unhide RR _ ((Only.refl _ w1).drewO nq))
        clear RR
        generalize hW : w1.drewN nq = W at *
        clear hW c0 c1
        go_wp2_with fail
        go_ret2
        exact ⟨0, 18, rfl, unhide RR2⟩
      · have hpl2 : ps.length ≤ 2 := by omega
        go_upto_region 6 with fail
        go_cut [36] (fun v wx => v = .bool false ∧ Only (fun _ => False) w1 wx)
        case first =>
          by_cases hl2 : ps.length = 2
          · obtain ⟨gp, cp, hvv, hcp⟩ := hI1.cells (by omega)
            obtain ⟨rfl, _, rfl⟩ : pa = some ⟨gp, 0, none⟩ ∧ True ∧ pc = cp := by simpa using hvv
            have c0 := hcp 0 (by omega)
            have c1 := hcp 1 (by omega)
            have e0 : ps[0]'(by omega) = ps.getD 0 0 := by rw [List.getD_eq_getElem?_getD, List.getElem?_eq_getElem (by omega)]; rfl
            have e1 : ps[1]'(by omega) = ps.getD 1 0 := by rw [List.getD_eq_getElem?_getD, List.getElem?_eq_getElem (by omega)]; rfl
            rw [e0] at c0
            rw [e1] at c1
            have a2 : (((ps.length : Nat) : Int) == 2) = true := by rw [hl2]; rfl
            have a3 : (0 : Int) < (ps.length : Int) := by omega
            have a4 : (1 : Int) < (ps.length : Int) := by omega
            have a5 : (ps.getD 0 0 == ps.getD 1 0) = false := by
              have : ps.getD 0 0 ≠ ps.getD 1 0 := fun e => hp2 ⟨hl2, e⟩
              simpa using this
            clear hvv hcp e0 e1 hI1
            generalize ps.getD 0 0 = p0 at *
            generalize ps.getD 1 0 = p1 at *
            go_quiet (fail)
            go_wp2_with fail
            go_meet
            exact ⟨by first | rfl | simp, (Only.refl _ w1).drewO nq⟩
          · have a2 : (((ps.length : Nat) : Int) == 2) = false := ne_intO (by omega)
            clear hI1
            go_quiet (fail)
            go_wp2_with fail
            go_meet
            exact ⟨by first | rfl | simp, (Only.refl _ w1).drewO nq⟩
        case rest =>
        obtain ⟨rfl, hOx⟩ := hcut
        rename World => W0
        have hO2 := (unhide HO1).trans hOx (fun _ _ h => h)
        have cnx := ((unhide H0).gh.quiet hO2).nx_.1
        have HO2 := hide hO2
        clear hOx hI1 hO2 HO1
        have hnx2 : T.nx < 9223372036854775807 := by omega
        have HK0 := hide (Has.new W0 (crA (rowP T.nx ps.length 0 (fun k => fG T (ps.getD k 0)))) 82)
        have hOA := (Only.refl (fun _ => False) W0).alloc (.cells (crA (rowP T.nx ps.length 0 (fun k => fG T (ps.getD k 0)))) 82)
        have HOA := hide ((unhide HO2).trans hOA (fun _ _ h => h))
        have hrw : crA (rowP T.nx ps.length 0 (fun k => fG T (ps.getD k 0))) = #[.bool true, .int .i64 (T.nx : Int), .int .i64 0, .int .i64 (ps.length : Int), .int .i64 0, .int .i64 0] := rfl
        rw [hrw] at HK0 HOA
        have Hrw := hide hrw
        have hws := (unhide HO2).size
        clear hrw hOA
        go_wp2_with fail
        generalize hW1 : W0.alloc (.cells #[.bool true, .int .i64 (T.nx : Int), .int .i64 0, .int .i64 (ps.length : Int), .int .i64 0, .int .i64 0] 82) = W1 at *
        clear hW1 cnx
        go_loopw [12] (fun iv wr => ∃ i : Nat, iv = .int .i64 i ∧ i ≤ ps.length ∧ (∀ k, k < i → fG T (ps.getD k 0) ≠ 0) ∧ Has wr W0.heap.size (crA (rowP T.nx ps.length i (fun k => fG T (ps.getD k 0)))) 82 ∧ Only (fun _ => False) w wr) (fun iv _ => ps.length - (intOf iv).toNat)
        case atStart => exact ⟨0, rfl, by omega, fun k hk => by omega, by rw [unhide Hrw]; exact unhide HK0, unhide HOA⟩
        case round =>
          clear HK0 HOA Hrw
          obtain ⟨i, rfl, hi, hfz, hK, hO⟩ := hrel
          by_cases hil : i < ps.length
          · have b1 : decide ((i : Int) < (ps.length : Int)) = true := decide_eq_true (by omega)
            have b1n : decide (i < ps.length) = true := decide_eq_true hil
            have b2 : (i : Int) < (ps.length : Int) := by omega
            have b3 : (i : Int) < 2 := by omega
            obtain ⟨gp, cp, hvv, hcp⟩ := ((unhide Hvp).keep hO (fun _ _ h => h)).cells (by omega)
            obtain ⟨rfl, _, rfl⟩ : pa = some ⟨gp, 0, none⟩ ∧ True ∧ pc = cp := by simpa using hvv
            have ci := hcp i hil
            have ei : ps[i] = ps.getD i 0 := by rw [List.getD_eq_getElem?_getD, List.getElem?_eq_getElem hil]; rfl
            rw [ei] at ci
            obtain ⟨pi, hpi⟩ : ∃ pi, ps.getD i 0 = pi := ⟨_, rfl⟩
            rw [hpi] at ci
            have hG := (unhide H0).gh.quiet hO
            have hgi := (unhide H0).gi
            have C2 := (gfind_any hG hgi.ord (fun k hk => by have := (hgi.tab.cs k hk).2; have := hgi.nx; omega) pi)
            have hhas := hgi.has pi
            have HK := hide hK
            have HO := hide hO
            have Hfz := hide hfz
            clear hvv hcp ei hG hgi hK hO hfz
            obtain ⟨fi, hfi⟩ : ∃ fi, fG T pi = fi := ⟨_, rfl⟩
            rw [hfi] at C2 hhas
            have C2 := hide C2
            have Hfi : Hid (fG T (ps.getD i 0) = fi) := hide (by rw [hpi]; exact hfi)
            have Hpi := hide hpi
            clear hfi hpi
            rcases hhas with ⟨rfl, hno⟩ | ⟨hC, hsq, hyes⟩
            · go_wp2_with fail
              refine (unhide C2).mono ?_
              rintro e w3 ⟨rfl, hO3⟩
              have RR := hide (CmP.early (unhide H0) ((unhide HO).trans hO3 (fun _ _ h => h)) (l := l) (ps := ps) (msg := msg) (e := 17) (by
                unfold comE
                rw [if_neg (by simpa using hcf), if_neg hp3, if_neg hp2, if_pos]
                cases hh : ps.all (hasN (absG J T)) with
                | false => rfl
                | true =>
                  rw [List.all_eq_true] at hh
                  have e2 : ps.getD i 0 ∈ ps := by rw [List.getD_eq_getElem?_getD, List.getElem?_eq_getElem hil]; exact List.getElem_mem hil
                  have := hh _ e2
                  rw [unhide Hpi, hno] at this; cases this) (by omega))
              clear C2 hO3
              go_wp2_with fail
              go_ret2
              exact ⟨0, 17, rfl, unhide RR⟩
            · have hf0 : fi ≠ 0 := by have := hC.1.1; omega
              have b4 : ((fi : Int) == 0) = false := ne_intO (by omega)
              go_wp2_with fail
              refine (unhide C2).mono ?_
              rintro e w3 ⟨rfl, hO3⟩
              have hK3 := (unhide HK).keep hO3 (fun h => h)
              have zf := hK3.free (4 + i)
              have zc := hK3.cell (4 + i)
              obtain ⟨u0, hu0⟩ : ∃ u, (crA (rowP T.nx ps.length i (fun k => fG T (ps.getD k 0))))[4 + i]? = some u := by
                have hi2 : i = 0 ∨ i = 1 := by omega
                rcases hi2 with rfl | rfl
                · exact ⟨_, rfl⟩
                · exact ⟨_, rfl⟩
              rw [hu0] at zc
              have HK3 := hide hK3
              have HO3 := hide ((unhide HO).trans hO3 (fun _ _ h => h))
              clear C2 hO3 hK3 hu0
              go_wp2_with fail
              go_roundw
              case rel =>
                refine ⟨i + 1, by go_num, by omega, fun k hk => ?_, ?_, ?_⟩
                · by_cases e : k = i
                  · rw [e, unhide Hfi]; exact hf0
                  · exact unhide Hfz k (by omega)
                · rw [← rowP_set _ _ _ _ (by omega), unhide Hfi]
                  exact (unhide HK3).setCell (4 + i) _
                · exact (unhide HO3).setCell (fun h => by simp at h; omega) _
              case measure => simp [intOf]; omega
          · have b1 : decide ((i : Int) < (ps.length : Int)) = false := decide_eq_false (by omega)
            have b1n : decide (i < ps.length) = false := decide_eq_false hil
            have e1 : i = ps.length := by omega
            subst e1
            have hall : ps.all (hasN (absG J T)) = true := by
              rw [List.all_eq_true]
              intro x hx
              obtain ⟨k, hk, rfl⟩ := List.getElem_of_mem hx
              have ek : ps[k] = ps.getD k 0 := by rw [List.getD_eq_getElem?_getD, List.getElem?_eq_getElem hk]; rfl
              rw [ek]
              rcases (unhide H0).gi.has (ps.getD k 0) with ⟨h1, _⟩ | ⟨_, _, h1⟩
              · exact absurd h1 (hfz k hk)
              · exact h1
            have hG := (unhide H0).gh.quiet hO
            have cn := hG.n_.1
            have ct := hG.tr.1
            have hcomE : comE (absG J T) l ps msg = if 16 < msg.size then 19 else if 40 ≤ T.n then 8 else 0 := by
              unfold comE
              rw [if_neg (by simpa using hcf), if_neg hp3, if_neg hp2, if_neg (by rw [hall]; simp), abs_len]
            have hq : ∀ k, k < ps.length → IsC T.c (fG T (ps.getD k 0)) ∧ ((T.c (fG T (ps.getD k 0))).seq : Int) = ps.getD k 0 := fun k hk => by
              rcases (unhide H0).gi.has (ps.getD k 0) with ⟨h1, _⟩ | ⟨h1, h2, _⟩
              · exact absurd h1 (hfz k hk)
              · exact ⟨h1, h2⟩
            have Hq := hide hq
            have HcE := hide hcomE
            have HK := hide hK
            have HO := hide hO
            clear hq hcomE hfz hG hK hO hall
            by_cases hm : 16 < msg.size
            · have b2 : decide ((16 : Int) < (msg.size : Int)) = true := decide_eq_true (by omega)
              have b2n : decide (16 < msg.size) = true := decide_eq_true hm
              have RR := hide (CmP.early (unhide H0) (unhide HO) (l := l) (ps := ps) (msg := msg) (e := 19) (by rw [unhide HcE, if_pos hm]) (by omega))
              go_wp2_with fail
              go_ret2
              exact ⟨0, 19, rfl, unhide RR⟩
            · have b2 : decide ((16 : Int) < (msg.size : Int)) = false := decide_eq_false (by omega)
              have b2n : decide (16 < msg.size) = false := decide_eq_false hm
              by_cases h40 : 40 ≤ T.n
              · have b3 : decide ((40 : Int) ≤ (T.n : Int)) = true := decide_eq_true (by omega)
                have b3n : decide (40 ≤ T.n) = true := decide_eq_true h40
                have RR := hide (CmP.early (unhide H0) (unhide HO) (l := l) (ps := ps) (msg := msg) (e := 8) (by rw [unhide HcE, if_neg hm, if_pos h40]) (by omega))
                go_wp2_with fail
                go_ret2
                exact ⟨0, 8, rfl, unhide RR⟩
              · have b3 : decide ((40 : Int) ≤ (T.n : Int)) = false := decide_eq_false (by omega)
                have b3n : decide (40 ≤ T.n) = false := decide_eq_false h40
                have hce0 : comE (absG J T) l ps msg = 0 := by rw [unhide HcE, if_neg hm, if_neg h40]
                have Hce := hide hce0
                obtain ⟨hl8, hl180⟩ := checkF_parts hcf
                have C3 := gstore_any ((unhide H0).ts.quiet (unhide HO)) ((unhide H0).gh.quiet (unhide HO)) (unhide H0).ap (.slice va l.length vc) l ((unhide Hvf).keep (unhide HO) (fun _ _ h => h)) hl8 hl180 (fun y hy => by
                  obtain ⟨q1, q2, q3, _⟩ := unhide HvF y hy
                  exact ⟨q1, q2, q3⟩) (by omega)
                have hst := storeJ_cost (unhide H0).gi.inv hcf
                generalize storeJ J l = sr at C3 hst
                obtain ⟨J1, tr, er⟩ := sr
                simp only at C3 hst
                have C3 := hide C3
                obtain ⟨t1, t2, t3⟩ := (unhide H0).ts.ts_lt
                have T3 := hide t3
                clear hce0 hl8 hl180 HcE t3
                go_wp2_with fail
                refine (unhide C3).mono ?_
                rintro e w4 ⟨rfl, n4, F4, hW4⟩
                have hwk := (unhide HO).size
                have hW4' := Wrote.first (unhide HO) hW4
                have hkF : ¬ F4 W0.heap.size := fun e => by
                  rcases hW4.ext _ e with e | e
                  · have := unhide T3 _ e; omega
                  · have := Has.lt (unhide HK); omega
                have hK4 := (unhide HK).keep hW4.only (fun e => by
                  rcases e with e | e | e
                  · omega
                  · omega
                  · have := unhide T3 _ e; omega)
                have hG4 := ((unhide H0).gh.quiet (unhide HO)).keep hW4.only (fun e => by
                  rcases e with e | e | e
                  · exact (unhide H0).ap.nt e
                  · exact (unhide H0).ap.ns e
                  · exact (unhide H0).ap.nF e)
                obtain ⟨hfed, hfr, hres⟩ := hst
                have hgi1 := (unhide H0).gi.fed hfed
                have hsv1 := (unhide H0).sv.congr hW4'.same hfed.inv
                have hap4 := (hW4'.went (g := g)).apart (unhide H0).ap hgl
                rcases hres with ⟨rfl, htr, hsn⟩ | ⟨rfl, rfl, hfull⟩
                · have hnp := hpl2
                  obtain ⟨r, hr⟩ : ∃ r : Cr, r = { rowP T.nx ps.length ps.length (fun k => fG T (ps.getD k 0)) with tree := tr } := ⟨_, rfl⟩
                  have hq48 : ∀ k, k < ps.length → fG T (ps.getD k 0) ≤ 48 := fun k hk => (unhide Hq k hk).1.1.2
                  have hrwf : r.Wf := by
                    rw [hr]
                    refine ⟨rfl, hnp, fun h => ?_, fun h => ?_, htr.1.2, ?_, ?_, by show T.nx < _; omega⟩
                    · show (if 1 < ps.length then _ else 0) = 0
                      have h' : ps.length ≤ 1 := h
                      rw [if_neg (by omega)]
                    · show (if 0 < ps.length then _ else 0) = 0
                      have h' : ps.length = 0 := h
                      rw [if_neg (by omega)]
                    · show (if 0 < ps.length then _ else 0) ≤ 48
                      split
                      · exact hq48 0 (by omega)
                      · omega
                    · show (if 1 < ps.length then _ else 0) ≤ 48
                      split
                      · exact hq48 1 (by omega)
                      · omega
                  have hpars : r.pars = (List.range ps.length).map (fun k => fG T (ps.getD k 0)) := by
                    have e : r.pars = (rowP T.nx ps.length ps.length (fun k => fG T (ps.getD k 0))).pars := by rw [hr]; rfl
                    rw [e]
                    exact rowP_pars T.nx ps.length _ hnp
                  have hNC : NewC J1 T r msg := ⟨by omega, hrwf, by rw [hr]; rfl, by rw [hr]; exact htr, fun p hp => by
                    rw [hpars] at hp
                    obtain ⟨k, hk, rfl⟩ := List.mem_map.1 hp
                    exact (unhide Hq k (by simpa using hk)).1, by omega, by omega⟩
                  have hseqs : r.pars.map (fun p => (T.c p).seq) = ps.map Int.toNat := by
                    rw [hpars, List.map_map]
                    apply List.ext_getElem (by simp)
                    intro k h1 h2
                    have hk : k < ps.length := by simpa using h2
                    have e2 := (unhide Hq k hk).2
                    have e3 : ps[k] = ps.getD k 0 := by rw [List.getD_eq_getElem?_getD, List.getElem?_eq_getElem hk]; rfl
                    rw [List.getElem_map, List.getElem_map, List.getElem_range, e3]
                    show (T.c (fG T (ps.getD k 0))).seq = _
                    omega
                  have hrt : r.tree = tr := by rw [hr]
                  have hrA : (crA (rowP T.nx ps.length ps.length (fun k => fG T (ps.getD k 0)))).setIfInBounds 2 (.int .i64 (tr : Int)) = crA r := by rw [hr]; rfl
                  have zf := hK4.free 2
                  have zc : w4.cell? ⟨W0.heap.size, 2, none⟩ = some (.int .i64 0) := hK4.cell 2
                  have hK5 := hK4.setCell 2 (.int .i64 (tr : Int))
                  rw [hrA] at hK5
                  have oS : Only (fun y => y = W0.heap.size) w4 (w4.setCell ⟨W0.heap.size, 2, none⟩ (.int .i64 (tr : Int))) := (Only.refl (fun y => y = W0.heap.size) w4).setCell (fun _ => rfl) _
                  have hW5 := hW4'.own oS (fun y hy => by
                    have hyk : y = W0.heap.size := hy
                    subst hyk
                    exact ⟨by omega, by omega, hkF, by omega⟩)
                  have hG5 := hG4.keep oS (fun e => by have e' : g = W0.heap.size := e; omega)
                  have C4 := commitBytes_any r hrwf msg (by omega) (w4.setCell ⟨W0.heap.size, 2, none⟩ (.int .i64 (tr : Int)))
                  have x0 : (w4.setCell ⟨W0.heap.size, 2, none⟩ (.int .i64 (tr : Int))).cell? ⟨W0.heap.size, 0, none⟩ = some (.bool r.used) := hK5.cell 0
                  have x1 : (w4.setCell ⟨W0.heap.size, 2, none⟩ (.int .i64 (tr : Int))).cell? ⟨W0.heap.size, 1, none⟩ = some (.int .i64 (r.seq : Int)) := hK5.cell 1
                  have x2 : (w4.setCell ⟨W0.heap.size, 2, none⟩ (.int .i64 (tr : Int))).cell? ⟨W0.heap.size, 2, none⟩ = some (.int .i64 (r.tree : Int)) := hK5.cell 2
                  have x3 : (w4.setCell ⟨W0.heap.size, 2, none⟩ (.int .i64 (tr : Int))).cell? ⟨W0.heap.size, 3, none⟩ = some (.int .i64 (r.np : Int)) := hK5.cell 3
                  have x4 : (w4.setCell ⟨W0.heap.size, 2, none⟩ (.int .i64 (tr : Int))).cell? ⟨W0.heap.size, 4, none⟩ = some (.int .i64 (r.p0 : Int)) := hK5.cell 4
                  have x5 : (w4.setCell ⟨W0.heap.size, 2, none⟩ (.int .i64 (tr : Int))).cell? ⟨W0.heap.size, 5, none⟩ = some (.int .i64 (r.p1 : Int)) := hK5.cell 5
                  have HK5 := hide hK5
                  have HW5 := hide hW5
                  have HG5 := hide hG5
                  have HX : Hid ((GI J1 rt T ∧ absG J1 T = absG J T) ∧ SavI J1 rt S ∧ NewC J1 T r msg ∧ r.pars.map (fun p => (T.c p).seq) = ps.map Int.toNat ∧ snapJ J1 tr = l ∧ r.tree = tr ∧ r.Wf ∧ Fed J J1 ∧ r.seq = T.nx) := hide ⟨hgi1, hsv1, hNC, hseqs, hsn, hrt, hrwf, hfed, by rw [hr]; rfl⟩
                  have Htr := hide htr
                  have C4 := hide C4
                  unfold crV at C4
                  clear C3 hW4 hW4' hK4 hG4 hfed hgi1 hsv1 hseqs hpars hrA hK5 oS hW5 hG5 hNC hq48 hrwf hrt hsn hr htr ct cn
                  clear Hq HK
                  go_upto_region 23 with fail
                  go_wp2_with fail
                  refine (unhide C4).mono ?_
                  rintro e w5 ⟨v5, rfl, hU5⟩
                  have hW5 := Wrote.post (unhide HW5) hU5.ho
                  have hK5 := (unhide HK5).keep hU5.ho (fun h => h)
                  have hG5 := (unhide HG5).quiet hU5.ho
                  obtain ⟨q1, q2, q3⟩ := (unhide HW5).ts.ts_lt
                  have hcl := cdat_len r (unhide HX).2.2.2.2.2.2.1.np msg
                  have hnp2 := (unhide HX).2.2.2.2.2.2.1.np
                  have C5 := tput_any hW5.ts 3 (by omega) (by omega) (by omega) (cdat r msg) v5 hU5.own.at_ (by omega) (dF_lt (cdat_lt (unhide HX).2.2.2.2.2.2.1 msg)) (fun y hy => by
                    have := hU5.hb y hy
                    exact ⟨fun hf => by have := q3 y hf; omega, by omega⟩) (by
                      have := hW5.pot
                      rw [List.length_append]
                      omega)
                  have ct := hG5.tr.1
                  have hpc := putC J1 3 (cdat r msg)
                  obtain ⟨va5, vc5, rfl⟩ := ownsRow_shape hU5.own
                  have HW5' := hide hW5
                  have HK5' := hide hK5
                  have HG5' := hide hG5
                  have hkl5 := Has.lt hK5
                  clear C4 hU5 hW5 hK5 hG5 x0 x1 x2 x3 x4 x5 zf zc q3 HW5 HK5 HG5 hcl hnp2
                  have hfr1 := frJ_le J1
                  cases hpc with
                  | old i hp hi' hl' hk' hd' => exact absurd ⟨hk', hd'⟩ ((unhide HX).1.1.noTwin (unhide HX).2.2.1 i hi' hl')
                  | full hp hf =>
                    rw [hp] at C5
                    have C5 := hide C5
                    go_wp2_with fail
                    refine (unhide C5).mono ?_
                    rintro e w6 ⟨rfl, n6, F6, hW6⟩
                    have hW := (unhide HW5').trans hW6
                    have h0 := frJ_full hf
                    have hG6 := (unhide HG5').keep hW6.only (fun e => by
                      rcases e with e | e | e
                      · exact hap4.nt e
                      · exact hap4.ns e
                      · exact hap4.nF e)
                    have RR : Hid (CmP w w6 g t s d D B recs J rt F T S l ps msg 0 5) := hide ⟨J1, T, _, F6, hW.went, ⟨hW.ts, hG6, (hW.went (g := g)).apart (unhide H0).ap hgl, (unhide HX).1.1, (unhide H0).sv.congr hW.same (unhide HX).1.1.inv⟩, hW.same, .inr (.inl ⟨unhide Hce, rfl, rfl, (unhide HX).1.2, by omega, by omega⟩)⟩
                    clear C5 hW6 hW hG6
                    go_wp2_with fail
                    go_ret2
                    exact ⟨0, 5, rfl, unhide RR⟩
                  | new i hp hi' h0 hno =>
                    rw [hp] at C5
                    have C5 := hide C5
                    have hi49 : i < 49 := by have := hi'.2; omega
                    have bi : (i : Int) < 49 := by omega
                    go_wp2_with fail
                    refine (unhide C5).mono ?_
                    rintro e w6 ⟨rfl, n6, F6, hW6⟩
                    have hW := (unhide HW5').trans hW6
                    have hap6 := (hW.went (g := g)).apart (unhide H0).ap hgl
                    have hG6 := (unhide HG5').keep hW6.only (fun e => by
                      rcases e with e | e | e
                      · exact hap4.nt e
                      · exact hap4.ns e
                      · exact hap4.nF e)
                    have hK6 := (unhide HK5').keep hW6.only (fun e => by
                      rcases e with e | e | e
                      · omega
                      · omega
                      · exact hkF e)
                    have hfr2 := frJ_upd hi' h0 (x := ⟨1, 3, cdat r msg, [], []⟩) rfl
                    have y0 : w6.cell? ⟨W0.heap.size, 0, none⟩ = some (.bool r.used) := hK6.cell 0
                    have y1 : w6.cell? ⟨W0.heap.size, 1, none⟩ = some (.int .i64 (r.seq : Int)) := hK6.cell 1
                    have y2 : w6.cell? ⟨W0.heap.size, 2, none⟩ = some (.int .i64 (r.tree : Int)) := hK6.cell 2
                    have y3 : w6.cell? ⟨W0.heap.size, 3, none⟩ = some (.int .i64 (r.np : Int)) := hK6.cell 3
                    have y4 : w6.cell? ⟨W0.heap.size, 4, none⟩ = some (.int .i64 (r.p0 : Int)) := hK6.cell 4
                    have y5 : w6.cell? ⟨W0.heap.size, 5, none⟩ = some (.int .i64 (r.p1 : Int)) := hK6.cell 5
                    have z0 := hG6.com0 i hi49
                    have z1 := hG6.com i 1 hi49 (by omega)
                    have z2 := hG6.com i 2 hi49 (by omega)
                    have z3 := hG6.com i 3 hi49 (by omega)
                    have z4 := hG6.com i 4 hi49 (by omega)
                    have z5 := hG6.com i 5 hi49 (by omega)
                    have hne : g ≠ W0.heap.size := by omega
                    have hP7 := (hG6.putC i hi49 r).quiet (Only.refl (fun _ => False) _).drew
                    have hgi1 := (unhide HX).1.1
                    have C7 := hide (gplace_any hP7 i hi49 (by show T.n < 48; omega) (fun j hj => by
                      have := (hgi1.ord.oin j hj).1.2
                      show T.o j < 49
                      omega) (fun k hk => by
                      show (updT T.c i r k).seq < _
                      by_cases e : k = i
                      · rw [e, updT_same, (unhide HX).2.2.2.2.2.2.2.2]; omega
                      · rw [updT_other _ _ _ _ e]
                        by_cases k0 : k = 0
                        · rw [k0, hgi1.tab.c0]; decide
                        · have hki : In k := ⟨by omega, by omega⟩
                          cases hu : (T.c k).used with
                          | true => have := (hgi1.tab.cs k ⟨hki, hu⟩).2; have := hgi1.nx; omega
                          | false => rw [hgi1.tab.cz k hki hu]; decide))
                    have HO7 : Hid (Only (fun y => y = g) w6 (put6 w6 g i r).drew) := hide (only6g (Only.refl (fun y => y = g) w6) (fun _ => rfl) _).drew
                    have HK6 := hide hK6
                    have HW := hide hW
                    clear C5 hW6 hW hG6 hK6 hP7 HW5' HK5' HG5' hgi1 hp hno
                    go_wp2_with fail
                    go_upto_region 28 with fail
                    go_region
                    all_goals
                      go_wp2_with fail
                      refine (unhide C7).mono ?_
                      rintro e w8 ⟨rfl, ⟨p, hAt, hG8⟩, hO8⟩
                      have hpn := (unhide HX).1.1.atLast (unhide HX).2.2.1 hi' h0 hAt
                      subst hpn
                      have hK8 := (((unhide HK6).keep (unhide HO7) (fun e => hne e.symm)).keep hO8 (fun e => hne e.symm))
                      have v1 : w8.cell? ⟨W0.heap.size, 1, none⟩ = some (.int .i64 (r.seq : Int)) := hK8.cell 1
                      have zn := hG8.nx_
                      have zn' : w8.cell? ⟨g, 357, none⟩ = some (.int .i64 (T.nx : Int)) := zn.1
                      have zf' := zn.2
                      have hG9 := (hG8.putNx (T.nx + 1)).quiet (Only.refl (fun _ => False) _).drew
                      have hG9d := hG8.putNx (T.nx + 1)
                      have RR : Hid (∀ wx, Only (fun _ => False) (w8.setCell ⟨g, 357, none⟩ (.int .i64 ((T.nx + 1 : Nat) : Int))) wx → CmP w wx g t s d D B recs J rt F T S l ps msg T.nx 0) := hide (fun wx hx => by
                        have hGx : GH wx g t (T.addC i r) := hG9d.quiet hx
                        have hOx : Only (fun y => y = g) w6 wx := (((unhide HO7).trans hO8 (fun _ _ h => h)).setCell (fun _ => rfl) _).trans hx (fun _ _ h => h.elim)
                        have hTx := (unhide HW).ts.keepG hap6 hOx
                        obtain ⟨gA, gB⟩ := (unhide HX).1.1.addC (unhide HX).2.2.1 hi' h0
                        refine ⟨_, T.addC i r, _, F6, ((unhide HW).went (g := g)).andThen hTx (hOx.mono (fun y _ e => .inl e)), ⟨hTx, hGx, hap6, gA, (unhide H0).sv.congr (unhide HW).same gA.inv⟩, (unhide HW).same, .inr (.inr ⟨unhide Hce, rfl, rfl, ?_, by have hf : frJ (newC J1 i r msg) + 1 = frJ J1 := hfr2.symm; show frJ J ≤ frJ (newC J1 i r msg) + (costF l + 1); omega⟩)⟩
                        show absG (newC J1 i r msg) (T.addC i r) = _
                        rw [gB, (unhide HX).1.2, (unhide HX).2.2.2.2.2.1, (unhide HX).2.2.2.2.1, (unhide HX).2.2.2.1])
                      have hsq : r.seq = T.nx := (unhide HX).2.2.2.2.2.2.2.2
                      rw [hsq] at v1
                      clear C7 hAt hG8 hO8 hK8 hG9 hG9d zn hsq
                      have hnw : T.nx < 9223372036854775806 := by omega
                      have HR2 := hide (unhide RR _ (Only.refl (fun _ => False) _))
                      have hne2 : W0.heap.size ≠ g := fun e => hne e.symm
                      clear RR
                      go_wp2_with fail
                      go_ret2
                      exact ⟨T.nx, 0, by first | rfl | simp, unhide HR2⟩
                · have RR : Hid (CmP w w4 g t s d D B recs J rt F T S l ps msg 0 5) := hide ⟨J1, T, n4, F4, hW4'.went, ⟨hW4'.ts, hG4, hap4, hgi1.1, hsv1⟩, hW4'.same, .inr (.inl ⟨unhide Hce, rfl, rfl, hgi1.2, by omega, by omega⟩)⟩
                  clear C3 hW4 hW4' hK4 hG4 hfed hgi1 hsv1
                  go_wp2_with fail
                  go_ret2
                  exact ⟨0, 5, rfl, unhide RR⟩
  · have a1 : (((checkF l : Nat) : Int) == 0) = false := ne_intO (by omega)
    have RR := hide (CmP.early (unhide H0) (unhide HO1) (l := l) (ps := ps) (msg := msg) (e := checkF l) (by unfold comE; rw [if_pos hcf]) hcf)
    go_wp2_with fail
    go_ret2
    exact ⟨0, checkF l, rfl, unhide RR⟩
end
end Go.Proofs.Qxb6500417aGreat
