/-
  OWN WORK. THE GRAPH: Save, Abort, Room.
-/
import Derived.Test.Qxb6500417aGreatGRt
namespace Go.Proofs.Qxb6500417aGreat
open Go.RowKit Go.PlainAid
set_option linter.unusedSimpArgs false
set_option linter.unusedVariables false

/-- What Save leaves. -/
structure SavP (w w' : World) (g t s d : Nat) (D B : Nat → Nat) (recs : List Rec) (J : Nat → Sl) (rt : Nat) (F : Nat → Prop) (T : Gt) (S : GA) (e : Nat) : Prop where
  ex : ∃ J' rt' R F' S', Went w w' g t s d D B recs J J' rt rt' F R F' ∧ GR w' g t s d (replayB D R) B (recs ++ R) J' rt' F' T S' ∧ absG J' T = absG J T ∧ ((e = 0 ∧ S' = absG J T ∧ 1 ≤ R.length ∧ frJ J ≤ frJ J' + 1) ∨ (e = 5 ∧ frJ J = 0 ∧ J' = J ∧ rt' = rt ∧ S' = S ∧ R = []))
section
variable {w : World} {g t s d : Nat} {D B : Nat → Nat} {recs : List Rec} {J : Nat → Sl} {rt : Nat} {F : Nat → Prop} {T : Gt} {S : GA}
theorem dF_lt {l : List Nat} (h : ∀ x ∈ l, x < 256) : ∀ j, j < l.length → dF l j < 256 := fun j hj => by
  unfold dF
  rw [List.getD_eq_getElem?_getD, List.getElem?_eq_getElem hj]
  exact h _ (List.getElem_mem hj)
/-- The refs object is put. -/
theorem GR.putRefs (h : GR w g t s d D B recs J rt F T S) (hrl : recs.length ≤ 700) {w1 : World} {v : Value} (hU : UM w v (rdat T) w1) :
    Calls Tryz.prog 119 #[.pointer (some ⟨t, 0, none⟩), .int .i64 4, v] w1 fun e w' => e = .returned (.tuple #[.int .i64 ((putJ J 4 (rdat T)).2.1 : Nat), .int .i64 ((putJ J 4 (rdat T)).2.2 : Nat)]) ∧ ∃ news F', Wrote w w' t s d D B recs J (putJ J 4 (rdat T)).1 rt F news F' := by
  have hW := h.gi.refW
  have hl := hW.len
  obtain ⟨t1, t2, t3⟩ := h.ts.ts_lt
  have := tput_any (h.ts.quiet hU.ho) 4 (by omega) (by omega) (by omega) (rdat T) v hU.own.at_ (by omega) (dF_lt hW.lt) (fun y hy => by
    have := hU.hb y hy
    exact ⟨fun hf => by have := t3 y hf; omega, by omega⟩) (by omega)
  refine this.mono ?_
  rintro e w' ⟨rfl, news, F', hWr⟩
  exact ⟨rfl, news, F', hWr.pre hU.ho⟩
set_option maxRecDepth 100000 in
set_option maxHeartbeats 4000000 in
theorem gsave_any (h : GR w g t s d D B recs J rt F T S) (hrl : recs.length ≤ 700) :
    Calls Tryz.prog 106 #[.pointer (some ⟨g, 0, none⟩)] w fun e w' => ∃ en : Nat, e = .returned (.int .i64 en) ∧ SavP w w' g t s d D B recs J rt F T S en := by
  have C1 := hide (refsBytes_any h.gh h.gi.refW)
  have H0 := hide h
  have hgl := h.gh.lt
  have hfj := frJ_le J
  clear h
  go_enter Tryz.func106, Tryz.ntmps106
  go_wp2_with fail
  refine (unhide C1).mono ?_
  rintro e w1 ⟨v1, rfl, hU1⟩
  have C2 := (unhide H0).putRefs hrl hU1
  have c1 := ((unhide H0).gh.quiet hU1.ho).tr.1
  obtain ⟨va, vc, rfl⟩ := ownsRow_shape hU1.own
  clear C1 hU1
  cases putC J 4 (rdat T) with
  | full hp hf =>
    rw [hp] at C2
    have C2 := hide C2
    go_wp2_with fail
    refine (unhide C2).mono ?_
    rintro e w2 ⟨rfl, news, F', hWr⟩
    have hfr := frJ_full hf
    have hnil : news = [] := by
      have := hWr.pot
      rw [hfr] at this
      exact List.length_eq_zero_iff.1 (by omega)
    subst hnil
    have RR : Hid (SavP w w2 g t s d D B recs J rt F T S 5) := hide ⟨J, rt, [], F', S, hWr.went, ⟨hWr.ts, (unhide H0).gh.keep hWr.only (fun e => by
      rcases e with e | e | e
      · exact (unhide H0).ap.nt e
      · exact (unhide H0).ap.ns e
      · exact (unhide H0).ap.nF e), (hWr.went (g := g)).apart (unhide H0).ap hgl, (unhide H0).gi, (unhide H0).sv⟩, rfl, .inr ⟨rfl, hfr, rfl, rfl, rfl, rfl⟩⟩
    clear C2 hWr
    go_wp2_with fail
    go_ret
    exact ⟨5, rfl, unhide RR⟩
  | old i hp hi hl hk hd =>
    have hir : i = rt := (unhide H0).gi.rut.r1 i hi hl hk
    subst hir
    rw [hp] at C2
    have C2 := hide C2
    go_wp2_with fail
    refine (unhide C2).mono ?_
    rintro e w2 ⟨rfl, news, F', hWr⟩
    have hG2 := (unhide H0).gh.keep hWr.only (fun e => by
      rcases e with e | e | e
      · exact (unhide H0).ap.nt e
      · exact (unhide H0).ap.ns e
      · exact (unhide H0).ap.nF e)
    have c2 := hG2.tr.1
    have C3 := hide (troot_any hWr.ts)
    have C4 := hide (tcommit_in hWr.ts i (.inr ⟨hi, hl⟩) (by
      have := hWr.pot
      rw [List.length_append]
      omega))
    have HW := hide hWr
    have HG2 := hide hG2
    have b1 : ((i : Int) == (i : Int)) = true := by simp
    have Hd := hide hd
    clear C2 hWr hG2 hd hp hk
    go_wp2_with fail
    refine (unhide C3).mono ?_
    rintro e w3 ⟨rfl, rfl⟩
    clear C3
    go_wp2_with fail
    refine (unhide C4).mono ?_
    rintro e w4 ⟨rfl, sup, hT4, hO4⟩
    have hs4 := hO4.size
    have hO4' : Only (fun y => y = t ∨ y = s ∨ F' y) w2 w4 := hO4.mono (fun y _ e => .inr e)
    have hWent := (unhide HW).commit (g := g) hT4 (fun y hy => by
      rcases hy with hy | hy
      · exact .inl hy
      · exact .inr hy.1) hO4'
    have hap := hWent.apart (unhide H0).ap hgl
    have RR : Hid (SavP w w4 g t s d D B recs J i F T S 0) := hide ⟨comJ J, i, _, _, absG J T, hWent, ⟨hWent.ts, (unhide HG2).keep hO4' (fun e => by
      rcases e with e | e | e
      · exact hap.nt e
      · exact hap.ns e
      · exact hap.nF (.inl e)), hap, (unhide H0).gi.com.1, (unhide H0).gi.saveOld (unhide Hd)⟩, (unhide H0).gi.com.2, .inl ⟨rfl, rfl, by simp, by have := free_com J; omega⟩⟩
    clear C4 hT4 hO4 hWent
    go_wp2_with fail
    go_ret
    exact ⟨0, rfl, unhide RR⟩
  | new i hp hi h0 hno =>
    rw [hp] at C2
    obtain ⟨gA, gB, gC, gD, gE, gF, gG, gH, gI⟩ := (unhide H0).gi.saveNew (dat := rdat T) hi h0
    have gS := (unhide H0).gi.saveNewS hi h0
    have gfr := save_free (rt := rt) hi h0 gF
    have C2 := hide C2
    go_wp2_with fail
    refine (unhide C2).mono ?_
    rintro e w2 ⟨rfl, news, F', hWr⟩
    have hG2 := (unhide H0).gh.keep hWr.only (fun e => by
      rcases e with e | e | e
      · exact (unhide H0).ap.nt e
      · exact (unhide H0).ap.ns e
      · exact (unhide H0).ap.nF e)
    have c2 := hG2.tr.1
    have C3 := hide (troot_any hWr.ts)
    have C4 := hide (tdrop_in hWr.ts rt (unhide H0).gi.rut.rin gF gG)
    have HW := hide hWr
    have HG2 := hide hG2
    have b1 : ((i : Int) == (rt : Int)) = false := ne_intO (by omega)
    have hlen : (recs ++ news).length ≤ 1000 := by
      have := hWr.pot
      rw [List.length_append]
      omega
    clear C2 hWr hG2 hp hno
    go_wp2_with fail
    refine (unhide C3).mono ?_
    rintro e w3 ⟨rfl, rfl⟩
    clear C3
    go_wp2_with fail
    refine (unhide C4).mono ?_
    rintro e w4 ⟨rfl, hT4, hO4⟩
    have hap1 := ((unhide HW).went (g := g)).apart (unhide H0).ap hgl
    have hG4 := (unhide HG2).keep hO4 (fun e => by
      rcases e with e | e
      · exact hap1.nt e
      · exact hap1.ns e)
    have c4 := hG4.tr.1
    have C5 := hide (tcommit_in hT4 i (.inr ⟨hi, gH⟩) hlen)
    have HG4 := hide hG4
    have HO4 := hide hO4
    clear C4 hT4 hO4 hG4 c2
    go_wp2_with fail
    refine (unhide C5).mono ?_
    rintro e w5 ⟨rfl, sup, hT5, hO5⟩
    have hs4 := (unhide HO4).size
    have hs5 := hO5.size
    have hO5' : Only (fun y => y = t ∨ y = s ∨ F' y) w4 w5 := hO5.mono (fun y _ e => .inr e)
    have hO45 : Only (fun y => y = t ∨ y = s ∨ F' y) w2 w5 := ((unhide HO4).mono (T := fun y => y = t ∨ y = s ∨ F' y) (fun y _ e => by
      rcases e with e | e
      · exact .inl e
      · exact .inr (.inl e))).trans hO5' (fun _ _ h => h)
    have hWent := (unhide HW).commit (g := g) hT5 (fun y hy => by
      rcases hy with hy | hy
      · exact .inl hy
      · exact .inr (by have := hy.1; omega)) hO45
    have hap := hWent.apart (unhide H0).ap hgl
    have RR : Hid (SavP w w5 g t s d D B recs J rt F T S 0) := hide ⟨savJ J i rt (rdat T), i, _, _, absG J T, hWent, ⟨hWent.ts, (unhide HG4).keep hO5' (fun e => by
      rcases e with e | e | e
      · exact hap.nt e
      · exact hap.ns e
      · exact hap.nF (.inl e)), hap, gA, gS⟩, gB, .inl ⟨rfl, rfl, by simp, gfr⟩⟩
    clear C5 hT5 hO5 hWent
    go_wp2_with fail
    go_ret
    exact ⟨0, rfl, unhide RR⟩
end
end Go.Proofs.Qxb6500417aGreat
