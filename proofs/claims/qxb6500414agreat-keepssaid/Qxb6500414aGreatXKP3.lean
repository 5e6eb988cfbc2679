/-
  OWN WORK. TXN, Keeps, plain: what a bracket and a schema call leave, against the shots. No program in sight.
-/
import Derived.Test.Qxb6500414aGreatXKP2
namespace Go.Proofs.Qxb6500414aGreat
open Go.RowKit Go.PlainAid
set_option linter.unusedSimpArgs false
set_option linter.unusedVariables false

theorem kfind_cons (nm : ByteArray) (x : Tb) (l : Db) : findD (x :: l) nm = if x.nm = nm then some x else findD l nm := by
  unfold findD
  rw [List.find?_cons]
  by_cases c : x.nm = nm
  · rw [if_pos c, decide_eq_true c]
  · rw [if_neg c, decide_eq_false c]
theorem find_put' (u : Tb) (nm : ByteArray) : ∀ D : Db, findD (putT u D) nm = if nm = u.nm then some u else findD D nm
  | [] => by
    show findD (u :: []) nm = _
    rw [kfind_cons]
    by_cases c : nm = u.nm
    · rw [if_pos c, if_pos c.symm]
    · rw [if_neg c, if_neg (fun x => c x.symm)]
  | e :: D => by
    have ih := find_put' u nm D
    have hc := kfind_cons nm
    have e0 : putT u (e :: D) = if lt e.nm u.nm = true then e :: putT u D else if e.nm = u.nm then u :: D else u :: e :: D := rfl
    rw [e0]
    by_cases c1 : lt e.nm u.nm = true
    · rw [if_pos c1, hc, hc, ih]
      by_cases c2 : e.nm = nm
      · rw [if_pos c2, if_pos c2, if_neg (fun x => lt_ne c1 (c2.trans x))]
      · rw [if_neg c2, if_neg c2]
    · rw [if_neg c1]
      by_cases c3 : e.nm = u.nm
      · rw [if_pos c3, hc, hc]
        by_cases c2 : nm = u.nm
        · rw [if_pos c2, if_pos c2.symm]
        · rw [if_neg c2, if_neg (fun x => c2 x.symm), if_neg (fun x => c2 (x.symm.trans c3))]
      · rw [if_neg c3, hc]
        by_cases c2 : nm = u.nm
        · rw [if_pos c2, if_pos c2.symm]
        · rw [if_neg c2, if_neg (fun x => c2 x.symm)]
theorem find_drop (nm n' : ByteArray) : ∀ D : Db, n' ≠ nm → findD (D.filter (fun t => decide (t.nm ≠ nm))) n' = findD D n'
  | [], _ => rfl
  | e :: D, h => by
    have ih := find_drop nm n' D h
    unfold findD at ih ⊢
    by_cases c : e.nm = nm
    · rw [List.filter_cons_of_neg (by simp [c]), ih, List.find?_cons, decide_eq_false (fun x => h (x.symm.trans c))]
    · rw [List.filter_cons_of_pos (by simp [c]), List.find?_cons, List.find?_cons, ih]
section
variable {M N : Mu} {a bb cc kd : Int} {nm os ot : ByteArray} {s t : Nat} {T u : Tb} {mode z : Int} {an : An}
theorem gd_nat {a : Int} (h : gdS a) : ∃ s : Nat, a = s ∧ s < 4 := ⟨a.toNat, by have := h.1; omega, by have := h.1; have := h.2; omega⟩
theorem inT_due (hk : kd ≠ 1) : M.inT a = dueBr M kd a := by
  unfold Mu.inT dueBr
  rw [if_neg hk]
theorem inT_zero (h : M.inT a = 0) : ∃ s : Nat, a = s ∧ s < 4 ∧ M.act s = true := by
  unfold Mu.inT at h
  by_cases g : gdS a
  · rw [if_pos g] at h
    obtain ⟨s, rfl, hs⟩ := gd_nat g
    refine ⟨s, rfl, hs, ?_⟩
    cases c : M.act ((s : Nat) : Int).toNat with
    | true => exact c
    | false => rw [c] at h; simp at h
  · rw [if_neg g] at h; cases h
theorem MuOp.st1 (hop : MuOp M a bb cc os ot kd N an) (hk : kd = 1) : an.e = dueBr M 1 a ∧ ((an.e ≠ 0 ∧ N = M) ∨ (an.e = 0 ∧ ∃ s : Nat, a = s ∧ s < 4 ∧ M.act s = false ∧ N = M.begin s)) := by
  cases hop with
  | bgN z h =>
    rcases h with ⟨h1, rfl⟩ | ⟨h1, h2, rfl⟩
    · refine ⟨?_, .inl ⟨by show (20 : Int) ≠ 0; omega, rfl⟩⟩
      show (20 : Int) = _
      unfold dueBr
      rw [if_neg h1]
    · refine ⟨?_, .inl ⟨by show (3 : Int) ≠ 0; omega, rfl⟩⟩
      show (3 : Int) = _
      unfold dueBr
      rw [if_pos h1, if_pos rfl, if_pos h2]
  | bgY h h2 =>
    refine ⟨?_, .inr ⟨rfl, ?_⟩⟩
    · show (0 : Int) = _
      unfold dueBr
      rw [if_pos h, if_pos rfl, h2]
      rfl
    · obtain ⟨s, rfl, hs⟩ := gd_nat h
      exact ⟨s, rfl, hs, h2, rfl⟩
  | oth _ h => omega
  | _ => omega
theorem MuOp.st2 (hop : MuOp M a bb cc os ot kd N an) (hk : kd = 2) : an.e = dueBr M 2 a ∧ ((an.e ≠ 0 ∧ N = M) ∨ (an.e = 0 ∧ ∃ s : Nat, a = s ∧ s < 4 ∧ M.act s = true ∧ N = M.commit s)) := by
  cases hop with
  | coN h => exact ⟨inT_due (by omega), .inl ⟨h, rfl⟩⟩
  | coY h =>
    refine ⟨by show (0 : Int) = _; rw [← inT_due (by omega), h], .inr ⟨rfl, ?_⟩⟩
    obtain ⟨s, rfl, hs, ha⟩ := inT_zero h
    exact ⟨s, rfl, hs, ha, rfl⟩
  | oth _ h => omega
  | _ => omega
theorem MuOp.st3 (hop : MuOp M a bb cc os ot kd N an) (hk : kd = 3) : an.e = dueBr M 3 a ∧ ((an.e ≠ 0 ∧ N = M) ∨ (an.e = 0 ∧ ∃ s : Nat, a = s ∧ s < 4 ∧ M.act s = true ∧ N = M.roll s)) := by
  cases hop with
  | roN h => exact ⟨inT_due (by omega), .inl ⟨h, rfl⟩⟩
  | roY h =>
    refine ⟨by show (0 : Int) = _; rw [← inT_due (by omega), h], .inr ⟨rfl, ?_⟩⟩
    obtain ⟨s, rfl, hs, ha⟩ := inT_zero h
    exact ⟨s, rfl, hs, ha, rfl⟩
  | oth _ h => omega
  | _ => omega
/-- A schema call that answered OK. -/
def ScO (M N : Mu) (R : Db × Int) : Prop := (∀ s, s < 4 → M.act s = false) ∧ R.2 = 0 ∧ N = M.schema R.1
theorem sc_of {R : Db × Int} (h : MuSc M a R N an) : (an.e ≠ 0 ∧ N = M) ∨ (an.e = 0 ∧ ScO M N R) := by
  rcases h with ⟨z, h0, _, rfl, rfl⟩ | ⟨h1, h2, rfl, rfl⟩
  · exact .inl ⟨h0, rfl⟩
  · refine .inr ⟨rfl, fun s hs => ?_, h2, rfl⟩
    cases c : M.act s with
    | false => rfl
    | true =>
      exfalso
      rcases h1 with ⟨_, h⟩ | ⟨_, _, h⟩ | ⟨_, _, _, h⟩ | ⟨_, h, _⟩
      · cases h
      · cases h
      · cases h
      · exact h ⟨s, hs, c⟩
theorem MuOp.st4 (hop : MuOp M a bb cc os ot kd N an) (hk : kd = 4) : (an.e ≠ 0 ∧ N = M) ∨ (an.e = 0 ∧ ScO M N (crtD M.com os (colsP ot) bb)) := by
  cases hop with
  | crt _ _ h => exact sc_of h
  | oth _ h => omega
  | _ => omega
theorem MuOp.st5 (hop : MuOp M a bb cc os ot kd N an) (hk : kd = 5) : (an.e ≠ 0 ∧ N = M) ∨ (an.e = 0 ∧ ScO M N (drpD M.com os)) := by
  cases hop with
  | drp _ _ h => exact sc_of h
  | oth _ h => omega
  | _ => omega
theorem MuOp.st6 (hop : MuOp M a bb cc os ot kd N an) (hk : kd = 6) : (an.e ≠ 0 ∧ N = M) ∨ (an.e = 0 ∧ ScO M N (cixD M.com os bb)) := by
  cases hop with
  | cix _ _ h => exact sc_of h
  | oth _ h => omega
  | _ => omega
theorem MuOp.stO (hop : MuOp M a bb cc os ot kd N an) (hk : kd < 1 ∨ 12 ≤ kd) : N = M := by
  cases hop with
  | act => rfl
  | lck => rfl
  | vie => rfl
  | sch => rfl
  | tab => rfl
  | chk => rfl
  | oth _ h => rfl
  | _ => omega
theorem ScO.rows {R : Db × Int} (ok : MuOk M) (h : ScO M N R) (hs : s < 4) : (M.rows s nm = ((findD M.com nm).map (·.rows)).getD []) ∧ N.rows s nm = ((findD R.1 nm).map (·.rows)).getD [] ∧ N.com = R.1 ∧ N.act s = false := by
  obtain ⟨h1, h2, rfl⟩ := h
  refine ⟨?_, rfl, rfl, h1 s hs⟩
  unfold Mu.rows
  rw [ok.si s hs (h1 s hs)]
theorem ScO.crt (ok : MuOk M) (h : ScO M N (crtD M.com os (colsP ot) bb)) : (∀ T ∈ M.com, T.nm ≠ os) ∧ (∃ (t : Nat) (U : Tb), N.com[t]? = some U ∧ U.nm = os) ∧ N.com.length = M.com.length + 1 ∧ (∀ s, s < 4 → N.rows s os = []) ∧ Stay M N := by
  have h0 := h.2.1
  have key : findD M.com os = none ∧ (crtD M.com os (colsP ot) bb).1 = putT ⟨os, colsP ot, bb.toNat, none, []⟩ M.com := by
    unfold crtD at h0 ⊢
    split at h0
    · cases h0
    · next c1 =>
      split at h0
      · cases h0
      · next c2 =>
        rw [if_neg c1, if_neg c2]
        cases hf : findD M.com os with
        | some x => rw [hf] at h0; simp only at h0; cases h0
        | none =>
          rw [hf] at h0
          simp only at h0 ⊢
          split at h0
          · cases h0
          · next c3 => rw [if_neg c3]; exact ⟨trivial, rfl⟩
  obtain ⟨hf, e⟩ := key
  have hno : ∀ T ∈ M.com, T.nm ≠ os := fun T hT => findD_none hf hT
  have hc : N.com = putT ⟨os, colsP ot, bb.toNat, none, []⟩ M.com := by rw [(h.rows ok (s := 0) (nm := os) (by omega)).2.2.1, e]
  obtain ⟨j, hj, ej⟩ := putBy_new (f := fun t : Tb => t.nm) (⟨os, colsP ot, bb.toNat, none, []⟩ : Tb) (l := M.com) hno
  have ej' : N.com = M.com.take j ++ ⟨os, colsP ot, bb.toNat, none, []⟩ :: M.com.drop j := hc.trans ej
  refine ⟨hno, ⟨j, ⟨os, colsP ot, bb.toNat, none, []⟩, by rw [ej']; exact (ins_erase M.com _ j hj).2, rfl⟩, ?_, fun s hs => ?_, fun s t T hs hT => ⟨⟨T, ?_, rfl⟩, ?_⟩⟩
  · rw [ej']
    simp
    omega
  · rw [(h.rows ok (nm := os) hs).2.1, e, find_put', if_pos rfl]
    rfl
  · rw [ej']
    have hm := List.mem_of_getElem? hT
    rw [← List.take_append_drop j M.com] at hm
    rcases List.mem_append.mp hm with d | d
    · exact List.mem_append.mpr (.inl d)
    · exact List.mem_append.mpr (.inr (List.mem_cons_of_mem _ d))
  · have r := h.rows ok (nm := T.nm) hs
    rw [r.1, r.2.1, e, find_put', if_neg (hno T (List.mem_of_getElem? hT))]
theorem ScO.drp (ok : MuOk M) (h : ScO M N (drpD M.com os)) : (∃ (t : Nat) (T : Tb), M.com[t]? = some T ∧ T.nm = os) ∧ (∀ U ∈ N.com, U.nm ≠ os) ∧ N.com.length + 1 = M.com.length ∧ ∀ (s t : Nat) (T : Tb), s < 4 → M.com[t]? = some T → T.nm ≠ os → StyP M N s T.nm := by
  have h0 := h.2.1
  have key : ∃ T, findD M.com os = some T ∧ (drpD M.com os).1 = M.com.filter (fun t => decide (t.nm ≠ os)) := by
    unfold drpD at h0 ⊢
    cases hf : findD M.com os with
    | none => rw [hf] at h0; simp only at h0; cases h0
    | some T => exact ⟨T, rfl, rfl⟩
  obtain ⟨T, hf, e⟩ := key
  obtain ⟨t, ht⟩ := find_at hf
  obtain ⟨hm, hn⟩ := findD_mem hf
  have hc : N.com = M.com.filter (fun t => decide (t.nm ≠ os)) := by rw [(h.rows ok (s := 0) (nm := os) (by omega)).2.2.1, e]
  have e1 := filter_one (f := fun t : Tb => t.nm) ok.g.srt ht
  simp only [hn] at e1
  refine ⟨⟨t, T, ht, hn⟩, fun U hU => ?_, ?_, fun s t' T' hs hT' hne => ⟨⟨T', ?_, rfl⟩, ?_⟩⟩
  · rw [hc] at hU
    simpa using (List.mem_filter.mp hU).2
  · rw [hc, e1, List.length_eraseIdx, if_pos (List.getElem?_eq_some_iff.mp ht).1]
    have := (List.getElem?_eq_some_iff.mp ht).1
    omega
  · rw [hc]
    exact List.mem_filter.mpr ⟨List.mem_of_getElem? hT', by simpa using hne⟩
  · have r := h.rows ok (nm := T'.nm) hs
    rw [r.1, r.2.1, e, find_drop _ _ _ hne]
theorem ScO.cix (ok : MuOk M) (h : ScO M N (cixD M.com os bb)) : namesD M.com = namesD N.com ∧ Stay M N := by
  have h0 := h.2.1
  have hn : ∀ t : Tb, (cixR t bb).1.nm = t.nm ∧ (cixR t bb).1.rows = t.rows := by
    intro t
    unfold cixR
    split
    · exact ⟨rfl, rfl⟩
    · split
      · exact ⟨rfl, rfl⟩
      · split <;> exact ⟨rfl, rfl⟩
  have key : ∃ T, findD M.com os = some T ∧ (cixD M.com os bb).1 = putT (cixR T bb).1 M.com := by
    unfold cixD onT at h0 ⊢
    cases hf : findD M.com os with
    | none => rw [hf] at h0; simp only at h0; cases h0
    | some T =>
      rw [hf] at h0
      simp only at h0 ⊢
      exact ⟨T, rfl, by rw [if_pos h0]⟩
  obtain ⟨T, hf, e⟩ := key
  obtain ⟨hm, hT⟩ := findD_mem hf
  have hc : N.com = putT (cixR T bb).1 M.com := by rw [(h.rows ok (s := 0) (nm := os) (by omega)).2.2.1, e]
  have hu : ∃ x ∈ M.com, x.nm = (cixR T bb).1.nm := ⟨T, hm, (hn T).1.symm⟩
  have hmap := putT_map ok.g.srt hu
  refine ⟨?_, fun s t T' hs hT' => ⟨⟨if T'.nm = (cixR T bb).1.nm then (cixR T bb).1 else T', ?_, ?_⟩, ?_⟩⟩
  · rw [hc, hmap]
    unfold namesD
    rw [List.map_map]
    refine List.map_congr_left (fun t _ => ?_)
    simp only [Function.comp]
    split
    · next c => exact c
    · rfl
  · rw [hc, hmap]
    exact List.mem_map.mpr ⟨T', List.mem_of_getElem? hT', rfl⟩
  · split
    · next c => exact c.symm
    · rfl
  · have r := h.rows ok (nm := T'.nm) hs
    rw [r.1, r.2.1, e, find_put']
    by_cases c : T'.nm = (cixR T bb).1.nm
    · rw [if_pos c, c, (hn T).1, hT, hf]
      show T.rows = (cixR T bb).1.rows
      rw [(hn T).2]
    · rw [if_neg c]
/-- What a Commit shows. -/
theorem commit_rows (ok : MuOk M) (hs : s < 4) (u' : Nat) (hu : u' < 4) : (M.commit s).rows u' nm = if M.lk s nm = 2 then M.rows s nm else M.rows u' nm := by
  have e0 : (M.commit s).rows u' nm = ((findD (if u' = s then M.see s else mixD (M.lk u') (M.see u') (M.see s)) nm).map (·.rows)).getD [] := rfl
  rw [e0]
  by_cases c : u' = s
  · subst c
    rw [if_pos rfl]
    split <;> rfl
  · rw [if_neg c, find_mix]
    unfold Mu.rows
    by_cases c2 : M.lk s nm = 2
    · rw [if_pos c2]
      have z := ok.ex s u' nm hs hu (fun x => c x.symm) c2
      cases hf : findD (M.see s) nm with
      | none => rfl
      | some T =>
        rw [Option.map_some]
        unfold mixT
        rw [(findD_mem hf).2, if_neg (by rw [z]; omega)]
    · rw [if_neg c2, ok.out s nm hs c2]
      have hn := find_nms (ok.nms u' hu) nm
      cases hf : findD M.com nm with
      | none =>
        rw [hf] at hn
        cases hg : findD (M.see u') nm with
        | none => rfl
        | some _ => rw [hg] at hn; cases hn
      | some T =>
        rw [hf] at hn
        obtain ⟨v, hv⟩ := Option.isSome_iff_exists.mp hn
        rw [Option.map_some]
        unfold mixT
        rw [(findD_mem hf).2, hv]
        by_cases c3 : M.lk u' nm = 2
        · rw [if_pos c3]; rfl
        · rw [if_neg c3]
          have := ok.out u' nm hu c3
          rw [hv, hf] at this
          rw [Option.some.inj this]
theorem nms_at (ok : MuOk M) (hs : s < 4) : namesD M.com = namesD (M.see s) := (ok.nms s hs).symm
theorem roll_rows (ok : MuOk M) (hs : s < 4) (oth : Nat) (hoth : oth = if s = 0 then 1 else 0) (u' : Nat) (hu : u' < 4) : (M.roll s).rows u' nm = if M.lk s nm = 2 then M.rows oth nm else M.rows u' nm := by
  have e0 : (M.roll s).rows u' nm = ((findD (if u' = s then M.com else M.see u') nm).map (·.rows)).getD [] := rfl
  rw [e0]
  have ho4 : oth < 4 := by rw [hoth]; split <;> omega
  have hne : s ≠ oth := by rw [hoth]; split <;> omega
  unfold Mu.rows
  by_cases c2 : M.lk s nm = 2
  · rw [if_pos c2]
    have z := ok.ex s oth nm hs ho4 hne c2
    rw [ok.out oth nm ho4 (by rw [z]; omega)]
    by_cases c : u' = s
    · rw [if_pos c]
    · rw [if_neg c, ok.out u' nm hu (by rw [ok.ex s u' nm hs hu (fun x => c x.symm) c2]; omega)]
  · rw [if_neg c2]
    by_cases c : u' = s
    · subst c
      rw [if_pos rfl, ok.out u' nm hs c2]
    · rw [if_neg c]
end
end Go.Proofs.Qxb6500414aGreat
