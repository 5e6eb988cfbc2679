/-
  OWN WORK. THE GRAPH: SetAux.
-/
import Derived.Test.Qxb6500417aGreatGCmt
namespace Go.Proofs.Qxb6500417aGreat
open Go.RowKit Go.PlainAid
set_option linter.unusedSimpArgs false
set_option linter.unusedVariables false

theorem GI.setAux {J : Nat → Sl} {rt : Nat} {T : Gt} (h : GI J rt T) {tr : Nat} (ht : IsT J tr) : GI J rt { T with aux := tr } ∧ absG J { T with aux := tr } = { absG J T with aux := snapJ J tr } :=
  ⟨⟨h.inv, h.tab, h.ord, h.ref, h.rut, ht, h.n1, h.nx⟩, rfl⟩
/-- What SetAux leaves. -/
structure AxP (w w' : World) (g t s d : Nat) (D B : Nat → Nat) (recs : List Rec) (J : Nat → Sl) (rt : Nat) (F : Nat → Prop) (T : Gt) (S : GA) (l : List Fl) (e : Nat) : Prop where
  ex : ∃ J' T' R F', Went w w' g t s d D B recs J J' rt rt F R F' ∧ GR w' g t s d (replayB D R) B (recs ++ R) J' rt F' T' S ∧ JEq (abortJ J') (abortJ J) ∧
    ((checkF l ≠ 0 ∧ e = checkF l ∧ J' = J ∧ T' = T) ∨
     (checkF l = 0 ∧ e = 5 ∧ absG J' T' = absG J T ∧ frJ J ≤ frJ J' + costF l ∧ frJ J < costF l) ∨
     (checkF l = 0 ∧ e = 0 ∧ absG J' T' = { absG J T with aux := l } ∧ frJ J ≤ frJ J' + costF l))
section
variable {w : World} {g t s d : Nat} {D B : Nat → Nat} {recs : List Rec} {J : Nat → Sl} {rt : Nat} {F : Nat → Prop} {T : Gt} {S : GA} {l : List Fl}
set_option maxRecDepth 100000 in
set_option maxHeartbeats 4000000 in
theorem gsetAux_any (h : GR w g t s d D B recs J rt F T S) (vf : Value) (hvf : FilesIn w vf l) (hvF : ∀ y, vf.ownBlock = some y → y ≠ t ∧ y ≠ s ∧ ¬ F y ∧ y ≠ g) (hpot : recs.length ≤ 600) :
    Calls Tryz.prog 104 #[.pointer (some ⟨g, 0, none⟩), vf] w fun e w' => ∃ en : Nat, e = .returned (.int .i64 en) ∧ AxP w w' g t s d D B recs J rt F T S l en := by
  have C1 := hide (checkFiles_any vf l hvf)
  have H0 := hide h
  have Hvf := hide hvf
  have HvF := hide hvF
  have hgl := h.gh.lt
  obtain ⟨va, vc, rfl, _⟩ := id hvf
  have hfj := frJ_le J
  clear h hvf hvF
  go_enter Tryz.func104, Tryz.ntmps104
  go_wp2_with fail
  refine (unhide C1).mono ?_
  rintro e w1 ⟨rfl, hO1⟩
  have HO1 := hide hO1
  clear C1 hO1
  by_cases hcf : checkF l = 0
  · rw [hcf]
    obtain ⟨hl8, hl180⟩ := checkF_parts hcf
    have C3 := gstore_any ((unhide H0).ts.quiet (unhide HO1)) ((unhide H0).gh.quiet (unhide HO1)) (unhide H0).ap (.slice va l.length vc) l ((unhide Hvf).keep (unhide HO1) (fun _ _ h => h)) hl8 hl180 (fun y hy => by
      obtain ⟨q1, q2, q3, _⟩ := unhide HvF y hy
      exact ⟨q1, q2, q3⟩) (by omega)
    have hst := storeJ_cost (unhide H0).gi.inv hcf
    generalize storeJ J l = sr at C3 hst
    obtain ⟨J1, tr, er⟩ := sr
    simp only at C3 hst
    have C3 := hide C3
    clear hl8 hl180
    go_wp2_with fail
    refine (unhide C3).mono ?_
    rintro e w4 ⟨rfl, n4, F4, hW4⟩
    have hW4' := Wrote.first (unhide HO1) hW4
    have hG4 := ((unhide H0).gh.quiet (unhide HO1)).keep hW4.only (fun e => by
      rcases e with e | e | e
      · exact (unhide H0).ap.nt e
      · exact (unhide H0).ap.ns e
      · exact (unhide H0).ap.nF e)
    obtain ⟨hfed, hfr, hres⟩ := hst
    have hgi1 := (unhide H0).gi.fed hfed
    have hsv1 := (unhide H0).sv.congr hW4'.same hfed.inv
    have hap4 := (hW4'.went (g := g)).apart (unhide H0).ap hgl
    rcases hres with ⟨rfl, htr, hsn⟩ | ⟨rfl, rfl, hfull⟩
    · have z := hG4.aux_
      have hG5 := hG4.putAux tr
      have oS : Only (fun y => y = g) w4 (w4.setCell ⟨g, 356, none⟩ (.int .i64 (tr : Int))) := (Only.refl (fun y => y = g) w4).setCell (fun _ => rfl) _
      have hT5 := hW4'.ts.keepG hap4 oS
      obtain ⟨gA, gB⟩ := hgi1.1.setAux htr
      have RR : Hid (AxP w (w4.setCell ⟨g, 356, none⟩ (.int .i64 (tr : Int))) g t s d D B recs J rt F T S l 0) := hide ⟨J1, { T with aux := tr }, n4, F4, (hW4'.went (g := g)).andThen hT5 (oS.mono (fun y _ e => .inl e)), ⟨hT5, hG5, hap4, gA, hsv1⟩, hW4'.same, .inr (.inr ⟨hcf, rfl, by rw [gB, hgi1.2, hsn], hfr⟩)⟩
      clear C3 hW4 hW4' hG4 hfed hgi1 hsv1 hG5 oS hT5 gA gB
      go_wp2_with fail
      go_ret
      exact ⟨0, rfl, unhide RR⟩
    · have RR : Hid (AxP w w4 g t s d D B recs J rt F T S l 5) := hide ⟨J1, T, n4, F4, hW4'.went, ⟨hW4'.ts, hG4, hap4, hgi1.1, hsv1⟩, hW4'.same, .inr (.inl ⟨hcf, rfl, hgi1.2, hfr, hfull⟩)⟩
      clear C3 hW4 hW4' hG4 hfed hgi1 hsv1
      go_wp2_with fail
      go_ret
      exact ⟨5, rfl, unhide RR⟩
  · have a1 : (((checkF l : Nat) : Int) == 0) = false := ne_intO (by omega)
    have RR : Hid (AxP w w1 g t s d D B recs J rt F T S l (checkF l)) := hide ⟨J, T, [], F, Went.none (unhide H0).ts ((unhide H0).ts.quiet (unhide HO1)) ((unhide HO1).mono (fun _ _ h => h.elim)), by simpa [replayB] using (unhide H0).quiet (unhide HO1), JEq.refl _, .inl ⟨hcf, rfl, rfl, rfl⟩⟩
    go_wp2_with fail
    go_ret
    exact ⟨checkF l, rfl, unhide RR⟩
end
end Go.Proofs.Qxb6500417aGreat
