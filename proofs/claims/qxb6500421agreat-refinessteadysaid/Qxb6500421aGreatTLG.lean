/-
  OWN WORK. THE TREE LAW: SameGet, SameReadTree, SameMembers, taken once.
-/
import Derived.Test.Qxb6500421aGreatTLF
import Derived.Test.Qxb6500421aGreatUMk
import Derived.Test.Qxb6500421aGreatUGet
import Derived.Test.Qxb6500421aGreatTRd
namespace Go.Proofs.Qxb6500421aGreat
open Go.RowKit Go.PlainAid
set_option linter.unusedSimpArgs false
set_option linter.unusedVariables false


theorem trL_len {w : World} {t s d rt : Nat} {D B : Nat → Nat} {recs : List Rec} {J : Nat → Sl} {F : Nat → Prop} (h : TS w t s d D B recs J rt F) (id : Int) : (trL J id).length ≤ 8 := by
  unfold trL
  by_cases hc : trE J id = 0
  · rw [if_pos hc]
    obtain ⟨i, rfl, hi, hl, hk⟩ := trE_zero hc
    have := (h.inv.tr i hi (liveS_ne hl) hk).fine.cnt
    simpa using this
  · rw [if_neg hc]; simp
theorem mbL_len (J : Nat → Sl) (id : Int) : (mbL J id).length ≤ 1000 := by
  unfold mbL
  split
  · have := memL_len (markP 6 J id.toNat (fun _ => false)) 49; omega
  · simp

section
variable {w : World} {t s d m rt rt' : Nat} {D B : Nat → Nat} {recs : List Rec} {J J' : Nat → Sl} {hist : Value} {F H : Nat → Prop}

set_option maxRecDepth 100000 in
set_option maxHeartbeats 1000000 in
theorem sameRead_once (h : TS w t s d D B recs J rt F) (hm : UAt w m J' rt' hist H) (hI' : Inv J') (id : Int) :
    Calls Tryz.prog 35 #[.pointer (some ⟨t, 0, none⟩), .pointer (some ⟨m, 0, none⟩), .int .i64 id, .bool true] w fun e w' => ∃ b : Bool, e = .returned (.bool b) ∧ (b = true ↔ (trL J id = trL J' id ∧ trE J id = trE J' id)) ∧ Only (fun _ => False) w w' := by
  have C1 := ((tread_any h id).mono (R' := fun e w' => ∃ v, e = .returned (.tuple #[v, .int .i64 (trE J id : Nat)]) ∧ Frs (fun w v => EntsIn w v (trL J id)) 65 w v w') (fun e w' ⟨v, p, q⟩ => ⟨v, p, frE q⟩))
  have C2 := fun (w1 : World) (hm1 : UAt w1 m J' rt' hist H) => uread_any hm1 id
  have hx1000 := (by have := trL_len h id; omega : (trL J id).length ≤ 1000)
  generalize trE J id = er at *
  generalize trE J' id = er' at *
  generalize trL J id = x at *
  generalize trL J' id = y at *
  have C1 := hide C1
  have C2 := hide C2
  go_enter Tryz.func35, Tryz.ntmps35
  go_wp2_with fail
  refine (unhide C1).mono ?_
  rintro e w1 ⟨v, rfl, f1⟩
  have o1 := f1.ho
  have F1 := hide f1
  clear C1 f1
  go_wp2_with fail
  refine (unhide C2 _ (hm.quiet o1)).mono ?_
  rintro e w2 ⟨u, rfl, hu, hub, o2⟩
  have f1i := (unhide F1).inp
  have C3 := tlsameE_any v u x y (f1i.keep o2 (fun _ _ h => h)) hu (by omega)
  have o12 := o1.trans o2 (fun _ _ h => h)
  have f1s := fun (w3 : World) (o3 : Only (fun _ => False) w2 w3) => (unhide F1).sp (fun _ => False) w3 (o2.trans o3 (fun _ _ h => h)) (fun _ _ h => h)
  have f1b := (unhide F1).hb
  have FS := hide f1s
  have FB := hide f1b
  clear C2 f1i f1s f1b hu hub
  have ero : (((er : Int) == 0) = true) ∨ (((er : Int) == 0) = false) := by cases ((er : Int) == 0) <;> simp
  by_cases hxy : x = y
  · rw [decide_eq_true hxy] at C3
    have C3 := hide C3
    have Hxy := hide hxy
    clear hxy
    have eo2 : (((er : Int) == (er' : Int)) = true) ∨ (((er : Int) == (er' : Int)) = false) := by cases ((er : Int) == (er' : Int)) <;> simp
    rcases ero with e0 | e0 <;> rcases eo2 with e2 | e2
    all_goals
      go_wp2_with fail
      refine (unhide C3).mono ?_
      rintro e w3 ⟨rfl, o3⟩
      have C4 := hide (unhide FS w3 o3)
      have o13 := o12.trans o3 (fun _ _ h => h)
      have s13 := o13.size
      go_wp2_with fail
      refine (unhide C4).mono ?_
      rintro e w4 ⟨rfl, o4⟩
      have o14 : Only (fun _ => False) w w4 := o13.trans o4 (fun i hi e => by have := unhide FB i e; omega)
      clear C4 o4
      go_wp2_with fail
      go_ret
      refine ⟨_, rfl, ?_, o14⟩
      have hxy := unhide Hxy
      clear Hxy
      try simp only [beq_iff_eq, beq_eq_false_iff_ne] at e0 e2
      try simp [hxy]
      try omega
  · rw [decide_eq_false hxy] at C3
    have C3 := hide C3
    have Hxy := hide hxy
    clear hxy
    rcases ero with e0 | e0
    all_goals
      go_wp2_with fail
      refine (unhide C3).mono ?_
      rintro e w3 ⟨rfl, o3⟩
      have C4 := hide (unhide FS w3 o3)
      have o13 := o12.trans o3 (fun _ _ h => h)
      have s13 := o13.size
      go_wp2_with fail
      refine (unhide C4).mono ?_
      rintro e w4 ⟨rfl, o4⟩
      have o14 : Only (fun _ => False) w w4 := o13.trans o4 (fun i hi e => by have := unhide FB i e; omega)
      clear C4 o4
      go_wp2_with fail
      go_ret
      refine ⟨_, rfl, ?_, o14⟩
      have hxy := unhide Hxy
      simp [hxy]

set_option maxRecDepth 100000 in
set_option maxHeartbeats 1000000 in
theorem sameMembers_once (h : TS w t s d D B recs J rt F) (hm : UAt w m J' rt' hist H) (hI' : Inv J') (id : Int) :
    Calls Tryz.prog 36 #[.pointer (some ⟨t, 0, none⟩), .pointer (some ⟨m, 0, none⟩), .int .i64 id, .bool true] w fun e w' => ∃ b : Bool, e = .returned (.bool b) ∧ (b = true ↔ (mbL J id = mbL J' id ∧ trE J id = trE J' id)) ∧ Only (fun _ => False) w w' := by
  have C1 := ((tmembers_any h id).mono (R' := fun e w' => ∃ v, e = .returned (.tuple #[v, .int .i64 (trE J id : Nat)]) ∧ Frs (fun w v => IntsIn w v (mbL J id)) 72 w v w') (fun e w' ⟨v, p, q⟩ => ⟨v, p, frI q⟩))
  have C2 := fun (w1 : World) (hm1 : UAt w1 m J' rt' hist H) => ((umembers_any hm1 hI' id).mono (R' := fun e w' => ∃ v, e = .returned (.tuple #[v, .int .i64 (trE J' id : Nat)]) ∧ IntsIn w' v (mbL J' id) ∧ (∀ y, v.ownBlock = some y → w1.heap.size ≤ y) ∧ Only (fun _ => False) w1 w') (fun e w' ⟨v, p, q⟩ => ⟨v, p, OwnI.in_ q.own, q.hb, q.ho⟩))
  have hx1000 := (mbL_len J id : (mbL J id).length ≤ 1000)
  generalize trE J id = er at *
  generalize trE J' id = er' at *
  generalize mbL J id = x at *
  generalize mbL J' id = y at *
  have C1 := hide C1
  have C2 := hide C2
  go_enter Tryz.func36, Tryz.ntmps36
  go_wp2_with fail
  refine (unhide C1).mono ?_
  rintro e w1 ⟨v, rfl, f1⟩
  have o1 := f1.ho
  have F1 := hide f1
  clear C1 f1
  go_wp2_with fail
  refine (unhide C2 _ (hm.quiet o1)).mono ?_
  rintro e w2 ⟨u, rfl, hu, hub, o2⟩
  have f1i := (unhide F1).inp
  have C3 := tlsameI_any v u x y (f1i.keep o2 (fun _ _ h => h)) hu (by omega)
  have o12 := o1.trans o2 (fun _ _ h => h)
  have f1s := fun (w3 : World) (o3 : Only (fun _ => False) w2 w3) => (unhide F1).sp (fun _ => False) w3 (o2.trans o3 (fun _ _ h => h)) (fun _ _ h => h)
  have f1b := (unhide F1).hb
  have FS := hide f1s
  have FB := hide f1b
  clear C2 f1i f1s f1b hu hub
  have ero : (((er : Int) == 0) = true) ∨ (((er : Int) == 0) = false) := by cases ((er : Int) == 0) <;> simp
  by_cases hxy : x = y
  · rw [decide_eq_true hxy] at C3
    have C3 := hide C3
    have Hxy := hide hxy
    clear hxy
    have eo2 : (((er : Int) == (er' : Int)) = true) ∨ (((er : Int) == (er' : Int)) = false) := by cases ((er : Int) == (er' : Int)) <;> simp
    rcases ero with e0 | e0 <;> rcases eo2 with e2 | e2
    all_goals
      go_wp2_with fail
      refine (unhide C3).mono ?_
      rintro e w3 ⟨rfl, o3⟩
      have C4 := hide (unhide FS w3 o3)
      have o13 := o12.trans o3 (fun _ _ h => h)
      have s13 := o13.size
      go_wp2_with fail
      refine (unhide C4).mono ?_
      rintro e w4 ⟨rfl, o4⟩
      have o14 : Only (fun _ => False) w w4 := o13.trans o4 (fun i hi e => by have := unhide FB i e; omega)
      clear C4 o4
      go_wp2_with fail
      go_ret
      refine ⟨_, rfl, ?_, o14⟩
      have hxy := unhide Hxy
      clear Hxy
      try simp only [beq_iff_eq, beq_eq_false_iff_ne] at e0 e2
      try simp [hxy]
      try omega
  · rw [decide_eq_false hxy] at C3
    have C3 := hide C3
    have Hxy := hide hxy
    clear hxy
    rcases ero with e0 | e0
    all_goals
      go_wp2_with fail
      refine (unhide C3).mono ?_
      rintro e w3 ⟨rfl, o3⟩
      have C4 := hide (unhide FS w3 o3)
      have o13 := o12.trans o3 (fun _ _ h => h)
      have s13 := o13.size
      go_wp2_with fail
      refine (unhide C4).mono ?_
      rintro e w4 ⟨rfl, o4⟩
      have o14 : Only (fun _ => False) w w4 := o13.trans o4 (fun i hi e => by have := unhide FB i e; omega)
      clear C4 o4
      go_wp2_with fail
      go_ret
      refine ⟨_, rfl, ?_, o14⟩
      have hxy := unhide Hxy
      simp [hxy]

set_option maxRecDepth 100000 in
set_option maxHeartbeats 1000000 in
theorem sameGet_once (h : TS w t s d D B recs J rt F) (hm : UAt w m J' rt' hist H) (hI' : Inv J') (id : Int) :
    Calls Tryz.prog 33 #[.pointer (some ⟨t, 0, none⟩), .pointer (some ⟨m, 0, none⟩), .int .i64 id, .bool true] w fun e w' => ∃ b : Bool, e = .returned (.bool b) ∧ (b = true ↔ (tgD J id = tgD J' id ∧ tgE J id = tgE J' id ∧ tgK J id = tgK J' id)) ∧ Only (fun _ => False) w w' := by
  have C1 := ((tget_any h id).mono (R' := fun e w' => ∃ v, e = .returned (.tuple #[.int .i64 (tgK J id : Nat), v, .int .i64 (tgE J id : Nat)]) ∧ Frs (fun w v => BytesAt w v (tgD J id).length (dF (tgD J id))) 58 w v w') (fun e w' ⟨v, p, q, r⟩ => ⟨v, p, frB q r (h.by8 id).1 (by have := (h.by8 id).2; omega)⟩))
  have C2 := fun (w1 : World) (hm1 : UAt w1 m J' rt' hist H) => uget_any hm1 id
  generalize tgK J id = k at *
  generalize tgK J' id = k' at *
  have hx1000 := (by have := (h.by8 id).2; omega : (tgD J id).length ≤ 1000)
  generalize tgE J id = er at *
  generalize tgE J' id = er' at *
  generalize tgD J id = x at *
  generalize tgD J' id = y at *
  have C1 := hide C1
  have C2 := hide C2
  go_enter Tryz.func33, Tryz.ntmps33
  go_wp2_with fail
  refine (unhide C1).mono ?_
  rintro e w1 ⟨v, rfl, f1⟩
  have o1 := f1.ho
  have F1 := hide f1
  clear C1 f1
  go_wp2_with fail
  refine (unhide C2 _ (hm.quiet o1)).mono ?_
  rintro e w2 ⟨u, rfl, hu, hub, o2⟩
  have f1i := (unhide F1).inp
  have C3 := tlsameB_any v u x y (f1i.keep o2 (fun _ _ h => h)) hu (by omega)
  have o12 := o1.trans o2 (fun _ _ h => h)
  have f1s := fun (w3 : World) (o3 : Only (fun _ => False) w2 w3) => (unhide F1).sp (fun _ => False) w3 (o2.trans o3 (fun _ _ h => h)) (fun _ _ h => h)
  have f1b := (unhide F1).hb
  have FS := hide f1s
  have FB := hide f1b
  clear C2 f1i f1s f1b hu hub
  have ero : (((er : Int) == 0) = true) ∨ (((er : Int) == 0) = false) := by cases ((er : Int) == 0) <;> simp
  by_cases hxy : x = y
  · rw [decide_eq_true hxy] at C3
    have C3 := hide C3
    have Hxy := hide hxy
    clear hxy
    have ko : (((k : Int) == (k' : Int)) = true) ∨ (((k : Int) == (k' : Int)) = false) := by cases ((k : Int) == (k' : Int)) <;> simp
    have eo2 : (((er : Int) == (er' : Int)) = true) ∨ (((er : Int) == (er' : Int)) = false) := by cases ((er : Int) == (er' : Int)) <;> simp
    rcases ero with e0 | e0 <;> rcases ko with e1 | e1 <;> rcases eo2 with e2 | e2
    all_goals
      go_wp2_with fail
      refine (unhide C3).mono ?_
      rintro e w3 ⟨rfl, o3⟩
      have C4 := hide (unhide FS w3 o3)
      have o13 := o12.trans o3 (fun _ _ h => h)
      have s13 := o13.size
      go_wp2_with fail
      refine (unhide C4).mono ?_
      rintro e w4 ⟨rfl, o4⟩
      have o14 : Only (fun _ => False) w w4 := o13.trans o4 (fun i hi e => by have := unhide FB i e; omega)
      clear C4 o4
      go_wp2_with fail
      go_ret
      refine ⟨_, rfl, ?_, o14⟩
      have hxy := unhide Hxy
      clear Hxy
      try simp only [beq_iff_eq, beq_eq_false_iff_ne] at e0 e2
      try simp only [beq_iff_eq, beq_eq_false_iff_ne] at e1
      try simp [hxy]
      try omega
  · rw [decide_eq_false hxy] at C3
    have C3 := hide C3
    have Hxy := hide hxy
    clear hxy
    rcases ero with e0 | e0
    all_goals
      go_wp2_with fail
      refine (unhide C3).mono ?_
      rintro e w3 ⟨rfl, o3⟩
      have C4 := hide (unhide FS w3 o3)
      have o13 := o12.trans o3 (fun _ _ h => h)
      have s13 := o13.size
      go_wp2_with fail
      refine (unhide C4).mono ?_
      rintro e w4 ⟨rfl, o4⟩
      have o14 : Only (fun _ => False) w w4 := o13.trans o4 (fun i hi e => by have := unhide FB i e; omega)
      clear C4 o4
      go_wp2_with fail
      go_ret
      refine ⟨_, rfl, ?_, o14⟩
      have hxy := unhide Hxy
      simp [hxy]
end
end Go.Proofs.Qxb6500421aGreat
