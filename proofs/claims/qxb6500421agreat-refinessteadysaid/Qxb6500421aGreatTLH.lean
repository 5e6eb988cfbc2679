/-
  OWN WORK. THE TREE LAW: SameGet, SameReadTree, SameMembers, taken thrice.
-/
import Derived.Test.Qxb6500421aGreatTLG
namespace Go.Proofs.Qxb6500421aGreat
open Go.RowKit Go.PlainAid
set_option linter.unusedSimpArgs false
set_option linter.unusedVariables false


section
variable {w : World} {t s d m rt rt' : Nat} {D B : Nat → Nat} {recs : List Rec} {J J' : Nat → Sl} {hist : Value} {F H : Nat → Prop}

set_option maxRecDepth 100000 in
set_option maxHeartbeats 2000000 in
theorem sameRead_thrice (h : TS w t s d D B recs J rt F) (hm : UAt w m J rt' hist H) (hI' : Inv J) (id : Int) :
    Calls Tryz.prog 35 #[.pointer (some ⟨t, 0, none⟩), .pointer (some ⟨m, 0, none⟩), .int .i64 id, .bool false] w fun e w' => e = .returned (.bool true) ∧ Only (fun _ => False) w w' := by
  have C1 := fun (w1 : World) (h1 : TS w1 t s d D B recs J rt F) => ((tread_any h1 id).mono (R' := fun e w' => ∃ v, e = .returned (.tuple #[v, .int .i64 (trE J id : Nat)]) ∧ Frs (fun w v => EntsIn w v (trL J id)) 65 w1 v w') (fun e w' ⟨v, p, q⟩ => ⟨v, p, frE q⟩))
  have C2 := fun (w1 : World) (hm1 : UAt w1 m J rt' hist H) => ((uread_any hm1 id).mono (R' := fun e w' => ∃ v, e = .returned (.tuple #[v, .int .i64 (trE J id : Nat)]) ∧ EntsIn w' v (trL J id) ∧ (∀ y, v.ownBlock = some y → w1.heap.size ≤ y ∧ y < w'.heap.size) ∧ Only (fun _ => False) w1 w') (fun e w' ⟨v, p, q, r, o⟩ => ⟨v, p, q, r, o⟩))
  have hx1000 := (by have := trL_len h id; omega : (trL J id).length ≤ 1000)
  generalize trE J id = er at *
  generalize trL J id = x at *
  have C1 := hide C1
  have C2 := hide C2
  have HT := hide h
  have HM := hide hm
  clear h hm
  have eb : ((er : Int) == (er : Int)) = true := by simp
  have eb' : ((er : Int) != (er : Int)) = false := by simp
  have C1a := hide (unhide C1 _ (unhide HT))
  go_enter Tryz.func35, Tryz.ntmps35
  go_wp2_with fail
  refine (unhide C1a).mono ?_
  rintro e w1 ⟨v1, rfl, f1⟩
  have o1 := f1.ho
  have s1 := o1.size
  have F1 := hide f1
  have C2a := hide (unhide C2 _ ((unhide HM).quiet o1))
  clear C1a f1
  go_wp2_with fail
  refine (unhide C2a).mono ?_
  rintro e w2 ⟨u, rfl, hu, hub, o2⟩
  have s2 := o2.size
  have o12 := o1.trans o2 (fun _ _ h => h)
  have HU := hide hu
  have HUB := hide hub
  clear C2a hu hub
  by_cases e0 : er = 0
  · subst e0
    have C1b := hide (unhide C1 _ ((unhide HT).quiet o12))
    go_wp2_with fail
    refine (unhide C1b).mono ?_
    rintro e w3 ⟨v2, rfl, f2⟩
    have o3 := f2.ho
    have s3 := o3.size
    have F2 := hide f2
    have o13 := o12.trans o3 (fun _ _ h => h)
    have C1c := hide (unhide C1 _ ((unhide HT).quiet o13))
    clear C1b f2
    go_wp2_with fail
    refine (unhide C1c).mono ?_
    rintro e w4 ⟨v3, rfl, f3⟩
    have o4 := f3.ho
    have s4 := o4.size
    have F3 := hide f3
    have o14 := o13.trans o4 (fun _ _ h => h)
    have k1 := (((unhide F1).inp.keep o2 (fun _ _ h => h)).keep o3 (fun _ _ h => h)).keep o4 (fun _ _ h => h)
    have ku := ((unhide HU).keep o3 (fun _ _ h => h)).keep o4 (fun _ _ h => h)
    have C5 := tlsameE_any v1 u x x k1 ku (by omega)
    rw [decide_eq_true rfl] at C5
    have C5 := hide C5
    have KU := hide ku
    have O24 := hide ((o2.trans o3 (fun _ _ h => h)).trans o4 (fun _ _ h => h))
    have B1 := hide (unhide F1).hb
    have B2 := hide (unhide F2).hb
    have B3 := hide (unhide F3).hb
    clear C1c f3 k1 ku
    go_wp2_with fail
    refine (unhide C5).mono ?_
    rintro e w5 ⟨rfl, o5⟩
    have s5 := o5.size
    have C6 := hide ((unhide F1).sp (fun _ => False) w5 ((unhide O24).trans o5 (fun _ _ h => h)) (fun _ _ h => h))
    clear C5
    go_wp2_with fail
    refine (unhide C6).mono ?_
    rintro e w6 ⟨rfl, o6⟩
    have s6 := o6.size
    have nv2 : ∀ y, v2.ownBlock = some y → ¬ v1.ownBlock = some y := fun y hy e => by have := unhide B2 y hy; have := unhide B1 y e; omega
    have nv3 : ∀ y, v3.ownBlock = some y → ¬ v1.ownBlock = some y := fun y hy e => by have := unhide B3 y hy; have := unhide B1 y e; omega
    have nu : ∀ y, u.ownBlock = some y → ¬ v1.ownBlock = some y := fun y hy e => by have := unhide HUB y hy; have := unhide B1 y e; omega
    have k2 := (((unhide F2).inp.keep o4 (fun _ _ h => h)).keep o5 (fun _ _ h => h)).keep o6 nv2
    have ku6 := ((unhide KU).keep o5 (fun _ _ h => h)).keep o6 nu
    have C7 := tlsameE_any v2 u x x k2 ku6 (by omega)
    rw [decide_eq_true rfl] at C7
    have C7 := hide C7
    have KU6 := hide ku6
    have P2 := hide (fun (w7 : World) (o7 : Only (fun _ => False) w6 w7) => (unhide F2).sp (fun y => v1.ownBlock = some y) w7 ((((o4.mono (T := fun y => v1.ownBlock = some y) (fun _ _ h => h.elim)).trans o5 (fun _ _ h => h.elim)).trans o6 (fun _ _ h => h)).trans o7 (fun _ _ h => h.elim)) nv2)
    have k3 := (((unhide F3).inp.keep o5 (fun _ _ h => h)).keep o6 nv3)
    have K3 := hide k3
    have O46 : Hid (Only (fun y => v1.ownBlock = some y) w4 w6) := hide ((o5.mono (fun _ _ h => h.elim)).trans o6 (fun _ _ h => h))
    have O06 : Hid (Only (fun _ => False) w w6) := hide ((o14.trans o5 (fun _ _ h => h)).trans o6 (fun i hi e => by have := unhide B1 i e; omega))
    clear C6 k2 ku6 k3 nv2 nu o5 o6
    go_wp2_with fail
    refine (unhide C7).mono ?_
    rintro e w7 ⟨rfl, o7⟩
    have s7 := o7.size
    have C8 := hide (unhide P2 w7 o7)
    clear C7 P2
    go_wp2_with fail
    refine (unhide C8).mono ?_
    rintro e w8 ⟨rfl, o8⟩
    have s8 := o8.size
    have nv3' : ∀ y, v3.ownBlock = some y → ¬ v2.ownBlock = some y := fun y hy e => by have := unhide B3 y hy; have := unhide B2 y e; omega
    have nu' : ∀ y, u.ownBlock = some y → ¬ v2.ownBlock = some y := fun y hy e => by
      have h1 := unhide HUB y hy
      have h2 := unhide B2 y e
      have h3 := trivial
      omega
    have k3' := ((unhide K3).keep o7 (fun _ _ h => h)).keep o8 nv3'
    have ku8 := ((unhide KU6).keep o7 (fun _ _ h => h)).keep o8 nu'
    have C9 := tlsameE_any v3 u x x k3' ku8 (by omega)
    rw [decide_eq_true rfl] at C9
    have C9 := hide C9
    have P3 := hide (fun (w9 : World) (o9 : Only (fun _ => False) w8 w9) => (unhide F3).sp (fun y => v1.ownBlock = some y ∨ v2.ownBlock = some y) w9 (((((unhide O46).mono (T := fun y => v1.ownBlock = some y ∨ v2.ownBlock = some y) (fun _ _ h => .inl h)).trans o7 (fun _ _ h => h.elim)).trans o8 (fun _ _ h => .inr h)).trans o9 (fun _ _ h => h.elim)) (fun y hy e => by
      rcases e with e | e
      · exact nv3 y hy e
      · exact nv3' y hy e))
    have O08 : Hid (Only (fun _ => False) w w8) := hide (((unhide O06).trans o7 (fun _ _ h => h)).trans o8 (fun i hi e => by have := unhide B2 i e; omega))
    clear C8 k3' ku8 nv3' nu' o7 o8
    go_wp2_with fail
    refine (unhide C9).mono ?_
    rintro e w9 ⟨rfl, o9⟩
    have s9 := o9.size
    have C10 := hide (unhide P3 w9 o9)
    clear C9 P3
    go_wp2_with fail
    refine (unhide C10).mono ?_
    rintro e w10 ⟨rfl, o10⟩
    have RR : Hid (Only (fun _ => False) w w10) := hide (((unhide O08).trans o9 (fun _ _ h => h)).trans o10 (fun i hi e => by have := unhide B3 i e; omega))
    clear C10 o10
    go_wp2_with fail
    go_ret
    exact ⟨by first | exact rfl | simp, unhide RR⟩
  · have e1 : ((er : Int) == 0) = false := ne_intO (by omega)
    have k1 := (unhide F1).inp.keep o2 (fun _ _ h => h)
    have C5 := tlsameE_any v1 u x x k1 (unhide HU) (by omega)
    rw [decide_eq_true rfl] at C5
    have C5 := hide C5
    have B1 := hide (unhide F1).hb
    clear k1
    go_wp2_with fail
    refine (unhide C5).mono ?_
    rintro e w5 ⟨rfl, o5⟩
    have C6 := hide ((unhide F1).sp (fun _ => False) w5 (o2.trans o5 (fun _ _ h => h)) (fun _ _ h => h))
    clear C5
    go_wp2_with fail
    refine (unhide C6).mono ?_
    rintro e w6 ⟨rfl, o6⟩
    have RR : Hid (Only (fun _ => False) w w6) := hide ((o12.trans o5 (fun _ _ h => h)).trans o6 (fun i hi e => by have := unhide B1 i e; omega))
    clear C6 o6
    go_wp2_with fail
    go_ret
    exact ⟨by first | exact rfl | simp, unhide RR⟩

set_option maxRecDepth 100000 in
set_option maxHeartbeats 2000000 in
theorem sameMembers_thrice (h : TS w t s d D B recs J rt F) (hm : UAt w m J rt' hist H) (hI' : Inv J) (id : Int) :
    Calls Tryz.prog 36 #[.pointer (some ⟨t, 0, none⟩), .pointer (some ⟨m, 0, none⟩), .int .i64 id, .bool false] w fun e w' => e = .returned (.bool true) ∧ Only (fun _ => False) w w' := by
  have C1 := fun (w1 : World) (h1 : TS w1 t s d D B recs J rt F) => ((tmembers_any h1 id).mono (R' := fun e w' => ∃ v, e = .returned (.tuple #[v, .int .i64 (trE J id : Nat)]) ∧ Frs (fun w v => IntsIn w v (mbL J id)) 72 w1 v w') (fun e w' ⟨v, p, q⟩ => ⟨v, p, frI q⟩))
  have C2 := fun (w1 : World) (hm1 : UAt w1 m J rt' hist H) => ((umembers_any hm1 hI' id).mono (R' := fun e w' => ∃ v, e = .returned (.tuple #[v, .int .i64 (trE J id : Nat)]) ∧ IntsIn w' v (mbL J id) ∧ (∀ y, v.ownBlock = some y → w1.heap.size ≤ y ∧ y < w'.heap.size) ∧ Only (fun _ => False) w1 w') (fun e w' ⟨v, p, q⟩ => ⟨v, p, OwnI.in_ q.own, fun y hy => ⟨q.hb y hy, ownsRow_lt q.own y hy⟩, q.ho⟩))
  have hx1000 := (mbL_len J id : (mbL J id).length ≤ 1000)
  generalize trE J id = er at *
  generalize mbL J id = x at *
  have C1 := hide C1
  have C2 := hide C2
  have HT := hide h
  have HM := hide hm
  clear h hm
  have eb : ((er : Int) == (er : Int)) = true := by simp
  have eb' : ((er : Int) != (er : Int)) = false := by simp
  have C1a := hide (unhide C1 _ (unhide HT))
  go_enter Tryz.func36, Tryz.ntmps36
  go_wp2_with fail
  refine (unhide C1a).mono ?_
  rintro e w1 ⟨v1, rfl, f1⟩
  have o1 := f1.ho
  have s1 := o1.size
  have F1 := hide f1
  have C2a := hide (unhide C2 _ ((unhide HM).quiet o1))
  clear C1a f1
  go_wp2_with fail
  refine (unhide C2a).mono ?_
  rintro e w2 ⟨u, rfl, hu, hub, o2⟩
  have s2 := o2.size
  have o12 := o1.trans o2 (fun _ _ h => h)
  have HU := hide hu
  have HUB := hide hub
  clear C2a hu hub
  by_cases e0 : er = 0
  · subst e0
    have C1b := hide (unhide C1 _ ((unhide HT).quiet o12))
    go_wp2_with fail
    refine (unhide C1b).mono ?_
    rintro e w3 ⟨v2, rfl, f2⟩
    have o3 := f2.ho
    have s3 := o3.size
    have F2 := hide f2
    have o13 := o12.trans o3 (fun _ _ h => h)
    have C1c := hide (unhide C1 _ ((unhide HT).quiet o13))
    clear C1b f2
    go_wp2_with fail
    refine (unhide C1c).mono ?_
    rintro e w4 ⟨v3, rfl, f3⟩
    have o4 := f3.ho
    have s4 := o4.size
    have F3 := hide f3
    have o14 := o13.trans o4 (fun _ _ h => h)
    have k1 := (((unhide F1).inp.keep o2 (fun _ _ h => h)).keep o3 (fun _ _ h => h)).keep o4 (fun _ _ h => h)
    have ku := ((unhide HU).keep o3 (fun _ _ h => h)).keep o4 (fun _ _ h => h)
    have C5 := tlsameI_any v1 u x x k1 ku (by omega)
    rw [decide_eq_true rfl] at C5
    have C5 := hide C5
    have KU := hide ku
    have O24 := hide ((o2.trans o3 (fun _ _ h => h)).trans o4 (fun _ _ h => h))
    have B1 := hide (unhide F1).hb
    have B2 := hide (unhide F2).hb
    have B3 := hide (unhide F3).hb
    clear C1c f3 k1 ku
    go_wp2_with fail
    refine (unhide C5).mono ?_
    rintro e w5 ⟨rfl, o5⟩
    have s5 := o5.size
    have C6 := hide ((unhide F1).sp (fun _ => False) w5 ((unhide O24).trans o5 (fun _ _ h => h)) (fun _ _ h => h))
    clear C5
    go_wp2_with fail
    refine (unhide C6).mono ?_
    rintro e w6 ⟨rfl, o6⟩
    have s6 := o6.size
    have nv2 : ∀ y, v2.ownBlock = some y → ¬ v1.ownBlock = some y := fun y hy e => by have := unhide B2 y hy; have := unhide B1 y e; omega
    have nv3 : ∀ y, v3.ownBlock = some y → ¬ v1.ownBlock = some y := fun y hy e => by have := unhide B3 y hy; have := unhide B1 y e; omega
    have nu : ∀ y, u.ownBlock = some y → ¬ v1.ownBlock = some y := fun y hy e => by have := unhide HUB y hy; have := unhide B1 y e; omega
    have k2 := (((unhide F2).inp.keep o4 (fun _ _ h => h)).keep o5 (fun _ _ h => h)).keep o6 nv2
    have ku6 := ((unhide KU).keep o5 (fun _ _ h => h)).keep o6 nu
    have C7 := tlsameI_any v2 u x x k2 ku6 (by omega)
    rw [decide_eq_true rfl] at C7
    have C7 := hide C7
    have KU6 := hide ku6
    have P2 := hide (fun (w7 : World) (o7 : Only (fun _ => False) w6 w7) => (unhide F2).sp (fun y => v1.ownBlock = some y) w7 ((((o4.mono (T := fun y => v1.ownBlock = some y) (fun _ _ h => h.elim)).trans o5 (fun _ _ h => h.elim)).trans o6 (fun _ _ h => h)).trans o7 (fun _ _ h => h.elim)) nv2)
    have k3 := (((unhide F3).inp.keep o5 (fun _ _ h => h)).keep o6 nv3)
    have K3 := hide k3
    have O46 : Hid (Only (fun y => v1.ownBlock = some y) w4 w6) := hide ((o5.mono (fun _ _ h => h.elim)).trans o6 (fun _ _ h => h))
    have O06 : Hid (Only (fun _ => False) w w6) := hide ((o14.trans o5 (fun _ _ h => h)).trans o6 (fun i hi e => by have := unhide B1 i e; omega))
    clear C6 k2 ku6 k3 nv2 nu o5 o6
    go_wp2_with fail
    refine (unhide C7).mono ?_
    rintro e w7 ⟨rfl, o7⟩
    have s7 := o7.size
    have C8 := hide (unhide P2 w7 o7)
    clear C7 P2
    go_wp2_with fail
    refine (unhide C8).mono ?_
    rintro e w8 ⟨rfl, o8⟩
    have s8 := o8.size
    have nv3' : ∀ y, v3.ownBlock = some y → ¬ v2.ownBlock = some y := fun y hy e => by have := unhide B3 y hy; have := unhide B2 y e; omega
    have nu' : ∀ y, u.ownBlock = some y → ¬ v2.ownBlock = some y := fun y hy e => by
      have h1 := unhide HUB y hy
      have h2 := unhide B2 y e
      have h3 := trivial
      omega
    have k3' := ((unhide K3).keep o7 (fun _ _ h => h)).keep o8 nv3'
    have ku8 := ((unhide KU6).keep o7 (fun _ _ h => h)).keep o8 nu'
    have C9 := tlsameI_any v3 u x x k3' ku8 (by omega)
    rw [decide_eq_true rfl] at C9
    have C9 := hide C9
    have P3 := hide (fun (w9 : World) (o9 : Only (fun _ => False) w8 w9) => (unhide F3).sp (fun y => v1.ownBlock = some y ∨ v2.ownBlock = some y) w9 (((((unhide O46).mono (T := fun y => v1.ownBlock = some y ∨ v2.ownBlock = some y) (fun _ _ h => .inl h)).trans o7 (fun _ _ h => h.elim)).trans o8 (fun _ _ h => .inr h)).trans o9 (fun _ _ h => h.elim)) (fun y hy e => by
      rcases e with e | e
      · exact nv3 y hy e
      · exact nv3' y hy e))
    have O08 : Hid (Only (fun _ => False) w w8) := hide (((unhide O06).trans o7 (fun _ _ h => h)).trans o8 (fun i hi e => by have := unhide B2 i e; omega))
    clear C8 k3' ku8 nv3' nu' o7 o8
    go_wp2_with fail
    refine (unhide C9).mono ?_
    rintro e w9 ⟨rfl, o9⟩
    have s9 := o9.size
    have C10 := hide (unhide P3 w9 o9)
    clear C9 P3
    go_wp2_with fail
    refine (unhide C10).mono ?_
    rintro e w10 ⟨rfl, o10⟩
    have RR : Hid (Only (fun _ => False) w w10) := hide (((unhide O08).trans o9 (fun _ _ h => h)).trans o10 (fun i hi e => by have := unhide B3 i e; omega))
    clear C10 o10
    go_wp2_with fail
    go_ret
    exact ⟨by first | exact rfl | simp, unhide RR⟩
  · have e1 : ((er : Int) == 0) = false := ne_intO (by omega)
    have k1 := (unhide F1).inp.keep o2 (fun _ _ h => h)
    have C5 := tlsameI_any v1 u x x k1 (unhide HU) (by omega)
    rw [decide_eq_true rfl] at C5
    have C5 := hide C5
    have B1 := hide (unhide F1).hb
    clear k1
    go_wp2_with fail
    refine (unhide C5).mono ?_
    rintro e w5 ⟨rfl, o5⟩
    have C6 := hide ((unhide F1).sp (fun _ => False) w5 (o2.trans o5 (fun _ _ h => h)) (fun _ _ h => h))
    clear C5
    go_wp2_with fail
    refine (unhide C6).mono ?_
    rintro e w6 ⟨rfl, o6⟩
    have RR : Hid (Only (fun _ => False) w w6) := hide ((o12.trans o5 (fun _ _ h => h)).trans o6 (fun i hi e => by have := unhide B1 i e; omega))
    clear C6 o6
    go_wp2_with fail
    go_ret
    exact ⟨by first | exact rfl | simp, unhide RR⟩

set_option maxRecDepth 100000 in
set_option maxHeartbeats 2000000 in
theorem sameGet_thrice (h : TS w t s d D B recs J rt F) (hm : UAt w m J rt' hist H) (hI' : Inv J) (id : Int) :
    Calls Tryz.prog 33 #[.pointer (some ⟨t, 0, none⟩), .pointer (some ⟨m, 0, none⟩), .int .i64 id, .bool false] w fun e w' => e = .returned (.bool true) ∧ Only (fun _ => False) w w' := by
  have C1 := fun (w1 : World) (h1 : TS w1 t s d D B recs J rt F) => ((tget_any h1 id).mono (R' := fun e w' => ∃ v, e = .returned (.tuple #[.int .i64 (tgK J id : Nat), v, .int .i64 (tgE J id : Nat)]) ∧ Frs (fun w v => BytesAt w v (tgD J id).length (dF (tgD J id))) 58 w1 v w') (fun e w' ⟨v, p, q, r⟩ => ⟨v, p, frB q r (h.by8 id).1 (by have := (h.by8 id).2; omega)⟩))
  have C2 := fun (w1 : World) (hm1 : UAt w1 m J rt' hist H) => ((uget_any hm1 id).mono (R' := fun e w' => ∃ v, e = .returned (.tuple #[.int .i64 (tgK J id : Nat), v, .int .i64 (tgE J id : Nat)]) ∧ BytesAt w' v (tgD J id).length (dF (tgD J id)) ∧ (∀ y, v.ownBlock = some y → w1.heap.size ≤ y ∧ y < w'.heap.size) ∧ Only (fun _ => False) w1 w') (fun e w' ⟨v, p, q, r, o⟩ => ⟨v, p, q, r, o⟩))
  have hx1000 := (by have := (h.by8 id).2; omega : (tgD J id).length ≤ 1000)
  generalize tgK J id = k at *
  generalize tgE J id = er at *
  generalize tgD J id = x at *
  have C1 := hide C1
  have C2 := hide C2
  have HT := hide h
  have HM := hide hm
  clear h hm
  have ek : ((k : Int) == (k : Int)) = true := by simp
  have ek' : ((k : Int) != (k : Int)) = false := by simp
  have eb : ((er : Int) == (er : Int)) = true := by simp
  have eb' : ((er : Int) != (er : Int)) = false := by simp
  have C1a := hide (unhide C1 _ (unhide HT))
  go_enter Tryz.func33, Tryz.ntmps33
  go_wp2_with fail
  refine (unhide C1a).mono ?_
  rintro e w1 ⟨v1, rfl, f1⟩
  have o1 := f1.ho
  have s1 := o1.size
  have F1 := hide f1
  have C2a := hide (unhide C2 _ ((unhide HM).quiet o1))
  clear C1a f1
  go_wp2_with fail
  refine (unhide C2a).mono ?_
  rintro e w2 ⟨u, rfl, hu, hub, o2⟩
  have s2 := o2.size
  have o12 := o1.trans o2 (fun _ _ h => h)
  have HU := hide hu
  have HUB := hide hub
  clear C2a hu hub
  by_cases e0 : er = 0
  · subst e0
    have C1b := hide (unhide C1 _ ((unhide HT).quiet o12))
    go_wp2_with fail
    refine (unhide C1b).mono ?_
    rintro e w3 ⟨v2, rfl, f2⟩
    have o3 := f2.ho
    have s3 := o3.size
    have F2 := hide f2
    have o13 := o12.trans o3 (fun _ _ h => h)
    have C1c := hide (unhide C1 _ ((unhide HT).quiet o13))
    clear C1b f2
    go_wp2_with fail
    refine (unhide C1c).mono ?_
    rintro e w4 ⟨v3, rfl, f3⟩
    have o4 := f3.ho
    have s4 := o4.size
    have F3 := hide f3
    have o14 := o13.trans o4 (fun _ _ h => h)
    have k1 := (((unhide F1).inp.keep o2 (fun _ _ h => h)).keep o3 (fun _ _ h => h)).keep o4 (fun _ _ h => h)
    have ku := ((unhide HU).keep o3 (fun _ _ h => h)).keep o4 (fun _ _ h => h)
    have C5 := tlsameB_any v1 u x x k1 ku (by omega)
    rw [decide_eq_true rfl] at C5
    have C5 := hide C5
    have KU := hide ku
    have O24 := hide ((o2.trans o3 (fun _ _ h => h)).trans o4 (fun _ _ h => h))
    have B1 := hide (unhide F1).hb
    have B2 := hide (unhide F2).hb
    have B3 := hide (unhide F3).hb
    clear C1c f3 k1 ku
    go_wp2_with fail
    refine (unhide C5).mono ?_
    rintro e w5 ⟨rfl, o5⟩
    have s5 := o5.size
    have C6 := hide ((unhide F1).sp (fun _ => False) w5 ((unhide O24).trans o5 (fun _ _ h => h)) (fun _ _ h => h))
    clear C5
    go_wp2_with fail
    refine (unhide C6).mono ?_
    rintro e w6 ⟨rfl, o6⟩
    have s6 := o6.size
    have nv2 : ∀ y, v2.ownBlock = some y → ¬ v1.ownBlock = some y := fun y hy e => by have := unhide B2 y hy; have := unhide B1 y e; omega
    have nv3 : ∀ y, v3.ownBlock = some y → ¬ v1.ownBlock = some y := fun y hy e => by have := unhide B3 y hy; have := unhide B1 y e; omega
    have nu : ∀ y, u.ownBlock = some y → ¬ v1.ownBlock = some y := fun y hy e => by have := unhide HUB y hy; have := unhide B1 y e; omega
    have k2 := (((unhide F2).inp.keep o4 (fun _ _ h => h)).keep o5 (fun _ _ h => h)).keep o6 nv2
    have ku6 := ((unhide KU).keep o5 (fun _ _ h => h)).keep o6 nu
    have C7 := tlsameB_any v2 u x x k2 ku6 (by omega)
    rw [decide_eq_true rfl] at C7
    have C7 := hide C7
    have KU6 := hide ku6
    have P2 := hide (fun (w7 : World) (o7 : Only (fun _ => False) w6 w7) => (unhide F2).sp (fun y => v1.ownBlock = some y) w7 ((((o4.mono (T := fun y => v1.ownBlock = some y) (fun _ _ h => h.elim)).trans o5 (fun _ _ h => h.elim)).trans o6 (fun _ _ h => h)).trans o7 (fun _ _ h => h.elim)) nv2)
    have k3 := (((unhide F3).inp.keep o5 (fun _ _ h => h)).keep o6 nv3)
    have K3 := hide k3
    have O46 : Hid (Only (fun y => v1.ownBlock = some y) w4 w6) := hide ((o5.mono (fun _ _ h => h.elim)).trans o6 (fun _ _ h => h))
    have O06 : Hid (Only (fun _ => False) w w6) := hide ((o14.trans o5 (fun _ _ h => h)).trans o6 (fun i hi e => by have := unhide B1 i e; omega))
    clear C6 k2 ku6 k3 nv2 nu o5 o6
    go_wp2_with fail
    refine (unhide C7).mono ?_
    rintro e w7 ⟨rfl, o7⟩
    have s7 := o7.size
    have C8 := hide (unhide P2 w7 o7)
    clear C7 P2
    go_wp2_with fail
    refine (unhide C8).mono ?_
    rintro e w8 ⟨rfl, o8⟩
    have s8 := o8.size
    have nv3' : ∀ y, v3.ownBlock = some y → ¬ v2.ownBlock = some y := fun y hy e => by have := unhide B3 y hy; have := unhide B2 y e; omega
    have nu' : ∀ y, u.ownBlock = some y → ¬ v2.ownBlock = some y := fun y hy e => by
      have h1 := unhide HUB y hy
      have h2 := unhide B2 y e
      have h3 := trivial
      omega
    have k3' := ((unhide K3).keep o7 (fun _ _ h => h)).keep o8 nv3'
    have ku8 := ((unhide KU6).keep o7 (fun _ _ h => h)).keep o8 nu'
    have C9 := tlsameB_any v3 u x x k3' ku8 (by omega)
    rw [decide_eq_true rfl] at C9
    have C9 := hide C9
    have P3 := hide (fun (w9 : World) (o9 : Only (fun _ => False) w8 w9) => (unhide F3).sp (fun y => v1.ownBlock = some y ∨ v2.ownBlock = some y) w9 (((((unhide O46).mono (T := fun y => v1.ownBlock = some y ∨ v2.ownBlock = some y) (fun _ _ h => .inl h)).trans o7 (fun _ _ h => h.elim)).trans o8 (fun _ _ h => .inr h)).trans o9 (fun _ _ h => h.elim)) (fun y hy e => by
      rcases e with e | e
      · exact nv3 y hy e
      · exact nv3' y hy e))
    have O08 : Hid (Only (fun _ => False) w w8) := hide (((unhide O06).trans o7 (fun _ _ h => h)).trans o8 (fun i hi e => by have := unhide B2 i e; omega))
    clear C8 k3' ku8 nv3' nu' o7 o8
    go_wp2_with fail
    refine (unhide C9).mono ?_
    rintro e w9 ⟨rfl, o9⟩
    have s9 := o9.size
    have C10 := hide (unhide P3 w9 o9)
    clear C9 P3
    go_wp2_with fail
    refine (unhide C10).mono ?_
    rintro e w10 ⟨rfl, o10⟩
    have RR : Hid (Only (fun _ => False) w w10) := hide (((unhide O08).trans o9 (fun _ _ h => h)).trans o10 (fun i hi e => by have := unhide B3 i e; omega))
    clear C10 o10
    go_wp2_with fail
    go_ret
    exact ⟨by first | exact rfl | simp, unhide RR⟩
  · have e1 : ((er : Int) == 0) = false := ne_intO (by omega)
    have k1 := (unhide F1).inp.keep o2 (fun _ _ h => h)
    have C5 := tlsameB_any v1 u x x k1 (unhide HU) (by omega)
    rw [decide_eq_true rfl] at C5
    have C5 := hide C5
    have B1 := hide (unhide F1).hb
    clear k1
    go_wp2_with fail
    refine (unhide C5).mono ?_
    rintro e w5 ⟨rfl, o5⟩
    have C6 := hide ((unhide F1).sp (fun _ => False) w5 (o2.trans o5 (fun _ _ h => h)) (fun _ _ h => h))
    clear C5
    go_wp2_with fail
    refine (unhide C6).mono ?_
    rintro e w6 ⟨rfl, o6⟩
    have RR : Hid (Only (fun _ => False) w w6) := hide ((o12.trans o5 (fun _ _ h => h)).trans o6 (fun i hi e => by have := unhide B1 i e; omega))
    clear C6 o6
    go_wp2_with fail
    go_ret
    exact ⟨by first | exact rfl | simp, unhide RR⟩
end
end Go.Proofs.Qxb6500421aGreat
