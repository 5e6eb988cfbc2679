/-
  OWN WORK. THE TREE LAW: AlikeAt, Alike.
-/
import Derived.Test.Qxb6500421aGreatTLH
import Derived.Test.Qxb6500421aGreatTLJ
import Derived.Test.Qxb6500421aGreatTChk
namespace Go.Proofs.Qxb6500421aGreat
open Go.RowKit Go.PlainAid
set_option linter.unusedSimpArgs false
set_option linter.unusedVariables false

/-- What the observers show of one id. -/
structure At (J J' : Nat → Sl) (id : Int) : Prop where
  d : tgD J id = tgD J' id
  e : tgE J id = tgE J' id
  k : tgK J id = tgK J' id
  l : trL J id = trL J' id
  r : trE J id = trE J' id
  m : mbL J id = mbL J' id
theorem At.refl (J : Nat → Sl) (id : Int) : At J J id := ⟨rfl, rfl, rfl, rfl, rfl, rfl⟩
section
variable {w : World} {t s d m rt rt' : Nat} {D B : Nat → Nat} {recs : List Rec} {J J' : Nat → Sl} {hist : Value} {F H : Nat → Prop}
theorem alikeAt_any (h : TS w t s d D B recs J rt F) (hm : UAt w m J' rt' hist H) (hI' : Inv J') (id : Int) :
    Calls Tryz.prog 28 #[.pointer (some ⟨t, 0, none⟩), .pointer (some ⟨m, 0, none⟩), .int .i64 id] w fun e w' => ∃ b : Bool, e = .returned (.bool b) ∧ (b = true ↔ At J J' id) ∧ Only (fun _ => False) w w' := by
  have C1 := hide (sameGet_once h hm hI' id)
  have C2 := hide (fun (w1 : World) (o : Only (fun _ => False) w w1) => sameRead_once (h.quiet o) (hm.quiet o) hI' id)
  have C3 := hide (fun (w1 : World) (o : Only (fun _ => False) w w1) => sameMembers_once (h.quiet o) (hm.quiet o) hI' id)
  clear h hm
  go_enter Tryz.func28, Tryz.ntmps28
  go_wp2_with fail
  refine (unhide C1).mono ?_
  rintro e w1 ⟨b1, rfl, hb1, o1⟩
  have Hb1 := hide hb1
  clear C1 hb1
  cases b1 with
  | false =>
    go_wp2_with fail
    go_ret
    refine ⟨false, rfl, ⟨fun e => (by cases e), fun a => ?_⟩, o1⟩
    exact (unhide Hb1).2 ⟨a.d, a.e, a.k⟩
  | true =>
    have C2a := hide (unhide C2 w1 o1)
    go_wp2_with fail
    refine (unhide C2a).mono ?_
    rintro e w2 ⟨b2, rfl, hb2, o2⟩
    have Hb2 := hide hb2
    have o12 := o1.trans o2 (fun _ _ h => h)
    clear C2a hb2
    cases b2 with
    | false =>
      go_wp2_with fail
      go_ret
      refine ⟨false, rfl, ⟨fun e => (by cases e), fun a => ?_⟩, o12⟩
      exact (unhide Hb2).2 ⟨a.l, a.r⟩
    | true =>
      have C3a := hide (unhide C3 w2 o12)
      go_wp2_with fail
      refine (unhide C3a).mono ?_
      rintro e w3 ⟨b3, rfl, hb3, o3⟩
      have Hb3 := hide hb3
      have o13 := o12.trans o3 (fun _ _ h => h)
      clear C3a hb3
      go_wp2_with fail
      go_ret
      refine ⟨b3, rfl, ⟨fun e => ?_, fun a => (unhide Hb3).2 ⟨a.m, a.r⟩⟩, o13⟩
      have x1 := (unhide Hb1).1 (by first | exact rfl | trivial)
      have x2 := (unhide Hb2).1 (by first | exact rfl | trivial)
      have x3 := (unhide Hb3).1 e
      exact ⟨x1.1, x1.2.1, x1.2.2, x2.1, x2.2, x3.1⟩
/-- All that Alike looks at. -/
def Allike (J J' : Nat → Sl) (rt rt' : Nat) : Prop := rt = rt' ∧ frJ J = frJ J' ∧ ∀ id : Int, -1 ≤ id → id ≤ 49 → At J J' id
theorem Allike.refl (J : Nat → Sl) (rt : Nat) : Allike J J rt rt := ⟨rfl, rfl, fun _ _ _ => At.refl J _⟩
theorem Allike.view (h : Allike J J' rt rt') : View2 J J' := by
  have key : ∀ i : Nat, In i → At J J' (i : Int) := fun i hi => h.2.2 i (by have := hi.1; omega) (by have := hi.2; omega)
  exact ⟨fun i hi => (key i hi).k, fun i hi => (key i hi).d, fun i hi => (key i hi).e, fun i hi => (key i hi).l⟩
set_option maxRecDepth 100000 in
theorem talike_any (h : TS w t s d D B recs J rt F) (hm : UAt w m J' rt' hist H) (hI' : Inv J') :
    Calls Tryz.prog 14 #[.pointer (some ⟨t, 0, none⟩), .pointer (some ⟨m, 0, none⟩)] w fun e w' => ∃ b : Bool, e = .returned (.bool b) ∧ (b = true ↔ Allike J J' rt rt') ∧ Only (fun _ => False) w w' := by
  have C1 := tlRoot_any h hm
  have C2 := tlFree_any h hm
  have HT := hide h
  have HM := hide hm
  clear h hm
  unfold Allike
  generalize frJ J = c1 at *
  generalize frJ J' = c2 at *
  have C2 := hide C2
  by_cases hr : rt = rt'
  · have e1 : ((rt : Int) == (rt' : Int)) = true := by rw [hr]; simp
    rw [e1] at C1
    have C1 := hide C1
    by_cases hc : c1 = c2
    · have e2 : ((c1 : Int) == (c2 : Int)) = true := by rw [hc]; simp
      rw [e2] at C2
      have Hr := hide hr
      have Hc := hide hc
      clear hr hc
      go_enter Tryz.func14, Tryz.ntmps14
      go_wp2_with fail
      refine (unhide C1).mono ?_
      rintro e w1 ⟨rfl, rfl⟩
      go_wp2_with fail
      refine (unhide C2).mono ?_
      rintro e w1 ⟨rfl, rfl⟩
      go_wp2_with fail
      go_loopw [5] (fun iv wr => ∃ tt : Nat, tt ≤ 51 ∧ iv = .int .i64 ((tt : Int) - 1) ∧ (∀ id : Int, -1 ≤ id → id < (tt : Int) - 1 → At J J' id) ∧ Only (fun _ => False) w wr) (fun iv _ => (50 - intOf iv).toNat)
      case atStart => exact ⟨0, by omega, rfl, fun id h1 h2 => by omega, Only.refl _ _⟩
      case round =>
        obtain ⟨tt, ht, rfl, hall, ho⟩ := hrel
        have Hall := hide hall
        clear hall
        by_cases ht5 : tt < 51
        · have a1 : decide ((tt : Int) - 1 ≤ 49) = true := by simp; omega
          have C3 := hide (alikeAt_any ((unhide HT).quiet ho) ((unhide HM).quiet ho) hI' ((tt : Int) - 1))
          go_wp2_with fail
          refine (unhide C3).mono ?_
          rintro e w1 ⟨b, rfl, hb, ho1⟩
          have Hb := hide hb
          clear hb C3
          cases b with
          | true =>
            go_wp2_with fail
            go_roundw
            case rel =>
              refine ⟨tt + 1, by omega, by go_num, fun id h1 h2 => ?_, ho.trans ho1 (fun _ _ h => h)⟩
              by_cases e : id = (tt : Int) - 1
              · subst e; exact (unhide Hb).1 (by first | exact rfl | trivial)
              · exact unhide Hall id h1 (by omega)
            case measure => simp [intOf]; omega
          | false =>
            go_wp2_with fail
            go_ret
            refine ⟨false, rfl, ⟨fun h => (by cases h), fun ⟨_, _, hv⟩ => ?_⟩, ho.trans ho1 (fun _ _ h => h)⟩
            exact (unhide Hb).2 (hv ((tt : Int) - 1) (by omega) (by omega))
        · obtain rfl : tt = 51 := by omega
          have C4 := hide (tcheck_any ((unhide HT).quiet ho))
          go_wp2_with fail
          refine (unhide C4).mono ?_
          rintro e w1 ⟨rfl, ho1⟩
          go_wp2_with fail
          go_ret
          exact ⟨true, rfl, ⟨fun _ => ⟨unhide Hr, unhide Hc, fun id h1 h2 => unhide Hall id h1 (by omega)⟩, fun _ => rfl⟩, ho.trans ho1 (fun _ _ h => h)⟩
    · have e2 : ((c1 : Int) == (c2 : Int)) = false := by simp; omega
      rw [e2] at C2
      have Hc := hide hc
      clear hr hc
      go_enter Tryz.func14, Tryz.ntmps14
      go_wp2_with fail
      refine (unhide C1).mono ?_
      rintro e w1 ⟨rfl, rfl⟩
      go_wp2_with fail
      refine (unhide C2).mono ?_
      rintro e w1 ⟨rfl, rfl⟩
      go_wp2_with fail
      go_ret
      exact ⟨false, rfl, ⟨fun h => (by cases h), fun ⟨_, h2, _⟩ => absurd h2 (unhide Hc)⟩, Only.refl _ _⟩
  · have e1 : ((rt : Int) == (rt' : Int)) = false := by simp; omega
    rw [e1] at C1
    have C1 := hide C1
    have Hr := hide hr
    clear hr
    go_enter Tryz.func14, Tryz.ntmps14
    go_wp2_with fail
    refine (unhide C1).mono ?_
    rintro e w1 ⟨rfl, rfl⟩
    go_wp2_with fail
    go_ret
    exact ⟨false, rfl, ⟨fun h => (by cases h), fun ⟨h2, _, _⟩ => absurd h2 (unhide Hr)⟩, Only.refl _ _⟩
end
end Go.Proofs.Qxb6500421aGreat
