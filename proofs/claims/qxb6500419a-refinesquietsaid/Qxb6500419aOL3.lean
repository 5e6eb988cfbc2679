/-
  OWN WORK. THE OBJECT LAW: SameGet, Alike.
-/
import Derived.Test.Qxb6500419aOL2
namespace Go.Proofs.Qxb6500419a
open Go.RowKit
set_option linter.unusedSimpArgs false
set_option linter.unusedVariables false

section
variable {w : World} {s d m : Nat} {D B : Nat → Nat} {recs : List Rec} {ob ob' : Nat → Ob} {rt rt' : Nat} {hist : Value} {F H : Nat → Prop}

def sgB (ob ob' : Nat → Ob) (id : Int) : Bool := ((gk ob id : Int) == (gk ob' id : Int)) && (((ge ob id : Int) == (ge ob' id : Int)) && decide (gd ob id = gd ob' id))
theorem sgB_self (ob : Nat → Ob) (id : Int) : sgB ob ob id = true := by simp [sgB]
theorem ge_or (ob : Nat → Ob) (id : Int) : ge ob id = 0 ∨ ge ob id = 6 := by unfold ge; split <;> simp
theorem sgB_iff (ob ob' : Nat → Ob) (id : Int) : sgB ob ob' id = true ↔ (liveI ob id = liveI ob' id ∧ (liveI ob id = true → (ob id.toNat).kd = (ob' id.toNat).kd ∧ (ob id.toNat).dat = (ob' id.toNat).dat)) := by
  unfold sgB gk ge gd
  cases h1 : liveI ob id <;> cases h2 : liveI ob' id <;> simp <;> omega
theorem view_iff (ob ob' : Nat → Ob) : View ob ob' ↔ ∀ id : Int, -1 ≤ id → id ≤ 49 → sgB ob ob' id = true := by
  constructor
  · intro h id h1 h2
    rw [sgB_iff]
    by_cases hh : 1 ≤ id ∧ id ≤ 48
    · obtain ⟨i, rfl⟩ : ∃ i : Nat, id = i := ⟨id.toNat, by omega⟩
      have hi : In i := ⟨by omega, by omega⟩
      rw [liveI_nat ob i hi, liveI_nat ob' i hi]
      exact h i hi
    · rw [liveI_out ob id hh, liveI_out ob' id hh]
      exact ⟨rfl, fun h => by cases h⟩
  · intro h i hi
    have h1 := hi.1
    have h2 := hi.2
    have := (sgB_iff ob ob' i).1 (h i (by omega) (by omega))
    rw [liveI_nat ob i hi, liveI_nat ob' i hi] at this
    exact this

set_option maxRecDepth 100000 in
set_option maxHeartbeats 1000000 in
theorem sameGet_once (h : OS w s d D B recs ob rt F) (hm : MAt w m ob' rt' hist H) (id : Int) :
    Calls Try.prog 30 #[.pointer (some ⟨s, 0, none⟩), .pointer (some ⟨m, 0, none⟩), .int .i64 id, .bool true] w fun e w' => e = .returned (.bool (sgB ob ob' id)) ∧ Only (fun _ => False) w w' := by
  have C1 := oget_all h id
  have C2 := fun (w1 : World) (hm1 : MAt w1 m ob' rt' hist H) => mget_all hm1 id
  have hge := ge_or ob id
  unfold sgB
  generalize gk ob id = k at *
  generalize ge ob id = er at *
  generalize gd ob id = x at *
  generalize gk ob' id = l at *
  generalize ge ob' id = fr at *
  generalize gd ob' id = y at *
  have C1 := hide C1
  have C2 := hide C2
  have Hge := hide hge
  clear hge
  generalize hbe : decide (x = y) = b
  have Hbe := hide hbe
  clear hbe
  go_enter Try.func30, Try.ntmps30
  go_wp2_with fail
  refine (unhide C1).mono ?_
  rintro e w1 ⟨v, rfl, hb1, h180, hsc, hown, ho1⟩
  have s1 := ho1.size
  clear C1
  go_wp2_with fail
  refine (unhide C2 _ (hm.quiet ho1)).mono ?_
  rintro e w2 ⟨u, rfl, hb2, hown2, ho2⟩
  have s2 := ho2.size
  have C3 := lsame_any v u x y (hb1.keep ho2 (fun _ _ h => h)) hb2 (by omega)
  rw [unhide Hbe] at C3
  have C3 := hide C3
  have Hsc := hide hsc
  clear C2 hb1 hb2 hsc
  go_wp2_with fail
  refine (unhide C3).mono ?_
  rintro e w3 ⟨rfl, ho3⟩
  have s3 := ho3.size
  have o3 := (ho1.trans ho2 (fun _ _ h => h)).trans ho3 (fun _ _ h => h)
  clear C3
  rcases unhide Hge with he | he
  · subst he
    obtain ⟨g, n, rfl, hu, hn, hg, hgl⟩ := unhide Hsc (by first | exact rfl | trivial)
    have C4 := hide (scribble_any (n := n) ((hu.keep ho2 (fun h => h)).keep ho3 (fun h => h)) (Nat.le_refl _) (by omega))
    clear hu Hsc Hge
    go_wp2_with fail
    refine (unhide C4).mono ?_
    rintro e w4 ⟨rfl, ho4⟩
    have o4 : Only (fun _ => False) w w4 := o3.trans ho4 (fun i hi e => by omega)
    clear C4
    by_cases hkl : ((k : Int) == (l : Int)) = true
    · by_cases hef : ((0 : Int) == (fr : Int)) = true
      · go_wp2_with fail
        go_ret
        exact ⟨by first | exact rfl | (simp only [hkl, hef]; rfl) | simp_all, o4⟩
      · have hef' : ((0 : Int) == (fr : Int)) = false := by simpa using hef
        clear hef
        go_wp2_with fail
        go_ret
        exact ⟨by first | exact rfl | (simp only [hkl, hef']; rfl) | simp_all, o4⟩
    · have hkl' : ((k : Int) == (l : Int)) = false := by simpa using hkl
      clear hkl
      go_wp2_with fail
      go_ret
      exact ⟨by first | exact rfl | (simp only [hkl']; rfl) | simp_all, o4⟩
  · subst he
    clear Hsc Hge
    by_cases hkl : ((k : Int) == (l : Int)) = true
    · by_cases hef : ((6 : Int) == (fr : Int)) = true
      · go_wp2_with fail
        go_ret
        exact ⟨by first | exact rfl | (simp only [hkl, hef]; rfl) | simp_all, o3⟩
      · have hef' : ((6 : Int) == (fr : Int)) = false := by simpa using hef
        clear hef
        go_wp2_with fail
        go_ret
        exact ⟨by first | exact rfl | (simp only [hkl, hef']; rfl) | simp_all, o3⟩
    · have hkl' : ((k : Int) == (l : Int)) = false := by simpa using hkl
      clear hkl
      go_wp2_with fail
      go_ret
      exact ⟨by first | exact rfl | (simp only [hkl']; rfl) | simp_all, o3⟩

set_option maxRecDepth 100000 in
set_option maxHeartbeats 1000000 in
theorem sameGet_thrice (h : OS w s d D B recs ob rt F) (hm : MAt w m ob rt' hist H) (id : Int) :
    Calls Try.prog 30 #[.pointer (some ⟨s, 0, none⟩), .pointer (some ⟨m, 0, none⟩), .int .i64 id, .bool false] w fun e w' => e = .returned (.bool true) ∧ Only (fun _ => False) w w' := by
  have C1 := fun (w1 : World) (h1 : OS w1 s d D B recs ob rt F) => oget_all h1 id
  have C2 := fun (w1 : World) (hm1 : MAt w1 m ob rt' hist H) => mget_all hm1 id
  have hge := ge_or ob id
  generalize gk ob id = k at *
  generalize ge ob id = er at *
  generalize gd ob id = x at *
  have C1 := hide C1
  have C2 := hide C2
  have Hge := hide hge
  have ek : ((k : Int) == (k : Int)) = true := by simp
  have ek' : ((k : Int) != (k : Int)) = false := by simp
  have eb : ((er : Int) == (er : Int)) = true := by simp
  have eb' : ((er : Int) != (er : Int)) = false := by simp
  clear hge
  go_enter Try.func30, Try.ntmps30
  go_wp2_with fail
  refine (unhide C1 _ h).mono ?_
  rintro e w1 ⟨v, rfl, hb1, h180, hsc, hown, ho1⟩
  have s1 := ho1.size
  go_wp2_with fail
  refine (unhide C2 _ (hm.quiet ho1)).mono ?_
  rintro e w2 ⟨u, rfl, hb2, hown2, ho2⟩
  have s2 := ho2.size
  have C3 := lsame_any v u x x (hb1.keep ho2 (fun _ _ h => h)) hb2 (by omega)
  rw [show decide (x = x) = true by simp] at C3
  have C3 := hide C3
  have Hsc := hide hsc
  have HB2 := hide hb2
  clear hb1 hb2 hsc
  go_wp2_with fail
  refine (unhide C3).mono ?_
  rintro e w3 ⟨rfl, ho3⟩
  have s3 := ho3.size
  have o3 := (ho1.trans ho2 (fun _ _ h => h)).trans ho3 (fun _ _ h => h)
  clear C3
  rcases unhide Hge with he | he
  · subst he
    obtain ⟨g, n, rfl, hu, hn, hg, hgl⟩ := unhide Hsc (by first | exact rfl | trivial)
    have C4 := hide (unhide C1 _ (h.quiet o3))
    clear Hsc Hge
    go_wp2_with fail
    refine (unhide C4).mono ?_
    rintro e w4 ⟨v2, rfl, hb4, _, hsc4, hown4, ho4⟩
    have s4 := ho4.size
    obtain ⟨g4, n4, rfl, hu4, hn4, hg4, hgl4⟩ := hsc4 (by first | exact rfl | trivial)
    have o4 := o3.trans ho4 (fun _ _ h => h)
    have C5 := hide (unhide C1 _ (h.quiet o4))
    clear C4 hsc4
    go_wp2_with fail
    refine (unhide C5).mono ?_
    rintro e w5 ⟨v3, rfl, hb5, _, hsc5, hown5, ho5⟩
    have s5 := ho5.size
    obtain ⟨g5, n5, rfl, hu5, hn5, hg5, hgl5⟩ := hsc5 (by first | exact rfl | trivial)
    have o5 := o4.trans ho5 (fun _ _ h => h)
    have HU4 := hide (hu4.keep ho5 (fun h => h))
    have HB4 := hide (hb4.keep ho5 (fun _ _ h => h))
    have HU5 := hide hu5
    have HB5 := hide hb5
    have HBu := hide ((((unhide HB2).keep ho3 (fun _ _ h => h)).keep ho4 (fun _ _ h => h)).keep ho5 (fun _ _ h => h))
    have C6 := hide (scribble_any (n := n) ((((hu.keep ho2 (fun h => h)).keep ho3 (fun h => h)).keep ho4 (fun h => h)).keep ho5 (fun h => h)) (Nat.le_refl _) (by omega))
    clear C5 hsc5 hu4 hb4 hu5 hb5 hu HB2
    go_wp2_with fail
    refine (unhide C6).mono ?_
    rintro e w6 ⟨rfl, ho6⟩
    have s6 := ho6.size
    have hv4 : ∀ y, (Value.slice (some ⟨g4, 0, none⟩) n4 n4).ownBlock = some y → ¬ y = g := fun y hy e => by have := hown4 y hy; omega
    have hv5 : ∀ y, (Value.slice (some ⟨g5, 0, none⟩) n5 n5).ownBlock = some y → ¬ y = g := fun y hy e => by have := hown5 y hy; omega
    have hvu : ∀ y, u.ownBlock = some y → ¬ y = g := fun y hy e => by have := hown2 y hy; omega
    have B4 := (unhide HB4).keep ho6 hv4
    have B5 := (unhide HB5).keep ho6 hv5
    have Bu := (unhide HBu).keep ho6 hvu
    have U4 := (unhide HU4).keep ho6 (by omega)
    have U5 := (unhide HU5).keep ho6 (by omega)
    have C7 := lsame_any (.slice (some ⟨g4, 0, none⟩) n4 n4) u x x B4 Bu (by omega)
    rw [show decide (x = x) = true by simp] at C7
    have C7 := hide C7
    have HU4 := hide U4
    have HU5 := hide U5
    have HB5 := hide B5
    have HBu := hide Bu
    clear C6 B4 B5 Bu U4 U5 HB4
    go_wp2_with fail
    refine (unhide C7).mono ?_
    rintro e w7 ⟨rfl, ho7⟩
    have s7 := ho7.size
    have C8 := hide (scribble_any (n := n4) ((unhide HU4).keep ho7 (fun h => h)) (Nat.le_refl _) (by omega))
    clear C7 HU4
    go_wp2_with fail
    refine (unhide C8).mono ?_
    rintro e w8 ⟨rfl, ho8⟩
    have s8 := ho8.size
    have C9 := lsame_any (.slice (some ⟨g5, 0, none⟩) n5 n5) u x x (((unhide HB5).keep ho7 (fun _ _ h => h)).keep ho8 (fun y hy e => by have := hown5 y hy; omega)) (((unhide HBu).keep ho7 (fun _ _ h => h)).keep ho8 (fun y hy e => by
      have := hown2 y hy
      omega)) (by omega)
    rw [show decide (x = x) = true by simp] at C9
    have C9 := hide C9
    have HU5 := hide (((unhide HU5).keep ho7 (fun h => h)).keep ho8 (by omega))
    clear C8 HB5 HBu
    go_wp2_with fail
    refine (unhide C9).mono ?_
    rintro e w9 ⟨rfl, ho9⟩
    have s9 := ho9.size
    have C10 := hide (scribble_any (n := n5) ((unhide HU5).keep ho9 (fun h => h)) (Nat.le_refl _) (by omega))
    clear C9 HU5
    go_wp2_with fail
    refine (unhide C10).mono ?_
    rintro e w10 ⟨rfl, ho10⟩
    clear C10
    go_wp2_with fail
    go_ret
    refine ⟨rfl, ?_⟩
    have o6 := o5.trans ho6 (fun i hi e => by omega)
    have o7 := o6.trans ho7 (fun _ _ h => h)
    have o8 := o7.trans ho8 (fun i hi e => by omega)
    have o9 := o8.trans ho9 (fun _ _ h => h)
    exact o9.trans ho10 (fun i hi e => by omega)
  · subst he
    clear Hsc Hge
    go_wp2_with fail
    go_ret
    exact ⟨rfl, o3⟩

set_option maxRecDepth 100000 in
theorem alike_any (h : OS w s d D B recs ob rt F) (hm : MAt w m ob' rt' hist H) :
    Calls Try.prog 23 #[.pointer (some ⟨s, 0, none⟩), .pointer (some ⟨m, 0, none⟩)] w fun e w' => ∃ b, e = .returned (.bool b) ∧ (b = true ↔ (rt = rt' ∧ cntF ob = cntF ob' ∧ View ob ob')) ∧ Only (fun _ => False) w w' := by
  have C1 := hide (sameRoot_any h hm)
  have C2 := sameFree_any h hm
  have hV := view_iff ob ob'
  generalize cntF ob = c1 at *
  generalize cntF ob' = c2 at *
  have C2 := hide C2
  have HV := hide hV
  clear hV
  by_cases hr : rt = rt'
  · have e1 : ((rt : Int) == (rt' : Int)) = true := by rw [hr]; simp
    rw [e1] at C1
    by_cases hc : c1 = c2
    · have e2 : ((c1 : Int) == (c2 : Int)) = true := by rw [hc]; simp
      rw [e2] at C2
      have Hr := hide hr
      have Hc := hide hc
      clear hr hc
      go_enter Try.func23, Try.ntmps23
      go_wp2_with fail
      refine (unhide C1).mono ?_
      rintro e w1 ⟨rfl, rfl⟩
      go_wp2_with fail
      refine (unhide C2).mono ?_
      rintro e w1 ⟨rfl, rfl⟩
      go_wp2_with fail
      go_loopw [5] (fun iv wr => ∃ t : Nat, t ≤ 51 ∧ iv = .int .i64 ((t : Int) - 1) ∧ (∀ id : Int, -1 ≤ id → id < (t : Int) - 1 → sgB ob ob' id = true) ∧ Only (fun _ => False) w wr) (fun iv _ => (50 - intOf iv).toNat)
      case atStart => exact ⟨0, by omega, rfl, fun id h1 h2 => by omega, Only.refl _ _⟩
      case round =>
        obtain ⟨t, ht, rfl, hall, ho⟩ := hrel
        have Hall := hide hall
        clear hall
        by_cases ht5 : t < 51
        · have a1 : decide ((t : Int) - 1 ≤ 49) = true := by simp; omega
          have C3 := sameGet_once (h.quiet ho) (hm.quiet ho) ((t : Int) - 1)
          cases hb : sgB ob ob' ((t : Int) - 1) with
          | true =>
            rw [hb] at C3
            have C3 := hide C3
            have Hb := hide hb
            clear hb
            go_wp2_with fail
            refine (unhide C3).mono ?_
            rintro e w1 ⟨rfl, ho1⟩
            go_wp2_with fail
            go_roundw
            case rel =>
              refine ⟨t + 1, by omega, by go_num, fun id h1 h2 => ?_, ho.trans ho1 (fun _ _ h => h)⟩
              by_cases e : id = (t : Int) - 1
              · subst e; exact unhide Hb
              · exact unhide Hall id h1 (by omega)
            case measure => simp [intOf]; omega
          | false =>
            rw [hb] at C3
            have C3 := hide C3
            have Hb := hide hb
            clear hb
            go_wp2_with fail
            refine (unhide C3).mono ?_
            rintro e w1 ⟨rfl, ho1⟩
            go_wp2_with fail
            go_ret
            refine ⟨_, rfl, ⟨fun h => (by cases h), fun ⟨_, _, hv⟩ => ?_⟩, ho.trans ho1 (fun _ _ h => h)⟩
            have := (unhide HV).1 hv ((t : Int) - 1) (by omega) (by omega)
            rw [unhide Hb] at this
            exact this
        · obtain rfl : t = 51 := by omega
          go_wp2_with fail
          go_ret
          exact ⟨_, rfl, ⟨fun _ => ⟨unhide Hr, unhide Hc, (unhide HV).2 (fun id h1 h2 => unhide Hall id h1 (by omega))⟩, fun _ => rfl⟩, ho⟩
    · have e2 : ((c1 : Int) == (c2 : Int)) = false := by simp; omega
      rw [e2] at C2
      have Hc := hide hc
      clear hr hc
      go_enter Try.func23, Try.ntmps23
      go_wp2_with fail
      refine (unhide C1).mono ?_
      rintro e w1 ⟨rfl, rfl⟩
      go_wp2_with fail
      refine (unhide C2).mono ?_
      rintro e w1 ⟨rfl, rfl⟩
      go_wp2_with fail
      go_ret
      exact ⟨_, rfl, ⟨fun h => (by cases h), fun ⟨_, h2, _⟩ => absurd h2 (unhide Hc)⟩, Only.refl _ _⟩
  · have e1 : ((rt : Int) == (rt' : Int)) = false := by simp; omega
    rw [e1] at C1
    have Hr := hide hr
    clear hr
    go_enter Try.func23, Try.ntmps23
    go_wp2_with fail
    refine (unhide C1).mono ?_
    rintro e w1 ⟨rfl, rfl⟩
    go_wp2_with fail
    go_ret
    exact ⟨_, rfl, ⟨fun h => (by cases h), fun ⟨h2, _, _⟩ => absurd h2 (unhide Hr)⟩, Only.refl _ _⟩
end
end Go.Proofs.Qxb6500419a
