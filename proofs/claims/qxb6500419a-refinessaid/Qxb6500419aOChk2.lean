/-
  OWN WORK. THE OBJECT STORE's CHECK: noTwins.
-/
import Derived.Test.Qxb6500419aOChk1
namespace Go.Proofs.Qxb6500419a
open Go.RowKit
set_option linter.unusedSimpArgs false
set_option linter.unusedVariables false

theorem bytesAt_of {w : World} {g n : Nat} {x : Nat → Nat} (h : Has w g (tabV n (u8f x)) 5) : BytesAt w (.slice (some ⟨g, 0, none⟩) n n) n x := by
  refine ⟨_, _, rfl, fun hn => ⟨g, rfl, fun j hj => ?_⟩⟩
  rw [h.cell, u8_get _ _ _ hj]

section
variable {w : World} {s d : Nat} {tab : Nat → Ent} {hd us : Nat → Nat} {nf rt : Nat} {D B : Nat → Nat} {recs : List Rec} {F : Nat → Prop} {ob : Nat → Ob} {bk : Nat → List Nat} {po : Nat → Ob}

theorem bytesOf_ex {k n : Nat} {x : Nat → Nat} {ch : List Nat} (h : SAt w s d tab hd us nf rt) (hv : DevAt w d D B recs F) (id : Nat) (hid : id < 49) (hl : Lies D k n x ch) (hn : n ≤ 180) (hsz : (tab id).size = n) (hfi : (tab id).first = ch.getD 0 0) :
    Calls Try.prog 69 #[.pointer (some ⟨s, 0, none⟩), .int .i64 id] w fun e w' => ∃ g : Nat, e = .returned (.slice (some ⟨g, 0, none⟩) n n) ∧ BytesAt w' (.slice (some ⟨g, 0, none⟩) n n) n x ∧ Only (fun _ => False) w w' :=
  (bytesOf_any h hv id hid hl hn hsz hfi).mono fun _ _ ⟨h1, h2, h3⟩ => ⟨_, h1, bytesAt_of h2, h3⟩

set_option maxRecDepth 100000 in
set_option maxHeartbeats 4000000 in
theorem noTwins_any (hs : SAt w s d tab hd us nf rt) (hv : DevAt w d D B recs F) (hr : Rows D tab us nf ob) (htw : Tw liveO ob) :
    Calls Try.prog 47 #[.pointer (some ⟨s, 0, none⟩)] w fun e w' => e = .returned (.bool true) ∧ Only (fun _ => False) w w' := by
  have Hr := hide hr
  have Htw := hide htw
  have HS := hide hs
  have HV := hide hv
  clear hr htw hs hv
  go_enter Try.func47, Try.ntmps47
  go_wp2_with fail
  go_loopw [3] (fun iv wr => ∃ i : Nat, 1 ≤ i ∧ i ≤ 49 ∧ iv = .int .i64 i ∧ Only (fun _ => False) w wr) (fun iv _ => (49 - intOf iv).toNat)
  case atStart => exact ⟨1, by omega, by omega, rfl, Only.refl _ _⟩
  case round =>
    obtain ⟨i, hi1, hi, rfl, ho⟩ := hrel
    by_cases hi8 : i < 49
    · have hin : In i := ⟨hi1, by omega⟩
      have a1 : decide ((i : Int) ≤ 48) = true := by simp; omega
      have a2 : (i : Int) < 49 := by omega
      have Ho0 := hide ho
      go_wp2_with fail
      go_loopw [4] (fun jv wr => ∃ j : Nat, i + 1 ≤ j ∧ j ≤ 49 ∧ jv = .int .i64 j ∧ Only (fun _ => False) w wr) (fun jv _ => (49 - intOf jv).toNat)
      case atStart => exact ⟨i + 1, by omega, by omega, by go_num, unhide Ho0⟩
      case round =>
        clear Ho0 ho
        obtain ⟨j, hj1, hj, rfl, ho⟩ := hrel
        by_cases hj8 : j < 49
        · have hjn : In j := ⟨by omega, by omega⟩
          have d1 : decide ((j : Int) ≤ 48) = true := by simp; omega
          have d2 : (j : Int) < 49 := by omega
          have hS := (unhide HS).keep ho (fun h => h)
          have hsl := Has.lt hS
          have hsn : s ≠ wr.heap.size := by omega
          have hsn1 : s ≠ wr.heap.size + 1 := by omega
          have z0 := (hS.state i hi8).1
          have z1 := (hS.ent i 1 hi8 (by omega)).1
          have z2 := (hS.ent i 2 hi8 (by omega)).1
          have z3 := (hS.ent i 3 hi8 (by omega)).1
          have z4 := (hS.ent i 4 hi8 (by omega)).1
          have z5 := (hS.ent i 5 hi8 (by omega)).1
          have y0 := (hS.state j hj8).1
          have y1 := (hS.ent j 1 hj8 (by omega)).1
          have y2 := (hS.ent j 2 hj8 (by omega)).1
          have y3 := (hS.ent j 3 hj8 (by omega)).1
          have y4 := (hS.ent j 4 hj8 (by omega)).1
          have y5 := (hS.ent j 5 hj8 (by omega)).1
          simp only [entCell] at z0 z1 z2 z3 z4 z5 y0 y1 y2 y3 y4 y5
          have hsti := (unhide Hr).st i hin
          have hstj := (unhide Hr).st j hjn
          have hli := (unhide Hr).le3 i hin
          have hlj := (unhide Hr).le3 j hjn
          rw [← hsti] at hli
          rw [← hstj] at hlj
          have C1 := hide (fun w' (ho' : Only (fun _ => False) w w') (h0 : (ob i).st ≠ 0) => bytesOf_ex ((unhide HS).keep ho' (fun h => h)) ((unhide HV).quiet ho') i hi8 ((unhide Hr).held i hin h0).lies ((unhide Hr).held i hin h0).n180 ((unhide Hr).held i hin h0).size ((unhide Hr).held i hin h0).first)
          have C2 := hide (fun w' (ho' : Only (fun _ => False) w w') (h0 : (ob j).st ≠ 0) (v : Value) (hv : BytesAt w' v (ob j).dat.length (dF (ob i).dat)) => holds_any ((unhide HS).keep ho' (fun h => h)) ((unhide HV).quiet ho') j hj8 ((unhide Hr).held j hjn h0).lies ((unhide Hr).held j hjn h0).n180 ((unhide Hr).held j hjn h0).first v (dF (ob i).dat) hv)
          have hdec : (ob i).st ≠ 0 → (ob j).st ≠ 0 → (tab i).kind = (tab j).kind → (tab i).size = (tab j).size → (ob i).kd = (ob j).kd ∧ (ob i).dat.length = (ob j).dat.length := by
            intro h1 h2 h3 h4
            have e1 := (unhide Hr).held i hin h1
            have e2 := (unhide Hr).held j hjn h2
            rw [e1.kind, e2.kind] at h3
            rw [e1.size, e2.size] at h4
            exact ⟨h3, h4⟩
          have Hdec := hide hdec
          have Hti := hide hsti
          have Htj := hide hstj
          clear hS hdec hsti hstj
          generalize (tab i).state = sti at *
          generalize (tab i).kind = ki at *
          generalize (tab i).size = ni at *
          generalize (tab i).first = fi at *
          generalize (tab i).hash = hi_ at *
          generalize (tab i).next = xi at *
          generalize (tab j).state = stj at *
          generalize (tab j).kind = kj at *
          generalize (tab j).size = nj at *
          generalize (tab j).first = fj at *
          generalize (tab j).hash = hj_ at *
          generalize (tab j).next = xj at *
          by_cases hz : sti = 0
          · subst hz
            go_wp2_with fail
            go_roundw
            case rel => exact ⟨i + 1, by omega, by omega, by go_num, ho⟩
            case measure => simp [intOf]; omega
          · have e0 : ((sti : Int) != 0) = true := by simp; omega
            go_wp2_with fail
            go_region
            · have hX := ((Has.new wr #[.int .i64 (sti : Int), .int .i64 (ki : Int), .int .i64 (ni : Int), .int .i64 (fi : Int), .int .u32 (hi_ : Int), .int .i64 (xi : Int)] 61).alloc (.cells #[.int .i64 (stj : Int), .int .i64 (kj : Int), .int .i64 (nj : Int), .int .i64 (fj : Int), .int .u32 (hj_ : Int), .int .i64 (xj : Int)] 61)).drew
              have hY := (Has.new' (wr.alloc (.cells #[.int .i64 (sti : Int), .int .i64 (ki : Int), .int .i64 (ni : Int), .int .i64 (fi : Int), .int .u32 (hi_ : Int), .int .i64 (xi : Int)] 61)) #[.int .i64 (stj : Int), .int .i64 (kj : Int), .int .i64 (nj : Int), .int .i64 (fj : Int), .int .u32 (hj_ : Int), .int .i64 (xj : Int)] 61 (wr.heap.size + 1) (by simp)).drew
              have hoW := ((ho.alloc (.cells #[.int .i64 (sti : Int), .int .i64 (ki : Int), .int .i64 (ni : Int), .int .i64 (fi : Int), .int .u32 (hi_ : Int), .int .i64 (xi : Int)] 61)).alloc (.cells #[.int .i64 (stj : Int), .int .i64 (kj : Int), .int .i64 (nj : Int), .int .i64 (fj : Int), .int .u32 (hj_ : Int), .int .i64 (xj : Int)] 61)).drew
              generalize ((wr.alloc (.cells #[.int .i64 (sti : Int), .int .i64 (ki : Int), .int .i64 (ni : Int), .int .i64 (fi : Int), .int .u32 (hi_ : Int), .int .i64 (xi : Int)] 61)).alloc (.cells #[.int .i64 (stj : Int), .int .i64 (kj : Int), .int .i64 (nj : Int), .int .i64 (fj : Int), .int .u32 (hj_ : Int), .int .i64 (xj : Int)] 61)).drew = W at *
              have hA := hX
              have hB := hY
              clear hX hY
              have p0 := hA.cell 0
              have p1 := hA.cell 1
              have p2 := hA.cell 2
              have p4 := hA.cell 4
              have r0 := hB.cell 0
              have r1 := hB.cell 1
              have r2 := hB.cell 2
              have r4 := hB.cell 4
              clear hA hB z0 z1 z2 z3 z4 z5 y0 y1 y2 y3 y4 y5 hsl hsn hsn1
              go_upto_region 8 with fail
              go_cut [7] (fun v wx => v = .bool (sti == 1 || sti == 2) ∧ W = wx)
              case first =>
                have h4i : sti = 1 ∨ sti = 2 ∨ sti = 3 := by omega
                rcases h4i with rfl | rfl | rfl <;> (
                  go_wp2_with fail
                  go_meet
                  exact ⟨rfl, rfl⟩)
              case rest =>
              obtain ⟨rfl, rfl⟩ := hcut
              go_upto_region 9 with fail
              go_cut [8] (fun v wx => v = .bool (stj == 1 || stj == 2) ∧ W = wx)
              case first =>
                have h4j : stj = 0 ∨ stj = 1 ∨ stj = 2 ∨ stj = 3 := by omega
                rcases h4j with rfl | rfl | rfl | rfl <;> (
                  go_wp2_with fail
                  go_meet
                  exact ⟨rfl, rfl⟩)
              case rest =>
              obtain ⟨rfl, rfl⟩ := hcut
              have hA1 : (sti == 1 || sti == 2) = liveO (ob i) := by unfold liveO; rw [unhide Hti]
              have hB1 : (stj == 1 || stj == 2) = liveO (ob j) := by unfold liveO; rw [unhide Htj]
              rw [hA1, hB1]
              clear hA1 hB1 p0 r0
              cases hla : liveO (ob i) with
              | false =>
                go_wp2_with fail
                go_roundw
                case rel => exact ⟨j + 1, by omega, by omega, by go_num, hoW⟩
                case measure => simp [intOf]; omega
              | true =>
              cases hlb : liveO (ob j) with
              | false =>
                go_wp2_with fail
                go_roundw
                case rel => exact ⟨j + 1, by omega, by omega, by go_num, hoW⟩
                case measure => simp [intOf]; omega
              | true =>
              by_cases hk : ki = kj
              · by_cases hn : ni = nj
                · by_cases hh : hi_ = hj_
                  · subst hk hn hh
                    obtain ⟨ek, en⟩ := (unhide Hdec) (liveO_ne hla) (liveO_ne hlb) rfl rfl
                    have hnt : (ob i).dat ≠ (ob j).dat := fun e => by
                      have := (unhide Htw) i j hin hjn hla hlb ek e
                      omega
                    have Hnt := hide hnt
                    have Hen := hide en
                    have C4 := hide ((unhide C1) W hoW (liveO_ne hla))
                    clear ek en hnt hz Hdec C1
                    go_wp2_with fail
                    refine (unhide C4).mono ?_
                    rintro e w5 ⟨gg, rfl, hb5, ho5⟩
                    have ho5' := hoW.trans ho5 (fun _ _ h => h)
                    have C3 := (unhide C2) w5 ho5' (liveO_ne hlb) _ (unhide Hen ▸ hb5)
                    rw [← unhide Hen] at C3
                    have C3 := hide C3
                    clear hb5 C2 C4
                    generalize hnn : (ob i).dat.length = nn at *
                    have Hnn := hide hnn
                    clear hnn
                    go_wp2_with fail
                    refine (unhide C3).mono ?_
                    rintro e w6 ⟨⟨r, rfl, hr⟩, ho6⟩
                    have hrf : r = false := by
                      cases r with
                      | false => rfl
                      | true =>
                        exfalso
                        refine (unhide Hnt) (dF_ext ?_ ?_)
                        · rw [unhide Hnn]; exact unhide Hen
                        · intro t ht
                          rw [unhide Hnn] at ht
                          exact (hr.1 rfl t ht).symm
                    subst hrf
                    clear hr
                    go_wp2_with fail
                    go_roundw
                    case rel => exact ⟨j + 1, by omega, by omega, by go_num, ho5'.trans ho6 (fun _ _ h => h)⟩
                    case measure => simp [intOf]; omega
                  · have hh' : ((hi_ : Int) == (hj_ : Int)) = false := ne_intO (by omega)
                    subst hk hn
                    go_wp2_with fail
                    go_roundw
                    case rel => exact ⟨j + 1, by omega, by omega, by go_num, hoW⟩
                    case measure => simp [intOf]; omega
                · have hh' : ((ni : Int) == (nj : Int)) = false := ne_intO (by omega)
                  subst hk
                  go_wp2_with fail
                  go_roundw
                  case rel => exact ⟨j + 1, by omega, by omega, by go_num, hoW⟩
                  case measure => simp [intOf]; omega
              · have hh' : ((ki : Int) == (kj : Int)) = false := ne_intO (by omega)
                go_wp2_with fail
                go_roundw
                case rel => exact ⟨j + 1, by omega, by omega, by go_num, hoW⟩
                case measure => simp [intOf]; omega
            · have hX := ((Has.new wr #[.int .i64 (stj : Int), .int .i64 (kj : Int), .int .i64 (nj : Int), .int .i64 (fj : Int), .int .u32 (hj_ : Int), .int .i64 (xj : Int)] 61).alloc (.cells #[.int .i64 (sti : Int), .int .i64 (ki : Int), .int .i64 (ni : Int), .int .i64 (fi : Int), .int .u32 (hi_ : Int), .int .i64 (xi : Int)] 61)).drew
              have hY := (Has.new' (wr.alloc (.cells #[.int .i64 (stj : Int), .int .i64 (kj : Int), .int .i64 (nj : Int), .int .i64 (fj : Int), .int .u32 (hj_ : Int), .int .i64 (xj : Int)] 61)) #[.int .i64 (sti : Int), .int .i64 (ki : Int), .int .i64 (ni : Int), .int .i64 (fi : Int), .int .u32 (hi_ : Int), .int .i64 (xi : Int)] 61 (wr.heap.size + 1) (by simp)).drew
              have hoW := ((ho.alloc (.cells #[.int .i64 (stj : Int), .int .i64 (kj : Int), .int .i64 (nj : Int), .int .i64 (fj : Int), .int .u32 (hj_ : Int), .int .i64 (xj : Int)] 61)).alloc (.cells #[.int .i64 (sti : Int), .int .i64 (ki : Int), .int .i64 (ni : Int), .int .i64 (fi : Int), .int .u32 (hi_ : Int), .int .i64 (xi : Int)] 61)).drew
              generalize ((wr.alloc (.cells #[.int .i64 (stj : Int), .int .i64 (kj : Int), .int .i64 (nj : Int), .int .i64 (fj : Int), .int .u32 (hj_ : Int), .int .i64 (xj : Int)] 61)).alloc (.cells #[.int .i64 (sti : Int), .int .i64 (ki : Int), .int .i64 (ni : Int), .int .i64 (fi : Int), .int .u32 (hi_ : Int), .int .i64 (xi : Int)] 61)).drew = W at *
              have hB := hX
              have hA := hY
              clear hX hY
              have p0 := hA.cell 0
              have p1 := hA.cell 1
              have p2 := hA.cell 2
              have p4 := hA.cell 4
              have r0 := hB.cell 0
              have r1 := hB.cell 1
              have r2 := hB.cell 2
              have r4 := hB.cell 4
              clear hA hB z0 z1 z2 z3 z4 z5 y0 y1 y2 y3 y4 y5 hsl hsn hsn1
              go_upto_region 8 with fail
              go_cut [7] (fun v wx => v = .bool (sti == 1 || sti == 2) ∧ W = wx)
              case first =>
                have h4i : sti = 1 ∨ sti = 2 ∨ sti = 3 := by omega
                rcases h4i with rfl | rfl | rfl <;> (
                  go_wp2_with fail
                  go_meet
                  exact ⟨rfl, rfl⟩)
              case rest =>
              obtain ⟨rfl, rfl⟩ := hcut
              go_upto_region 9 with fail
              go_cut [8] (fun v wx => v = .bool (stj == 1 || stj == 2) ∧ W = wx)
              case first =>
                have h4j : stj = 0 ∨ stj = 1 ∨ stj = 2 ∨ stj = 3 := by omega
                rcases h4j with rfl | rfl | rfl | rfl <;> (
                  go_wp2_with fail
                  go_meet
                  exact ⟨rfl, rfl⟩)
              case rest =>
              obtain ⟨rfl, rfl⟩ := hcut
              have hA1 : (sti == 1 || sti == 2) = liveO (ob i) := by unfold liveO; rw [unhide Hti]
              have hB1 : (stj == 1 || stj == 2) = liveO (ob j) := by unfold liveO; rw [unhide Htj]
              rw [hA1, hB1]
              clear hA1 hB1 p0 r0
              cases hla : liveO (ob i) with
              | false =>
                go_wp2_with fail
                go_roundw
                case rel => exact ⟨j + 1, by omega, by omega, by go_num, hoW⟩
                case measure => simp [intOf]; omega
              | true =>
              cases hlb : liveO (ob j) with
              | false =>
                go_wp2_with fail
                go_roundw
                case rel => exact ⟨j + 1, by omega, by omega, by go_num, hoW⟩
                case measure => simp [intOf]; omega
              | true =>
              by_cases hk : ki = kj
              · by_cases hn : ni = nj
                · by_cases hh : hi_ = hj_
                  · subst hk hn hh
                    obtain ⟨ek, en⟩ := (unhide Hdec) (liveO_ne hla) (liveO_ne hlb) rfl rfl
                    have hnt : (ob i).dat ≠ (ob j).dat := fun e => by
                      have := (unhide Htw) i j hin hjn hla hlb ek e
                      omega
                    have Hnt := hide hnt
                    have Hen := hide en
                    have C4 := hide ((unhide C1) W hoW (liveO_ne hla))
                    clear ek en hnt hz Hdec C1
                    go_wp2_with fail
                    refine (unhide C4).mono ?_
                    rintro e w5 ⟨gg, rfl, hb5, ho5⟩
                    have ho5' := hoW.trans ho5 (fun _ _ h => h)
                    have C3 := (unhide C2) w5 ho5' (liveO_ne hlb) _ (unhide Hen ▸ hb5)
                    rw [← unhide Hen] at C3
                    have C3 := hide C3
                    clear hb5 C2 C4
                    generalize hnn : (ob i).dat.length = nn at *
                    have Hnn := hide hnn
                    clear hnn
                    go_wp2_with fail
                    refine (unhide C3).mono ?_
                    rintro e w6 ⟨⟨r, rfl, hr⟩, ho6⟩
                    have hrf : r = false := by
                      cases r with
                      | false => rfl
                      | true =>
                        exfalso
                        refine (unhide Hnt) (dF_ext ?_ ?_)
                        · rw [unhide Hnn]; exact unhide Hen
                        · intro t ht
                          rw [unhide Hnn] at ht
                          exact (hr.1 rfl t ht).symm
                    subst hrf
                    clear hr
                    go_wp2_with fail
                    go_roundw
                    case rel => exact ⟨j + 1, by omega, by omega, by go_num, ho5'.trans ho6 (fun _ _ h => h)⟩
                    case measure => simp [intOf]; omega
                  · have hh' : ((hi_ : Int) == (hj_ : Int)) = false := ne_intO (by omega)
                    subst hk hn
                    go_wp2_with fail
                    go_roundw
                    case rel => exact ⟨j + 1, by omega, by omega, by go_num, hoW⟩
                    case measure => simp [intOf]; omega
                · have hh' : ((ni : Int) == (nj : Int)) = false := ne_intO (by omega)
                  subst hk
                  go_wp2_with fail
                  go_roundw
                  case rel => exact ⟨j + 1, by omega, by omega, by go_num, hoW⟩
                  case measure => simp [intOf]; omega
              · have hh' : ((ki : Int) == (kj : Int)) = false := ne_intO (by omega)
                go_wp2_with fail
                go_roundw
                case rel => exact ⟨j + 1, by omega, by omega, by go_num, hoW⟩
                case measure => simp [intOf]; omega
        · obtain rfl : j = 49 := by omega
          go_wp2_with fail
          go_roundw
          case rel => exact ⟨i + 1, by omega, by omega, by go_num, ho⟩
          case measure => simp [intOf]; omega
    · obtain rfl : i = 49 := by omega
      go_wp2_with fail
      go_ret
      exact ⟨rfl, ho⟩
end
end Go.Proofs.Qxb6500419a
