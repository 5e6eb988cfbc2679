/-
  OWN WORK. THE GRAPH: Check.
-/
import Derived.Test.Qxb6500417aGreatGCk2
import Derived.Test.Qxb6500417aGreatGCk3
namespace Go.Proofs.Qxb6500417aGreat
open Go.RowKit Go.PlainAid
set_option linter.unusedSimpArgs false
set_option linter.unusedVariables false

section
variable {w : World} {g t s d rt : Nat} {D B : Nat → Nat} {recs : List Rec} {J : Nat → Sl} {F : Nat → Prop} {T : Gt} {S : GA}
set_option maxRecDepth 100000 in
set_option maxHeartbeats 8000000 in
theorem grefF_any (h : TS w t s d D B recs J rt F) (hg : GH w g t T) (hI : GI J rt T) :
    Calls Tryz.prog 90 #[.pointer (some ⟨g, 0, none⟩)] w fun e w' => e = .returned (.bool true) ∧ Only (fun _ => False) w w' := by
  have H0 := hide h
  have HG := hide hg
  have HI := hide hI
  have hnb := hI.ref.b4
  have cnb := hg.nb_.1
  have hgl := hg.lt
  have b1 : decide ((T.nb : Int) < 0) = false := decide_eq_false (by omega)
  have b2 : decide ((4 : Int) < (T.nb : Int)) = false := decide_eq_false (by omega)
  have b2n : decide (4 < T.nb) = false := decide_eq_false (by omega)
  clear h hg hI
  go_enter Tryz.func90, Tryz.ntmps90
  go_wp2_with fail
  go_loopw [3] (fun kv wr => ∃ k : Nat, kv = .int .i64 k ∧ k ≤ T.nb ∧ Only (fun _ => False) w wr) (fun kv _ => T.nb - (intOf kv).toNat)
  case atStart => exact ⟨0, rfl, by omega, Only.refl _ _⟩
  case round =>
    clear cnb b1 b2 b2n
    obtain ⟨i, rfl, hi, hO⟩ := hrel
    have hG := (unhide HG).quiet hO
    have cnb := hG.nb_.1
    by_cases hil : i < T.nb
    · have a1 : decide ((i : Int) < (T.nb : Int)) = true := decide_eq_true (by omega)
      have a1n : decide (i < T.nb) = true := decide_eq_true hil
      have a2 : (i : Int) < 4 := by omega
      obtain ⟨hgood, hbC⟩ := (unhide HI).ref.bn i hil
      have C1 := goodName_any (T.b i).name wr
      rw [hgood] at C1
      have C1 := hide C1
      have C2 := hide (gisC_any hG (T.b i).id hbC)
      have cb := (hG.brn i (by omega)).1
      have ci := (hG.bri i (by omega)).1
      have HO := hide hO
      have HGk := hide hG
      have hgl2 := hG.lt
      clear hgood hbC
      by_cases h0 : i = 0
      · subst h0
        clear hG hO
        generalize (T.b 0).id = bid at *
        generalize (T.b 0).name = bn at *
        go_wp2_with fail
        refine (unhide C1).mono ?_
        rintro e w1 ⟨rfl, rfl⟩
        clear C1
        go_wp2_with fail
        refine (unhide C2).mono ?_
        rintro e w1 ⟨rfl, rfl⟩
        clear C2
        go_upto_region 10 with fail
        go_quiet (fail)
        have HO2 := hide ((unhide HO).trans (onlyDN (B := fun _ => False) wr nq) (fun _ _ h => h))
        go_wp2_with fail
        go_roundw
        case rel => exact ⟨1, by first | rfl | go_num, by omega, unhide HO2⟩
        case measure => simp [intOf]; omega
      · have g0 : decide ((i : Int) > 0) = true := decide_eq_true (by omega)
        have g1 : decide ((0 : Int) < (i : Int)) = true := decide_eq_true (by omega)
        have g1n : decide (0 < i) = true := decide_eq_true (by omega)
        obtain ⟨j, rfl⟩ : ∃ j, i = j + 1 := ⟨i - 1, by omega⟩
        have e1 : (((j + 1 : Nat) : Int) - 1) = (j : Int) := by omega
        have hlt := (unhide HI).ref.bo j (j + 1) (by omega) hil
        have cb2 := (hG.brn j (by omega)).1
        have a4 : (j : Int) < 4 := by omega
        have hlt' := hlt
        unfold ltS at hlt'
        clear hG hO
        generalize (T.b (j + 1)).id = bid at *
        generalize (T.b (j + 1)).name = bn at *
        generalize (T.b j).name = bp at *
        go_wp2_with fail
        refine (unhide C1).mono ?_
        rintro e w1 ⟨rfl, rfl⟩
        clear C1
        go_wp2_with fail
        refine (unhide C2).mono ?_
        rintro e w1 ⟨rfl, rfl⟩
        clear C2
        go_upto_region 10 with fail
        go_quiet (fail)
        have HO2 := hide ((unhide HO).trans (onlyDN (B := fun _ => False) wr nq) (fun _ _ h => h))
        go_wp2_with fail
        go_roundw
        case rel => exact ⟨j + 1 + 1, by go_num, by omega, unhide HO2⟩
        case measure => simp [intOf]; omega
    · have a1 : decide ((i : Int) < (T.nb : Int)) = false := decide_eq_false (by omega)
      have a1n : decide (i < T.nb) = false := decide_eq_false hil
      have cnm := hG.name_.1
      have cat := hG.at__.1
      have cmg := hG.mg_.1
      have cax := hG.aux_.1
      have hT := (unhide H0).quiet hO
      have C9 := hide (gisT_any hT hG T.aux (unhide HI).ax)
      have HO := hide hO
      have HGk := hide hG
      clear hG hO hT
      go_upto_if 67 with fail
      go_cut [] (fun wx => wr = wx)
      case first =>
        by_cases hs : T.name.size = 0
        · have z1 : T.name.toList.isEmpty = true := by rw [ls_toList, List.isEmpty_iff]; exact List.length_eq_zero_iff.1 (by rw [← hs]; simp [ls])
          have C1 := hide (gisC_any (unhide HGk) T.at_ ((unhide HI).ref.h0 hs))
          simp only [z1]
          go_wp2_with fail
          refine (unhide C1).mono ?_
          rintro e w1 ⟨rfl, rfl⟩
          go_upto_region 19 with fail
          go_meet
          case rel => rfl
        · have z1 : T.name.toList.isEmpty = false := by
            rw [ls_toList]
            cases e : (ls T.name).isEmpty with
            | false => rfl
            | true => rw [List.isEmpty_iff] at e; exact absurd (by have := congrArg List.length e; simpa [ls] using this) hs
          obtain ⟨hgood, h0⟩ := (unhide HI).ref.hn hs
          have C1 := goodName_any T.name wr
          rw [hgood] at C1
          have C1 := hide C1
          rw [h0] at cat
          clear hgood h0 hs
          simp only [z1]
          go_wp2_with fail
          refine (unhide C1).mono ?_
          rintro e w1 ⟨rfl, rfl⟩
          go_upto_region 19 with fail
          go_meet
          case rel => rfl
      case rest =>
      obtain rfl := hcut
      by_cases hm : T.mg = 0
      · rw [hm] at cmg
        clear hm
        go_wp2_with fail
        refine (unhide C9).mono ?_
        rintro e w2 ⟨rfl, hO2⟩
        have HO2 := hide ((unhide HO).trans hO2 (fun _ _ h => h))
        clear C9 hO2
        go_wp2_with fail
        go_ret
        exact ⟨rfl, unhide HO2⟩
      · have z1 : ((T.mg : Int) == 0) = false := ne_intO (by omega)
        have C1 := hide (gisC_any (unhide HGk) T.mg ((unhide HI).ref.mg.resolve_left hm))
        clear hm
        go_wp2_with fail
        refine (unhide C1).mono ?_
        rintro e w1 ⟨rfl, rfl⟩
        clear C1
        go_wp2_with fail
        refine (unhide C9).mono ?_
        rintro e w2 ⟨rfl, hO2⟩
        have HO2 := hide ((unhide HO).trans hO2 (fun _ _ h => h))
        clear C9 hO2
        go_wp2_with fail
        go_ret
        exact ⟨rfl, unhide HO2⟩
set_option maxRecDepth 100000 in
set_option maxHeartbeats 4000000 in
theorem gchk_any (h : GR w g t s d D B recs J rt F T S) :
    Calls Tryz.prog 43 #[.pointer (some ⟨g, 0, none⟩)] w fun e w' => e = .returned (.bool true) ∧ Only (fun _ => False) w w' := by
  have C1 := hide (gtabF_any h.ts h.gh h.gi)
  have hn := h.gi.ord.n40
  have cn := h.gh.n_.1
  have b1 : decide ((T.n : Int) < 0) = false := decide_eq_false (by omega)
  have b2 : decide ((48 : Int) < (T.n : Int)) = false := decide_eq_false (by omega)
  have b2n : decide (48 < T.n) = false := decide_eq_false (by omega)
  have H0 := hide h
  clear h
  go_enter Tryz.func43, Tryz.ntmps43
  go_wp2_with fail
  refine (unhide C1).mono ?_
  rintro e w1 ⟨rfl, hO1⟩
  have h1 := (unhide H0).quiet hO1
  have C2 := hide (gordF_any h1.ts h1.gh h1.gi)
  have HO1 := hide hO1
  clear C1 hO1 h1
  go_wp2_with fail
  refine (unhide C2).mono ?_
  rintro e w2 ⟨rfl, hO2⟩
  have hO2' := (unhide HO1).trans hO2 (fun _ _ h => h)
  have h2 := (unhide H0).quiet hO2'
  have C3 := hide (grefF_any h2.ts h2.gh h2.gi)
  have HO2 := hide hO2'
  clear C2 hO2 hO2' h2
  go_wp2_with fail
  refine (unhide C3).mono ?_
  rintro e w3 ⟨rfl, hO3⟩
  have HO3 := hide ((unhide HO2).trans hO3 (fun _ _ h => h))
  clear C3 hO3
  go_wp2_with fail
  go_ret
  exact ⟨rfl, unhide HO3⟩
end
end Go.Proofs.Qxb6500417aGreat
