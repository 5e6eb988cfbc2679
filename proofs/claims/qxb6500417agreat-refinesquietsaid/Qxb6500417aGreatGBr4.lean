/-
  OWN WORK. THE GRAPH: DelBranch.
-/
import Derived.Test.Qxb6500417aGreatGBr3
namespace Go.Proofs.Qxb6500417aGreat
open Go.RowKit Go.PlainAid
set_option linter.unusedSimpArgs false
set_option linter.unusedVariables false

section
variable {w w' : World} {g t s d : Nat} {D B : Nat → Nat} {recs : List Rec} {J : Nat → Sl} {rt : Nat} {F : Nat → Prop} {T : Gt} {S : GA}
set_option maxRecDepth 100000 in
set_option maxHeartbeats 4000000 in
theorem gdelBr_any (h : GR w g t s d D B recs J rt F T S) (nm : ByteArray) :
    Calls Tryz.prog 100 #[.pointer (some ⟨g, 0, none⟩), .string nm] w fun e w' => e = .returned (.int .i64 (dbE (absG J T) nm : Nat)) ∧ TabP w w' g t s d D B recs J rt F S (dbA (absG J T) nm) := by
  have hgi := h.gi
  have C1 := goodName_any nm w
  have h4 := hgi.ref.b4
  have hgl := h.gh.lt
  cases hg : goodN nm with
  | false =>
    have hE : dbE (absG J T) nm = 14 := by unfold dbE; rw [if_pos hg]
    have hA : dbA (absG J T) nm = absG J T := by unfold dbA; rw [hE, if_neg (by decide)]
    rw [hE, hA]
    rw [hg] at C1
    have C1 := hide C1
    have RR := hide (TabP.same h (Only.refl _ w))
    clear hE hA hgi h
    go_enter Tryz.func100, Tryz.ntmps100
    go_wp2_with fail
    refine (unhide C1).mono ?_
    rintro e w1 ⟨rfl, rfl⟩
    clear C1
    go_wp2_with fail
    go_ret
    exact ⟨rfl, unhide RR⟩
  | true =>
    rw [hg] at C1
    have C1 := hide C1
    have C3 := hide (gwhere_any h.gh h4 nm)
    have H0 := hide h
    have Hg := hide hg
    have HgI := hide hgi
    clear hgi h hg
    go_enter Tryz.func100, Tryz.ntmps100
    go_wp2_with fail
    refine (unhide C1).mono ?_
    rintro e w1 ⟨rfl, rfl⟩
    clear C1
    go_wp2_with fail
    refine (unhide C3).mono ?_
    rintro e w3 ⟨p, hW, rfl, hO3⟩
    have hG3 := (unhide H0).gh.quiet hO3
    have hhit := (unhide HgI).hit hW
    have hple := hW.le
    have HG3 := hide hG3
    have HO3 := hide hO3
    cases hh : hitP T nm p with
    | false =>
      have hE : dbE (absG J T) nm = 16 := by
        unfold dbE
        rw [if_neg (by rw [unhide Hg]; simp), if_pos (by rw [← hhit, hh])]
      have hA : dbA (absG J T) nm = absG J T := by unfold dbA; rw [hE, if_neg (by decide)]
      have RR : Hid (TabP w w3 g t s d D B recs J rt F S (dbA (absG J T) nm)) := hide (by rw [hA]; exact TabP.same (unhide H0) hO3)
      have HE := hide hE
      clear C3 hO3 hG3 hhit hE hA hW
      go_wp2_with fail
      go_ret
      rw [unhide HE]
      exact ⟨rfl, unhide RR⟩
    | true =>
      have hp4 : p < T.nb := by
        unfold hitP at hh
        simp only [Bool.and_eq_true, decide_eq_true_eq] at hh
        exact hh.1
      have hE : dbE (absG J T) nm = 0 := by
        unfold dbE
        rw [if_neg (by rw [unhide Hg]; simp), if_neg (by rw [← hhit, hh]; simp)]
      have hA : dbA (absG J T) nm = { absG J T with refs := withoutR (absG J T).refs nm } := by
        unfold dbA; rw [hE, if_pos rfl]
      have HE := hide hE
      have HA := hide hA
      have HW := hide hW
      have Hh := hide hh
      clear C3 hO3 hG3 hhit hE hA hW
      go_wp2_with fail
      go_loopw [7] (fun jv wr => ∃ j : Nat, jv = .int .i64 j ∧ p ≤ j ∧ j + 1 ≤ T.nb ∧ GH wr g t { T with b := clB T.b p j } ∧ Only (fun y => y = g) w wr) (fun jv _ => T.nb - (intOf jv).toNat)
      case atStart => exact ⟨p, rfl, Nat.le_refl _, by omega, by rw [clB_start]; exact unhide HG3, (unhide HO3).mono (fun _ _ h => h.elim)⟩
      case round =>
        obtain ⟨i, rfl, hpj, hjn, hG, hO⟩ := hrel
        have cn := hG.nb_.1
        have cn' : wr.cell? ⟨g, 352, none⟩ = some (.int .i64 (T.nb : Int)) := cn
        by_cases hgt : i + 1 < T.nb
        · have b1 : decide ((i : Int) + 1 < (T.nb : Int)) = true := decide_eq_true (by omega)
          have hsi : clB T.b p i (i + 1) = T.b (i + 1) := by unfold clB; rw [if_neg (by omega)]
          have y0 : wr.cell? ⟨g, 344 + (i + 1) * 2, none⟩ = some (.string (T.b (i + 1)).name) := by
            have := (hG.brn (i + 1) (by omega)).1
            rw [← hsi]; exact this
          have y1 : wr.cell? ⟨g, 344 + (i + 1) * 2 + 1, none⟩ = some (.int .i64 ((T.b (i + 1)).id : Int)) := by
            have := (hG.bri (i + 1) (by omega)).1
            rw [← hsi]; exact this
          have z0 := hG.brn i (by omega)
          have z1 := hG.bri i (by omega)
          have hG4 := (hG.putB i (by omega) (T.b (i + 1))).quiet (Only.refl (fun _ => False) _).drew
          have HG4 : Hid (GH _ g t { T with b := clB T.b p (i + 1) }) := hide (by
            have := hG4
            unfold Gt.setB at this
            simp only at this
            rw [clB_step _ _ _ hpj] at this
            exact this)
          have HO4 := hide ((hO.setCell (p := ⟨g, 344 + i * 2, none⟩) (fun _ => rfl) (.string (T.b (i + 1)).name)).setCell (p := ⟨g, 344 + i * 2 + 1, none⟩) (fun _ => rfl) (.int .i64 ((T.b (i + 1)).id : Int))).drew
          have a3 : (i : Int) < 4 := by omega
          have a4 : (i : Int) + 1 < 4 := by omega
          clear hG hO hG4 cn
          generalize (T.b (i + 1)).name = bn at *
          generalize (T.b (i + 1)).id = bi at *
          go_upto_region 9 with fail
          go_region
          all_goals
            go_wp2_with fail
            go_roundw
            case rel => exact ⟨i + 1, by go_num, by omega, by omega, unhide HG4, unhide HO4⟩
            case measure => simp [intOf]; omega
        · have b1 : decide ((i : Int) + 1 < (T.nb : Int)) = false := decide_eq_false (by omega)
          have e1 : i = T.nb - 1 := by omega
          have en : ((T.nb : Int) - 1) = ((T.nb - 1 : Nat) : Int) := by omega
          have zn := hG.nb_
          have hG4 := hG.putNb (T.nb - 1)
          have z0 := hG4.brn (T.nb - 1) (by omega)
          have z1 := hG4.bri (T.nb - 1) (by omega)
          have zn2 := hG4.nb_.1
          have hG5 := (hG4.putB (T.nb - 1) (by omega) Br.zero).quiet (Only.refl (fun _ => False) _).drew
          obtain ⟨gA, gB⟩ := (unhide HgI).delB (unhide HW) (unhide Hh)
          have RR : Hid (TabP w (((wr.setCell ⟨g, 352, none⟩ (.int .i64 ((T.nb - 1 : Nat) : Int))).setCell ⟨g, 344 + (T.nb - 1) * 2, none⟩ (.string Br.zero.name)).setCell ⟨g, 344 + (T.nb - 1) * 2 + 1, none⟩ (.int .i64 (Br.zero.id : Int))).drew g t s d D B recs J rt F S (dbA (absG J T) nm)) := hide (by
            rw [unhide HA, ← gB]
            refine TabP.of (unhide H0) (((hO.setCell (fun _ => rfl) _).setCell (fun _ => rfl) _).setCell (fun _ => rfl) _).drew ?_ gA rfl
            unfold Gt.setB at hG5
            simp only at hG5
            rw [e1, clB_end _ _ _ hp4 (unhide HgI).ref.bz] at hG5
            exact hG5)
          have a3 : ((T.nb - 1 : Nat) : Int) < 4 := by omega
          have HW4 : Hid (Only (fun y => y = g) wr (wr.setCell ⟨g, 352, none⟩ (.int .i64 ((T.nb - 1 : Nat) : Int)))) := hide ((Only.refl (fun y => y = g) wr).setCell (fun _ => rfl) _)
          have Hen := hide en
          clear hG hO gA gB hG5 hG4 cn en e1
          go_upto_region 11 with fail
          rw [unhide Hen]
          clear Hen
          generalize hW4 : wr.setCell ⟨g, 352, none⟩ (.int .i64 ((T.nb - 1 : Nat) : Int)) = W4 at *
          clear hW4 HW4 zn cn' b1
          have zn3 : W4.cell? ⟨g, 352, none⟩ = some (.int .i64 ((T.nb - 1 : Nat) : Int)) := zn2
          clear zn2
          generalize hn1 : T.nb - 1 = n1 at *
          clear hn1
          go_region
          all_goals
            go_wp2_with fail
            go_ret
            rw [unhide HE]
            exact ⟨rfl, unhide RR⟩
end
end Go.Proofs.Qxb6500417aGreat
