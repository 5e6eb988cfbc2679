/-
  OWN WORK. TXN, Keeps: DueBracket (written by tools/gen_xk5.py).
-/
import Derived.Test.Qxb6500414aGreatXK4
namespace Go.Proofs.Qxb6500414aGreat
open Go.RowKit Go.PlainAid
set_option linter.unusedSimpArgs false
set_option linter.unusedVariables false
/-- What Begin, Commit, Rollback owe. -/
def dueBr (M : Mu) (ok a : Int) : Int := if gdS a then (if ok = 1 then (if M.act a.toNat = true then 3 else 0) else (if M.act a.toNat = true then 0 else 2)) else 20
section
variable {lo : Nat} {w w' : World} {k k2 : Nat} {M N : Mu} {s t : Nat} {T : Tb}
set_option maxRecDepth 100000 in
set_option maxHeartbeats 2000000 in
theorem xldueBracket_any (H : Sht lo w k M) (ok oa ob oc : Int) (os ot : ByteArray) : Calls Tryz.prog 82 #[.pointer (some ⟨k, 0, none⟩), opX ok oa ob oc os ot] w fun e w' => e = .returned (.int .i64 (dueBr M ok oa)) ∧ Only (fun _ => False) w w' := by
  have o0 : Only (fun _ => False) w (w.alloc (.cells #[.int .i64 ok, .int .i64 oa, .int .i64 ob, .int .i64 oc, .string os, .string ot] 44)) := (Only.refl _ w).alloc _
  have HN := hide (Has.new w #[.int .i64 ok, .int .i64 oa, .int .i64 ob, .int .i64 oc, .string os, .string ot] 44)
  have HH := hide (And.intro (H.quiet o0) (And.intro o0 trivial))
  unfold opX
  clear H o0
  go_enter Tryz.func82, Tryz.ntmps82
  go_upto_region 1 with fail
  generalize w.alloc (.cells #[.int .i64 ok, .int .i64 oa, .int .i64 ob, .int .i64 oc, .string os, .string ot] 44) = w0 at *
  generalize hko : w.heap.size = ko at *
  clear hko
  have a0 : w0.cell? ⟨ko, 0, none⟩ = some (.int .i64 ok) := (unhide HN).cell 0
  have a1 : w0.cell? ⟨ko, 1, none⟩ = some (.int .i64 oa) := (unhide HN).cell 1
  have a4 : w0.cell? ⟨ko, 4, none⟩ = some (.string os) := (unhide HN).cell 4
  have C1 := xgood_any oa w0
  by_cases gd : ¬ gdS oa
  · rw [decide_eq_false gd] at C1
    have C1 := hide C1
    have HG := hide gd
    clear gd
    go_wp2_with fail
    refine (unhide C1).mono ?_
    rintro e w2 ⟨rfl, rfl⟩
    clear C1
    go_wp2_with fail
    go_ret
    exact ⟨by rw [show dueBr M ok oa = 20 from if_neg (unhide HG)]; rfl, (unhide HH).2.1⟩
  have gd : gdS oa := Decidable.not_not.mp gd
  rw [decide_eq_true gd] at C1
  have C1 := hide C1
  obtain ⟨s, rfl⟩ : ∃ n : Nat, oa = n := ⟨oa.toNat, by have := gd.1; omega⟩
  have hs : s < 4 := by have := gd.2; omega
  have s4 : (s : Int) < 4 := by omega
  have HG := hide gd
  clear gd
  go_wp2_with fail
  refine (unhide C1).mono ?_
  rintro e w2 ⟨rfl, rfl⟩
  clear C1
  have kl := (unhide HH).1.lt
  have p0 := (unhide HH).1.actAt hs
  by_cases h1 : ok = 1
  · subst h1
    obtain ⟨b, hb⟩ : ∃ b, M.act s = b := ⟨_, rfl⟩
    rw [hb] at p0
    cases b with
    | true =>
      have HD := hide (show dueBr M 1 (s : Int) = 3 by unfold dueBr; rw [if_pos (unhide HG), if_pos rfl, show ((s : Nat) : Int).toNat = s by omega, hb]; rfl)
      clear hb
      go_upto_region 4 with fail
      go_cut [18] from 12 to 18 (fun zv wx => zv = .bool true ∧ Only (fun _ => False) w0 wx)
      case first =>
        go_quiet (fail)
        go_wp2_with fail
        go_meet
        exact ⟨rfl, onlyQ _ _⟩
      case rest =>
      obtain ⟨rfl, oC⟩ := hcut
      generalize wc = w3 at *
      have HO := hide ((unhide HH).2.1.trans oC (fun _ _ e => e))
      clear oC
      go_wp2_with fail
      go_ret
      exact ⟨by rw [unhide HD]; rfl, unhide HO⟩
    | false =>
      have HD := hide (show dueBr M 1 (s : Int) = 0 by unfold dueBr; rw [if_pos (unhide HG), if_pos rfl, show ((s : Nat) : Int).toNat = s by omega, hb]; rfl)
      clear hb
      go_upto_region 4 with fail
      go_cut [18] from 12 to 18 (fun zv wx => zv = .bool false ∧ Only (fun _ => False) w0 wx)
      case first =>
        go_quiet (fail)
        go_wp2_with fail
        go_meet
        exact ⟨rfl, onlyQ _ _⟩
      case rest =>
      obtain ⟨rfl, oC⟩ := hcut
      generalize wc = w3 at *
      have HO := hide ((unhide HH).2.1.trans oC (fun _ _ e => e))
      clear oC
      go_wp2_with fail
      go_ret
      exact ⟨by rw [unhide HD]; rfl, unhide HO⟩
  · have b1 : (ok == 1) = false := ne_intO h1
    obtain ⟨b, hb⟩ : ∃ b, M.act s = b := ⟨_, rfl⟩
    rw [hb] at p0
    cases b with
    | true =>
      have HD := hide (show dueBr M ok (s : Int) = 0 by unfold dueBr; rw [if_pos (unhide HG), if_neg h1, show ((s : Nat) : Int).toNat = s by omega, hb]; rfl)
      clear hb h1
      go_upto_region 7 with fail
      go_cut [26] from 19 to 26 (fun zv wx => zv = .bool false ∧ Only (fun _ => False) w0 wx)
      case first =>
        go_quiet (fail)
        go_wp2_with fail
        go_meet
        exact ⟨rfl, onlyQ _ _⟩
      case rest =>
      obtain ⟨rfl, oC⟩ := hcut
      generalize wc = w3 at *
      have HO := hide ((unhide HH).2.1.trans oC (fun _ _ e => e))
      clear oC
      go_wp2_with fail
      go_ret
      exact ⟨by rw [unhide HD]; rfl, unhide HO⟩
    | false =>
      have HD := hide (show dueBr M ok (s : Int) = 2 by unfold dueBr; rw [if_pos (unhide HG), if_neg h1, show ((s : Nat) : Int).toNat = s by omega, hb]; rfl)
      clear hb h1
      go_upto_region 7 with fail
      go_cut [26] from 19 to 26 (fun zv wx => zv = .bool true ∧ Only (fun _ => False) w0 wx)
      case first =>
        go_quiet (fail)
        go_wp2_with fail
        go_meet
        exact ⟨rfl, onlyQ _ _⟩
      case rest =>
      obtain ⟨rfl, oC⟩ := hcut
      generalize wc = w3 at *
      have HO := hide ((unhide HH).2.1.trans oC (fun _ _ e => e))
      clear oC
      go_wp2_with fail
      go_ret
      exact ⟨by rw [unhide HD]; rfl, unhide HO⟩
end
end Go.Proofs.Qxb6500414aGreat
