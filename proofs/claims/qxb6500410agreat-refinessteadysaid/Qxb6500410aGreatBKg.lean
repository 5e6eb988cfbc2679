/-
  OWN WORK. THE B-TREE LAW: Got, Sought.
-/
import Derived.Test.Qxb6500410aGreatBKj
namespace Go.Proofs.Qxb6500410aGreat
open Go.RowKit Go.PlainAid
set_option linter.unusedSimpArgs false
set_option linter.unusedVariables false

section
variable {lo : Nat} {w w' : World} {kb : Nat} {q : Gnd} {op : Bool} {S C P : Vu} {n b v : Gho} {N : Int}
theorem KJ.oS (J : KJ lo w kb q op S C P n b v N) (ho : Only q.S w w') : Only (fun k => lo ≤ k) w w' := J.k.oS (Only.refl _ _) ho
set_option maxRecDepth 100000 in
set_option maxHeartbeats 4000000 in
theorem got_any (J : KJ lo w kb q op S C P n b v N) (h : Int) (k : ByteArray) : Calls Tryz.prog 48 #[.pointer (some ⟨kb, 0, none⟩), .int .i64 h, .string k] w fun e w' => e = .returned (.bool true) ∧ KP lo w kb q P v N w' := by
  have c2 := J.k.c2
  have C1 := vget_any J.fv h k
  cases hz : Vz S h with
  | none =>
    have hg : getS S h k = .tuple #[.string bE, .int .i64 7] := by unfold getS; rw [hz]
    rw [hg] at C1
    have C1 := hide C1
    go_enter Tryz.func48, Tryz.ntmps48
    go_wp2_with fail
    refine (unhide C1).mono ?_
    rintro e w1 ⟨rfl, A1, o1⟩
    have J1 := J.forest o1 A1
    have HP := hide (J1.same (J.oS o1))
    have c3 := J1.k.c3
    have CH := ghas_any J1.k.gn h
    rw [J1.rn.hasT, hz] at CH
    have CH := hide CH
    have b1 := iE_t (show bE = bE from rfl)
    clear A1 o1 C1 hg hz J1
    go_wp2_with fail
    refine (unhide CH).mono ?_
    rintro e w2 ⟨rfl, rfl⟩
    go_wp2_with fail
    go_ret
    exact ⟨by rfl, unhide HP⟩
  | some l =>
    have hl : Lz S h = l := by unfold Lz; rw [hz]; rfl
    cases hg0 : getL k l with
    | none =>
      have hg : getS S h k = .tuple #[.string bE, .int .i64 9] := by unfold getS; rw [hz]; simp only; rw [hg0]; rfl
      rw [hg] at C1
      have C1 := hide C1
      go_enter Tryz.func48, Tryz.ntmps48
      go_wp2_with fail
      refine (unhide C1).mono ?_
      rintro e w1 ⟨rfl, A1, o1⟩
      have J1 := J.forest o1 A1
      have HP := hide (J1.same (J.oS o1))
      have c3 := J1.k.c3
      have CH := ghas_any J1.k.gn h
      rw [J1.rn.hasT, hz] at CH
      have CH := hide CH
      have CA := hide (gat_any J1.k.gn h k)
      have HJ := hide J1
      have b1 := iE_t (show bE = bE from rfl)
      clear A1 o1 C1 hg J1
      go_wp2_with fail
      refine (unhide CH).mono ?_
      rintro e w2 ⟨rfl, rfl⟩
      go_wp2_with fail
      refine (unhide CA).mono ?_
      rintro e w2 ⟨r, rfl, R, rfl⟩
      have hr : r = -1 := by
        rcases (unhide HJ).rn.at_ R with ⟨e, _⟩ | ⟨i, y, _, _, _, _, e⟩
        · exact e
        · rw [hl, hg0] at e; cases e
      subst hr
      clear R
      go_wp2_with fail
      go_ret
      exact ⟨by rfl, unhide HP⟩
    | some x =>
      have hg : getS S h k = .tuple #[.string x, .int .i64 0] := by unfold getS; rw [hz]; simp only; rw [hg0]; rfl
      rw [hg] at C1
      have C1 := hide C1
      go_enter Tryz.func48, Tryz.ntmps48
      go_wp2_with fail
      refine (unhide C1).mono ?_
      rintro e w1 ⟨rfl, A1, o1⟩
      have J1 := J.forest o1 A1
      have HP := hide (J1.same (J.oS o1))
      have c3 := J1.k.c3
      have CH := ghas_any J1.k.gn h
      rw [J1.rn.hasT, hz] at CH
      have CH := hide CH
      have CA := hide (gat_any J1.k.gn h k)
      have HJ := hide J1
      clear A1 o1 C1 hg J1
      go_wp2_with fail
      refine (unhide CH).mono ?_
      rintro e w2 ⟨rfl, rfl⟩
      go_wp2_with fail
      refine (unhide CA).mono ?_
      rintro e w2 ⟨r, rfl, R, rfl⟩
      have hr : ∃ (i : Nat) (y : Itm), r = i ∧ n.its[i]? = some y ∧ x = y.V := by
        rcases (unhide HJ).rn.at_ R with ⟨_, e⟩ | ⟨i, y, hy, hi, _, _, e⟩
        · rw [hl, hg0] at e; cases e
        · rw [hl, hg0] at e; cases e; exact ⟨i, y, hi, hy, rfl⟩
      obtain ⟨i, y, rfl, hy, rfl⟩ := hr
      obtain ⟨a, cap, hiv⟩ := (unhide HJ).k.gn.own.shape
      have hown := (unhide HJ).k.gn.own
      have q1 := (unhide HJ).k.gn.c1
      rw [hiv] at hown q1
      obtain ⟨ib, ha, d0, d1, d2⟩ := hown.at_ hy
      subst ha
      have il := get_lt hy
      have ip : (i : Int) < (n.its.length : Int) := by omega
      have z0 : decide ((i : Int) < 0) = false := decide_eq_false (by omega)
      have b3 := seq_t (show y.V = y.V from rfl)
      clear R hy hown hiv
      go_wp2_with fail
      go_ret
      exact ⟨by rfl, unhide HP⟩
end
end Go.Proofs.Qxb6500410aGreat
