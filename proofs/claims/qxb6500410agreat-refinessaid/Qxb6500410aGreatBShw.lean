/-
  OWN WORK. THE B-TREE LAW: Shows.
-/
import Derived.Test.Qxb6500410aGreatBOr2
namespace Go.Proofs.Qxb6500410aGreat
open Go.RowKit Go.PlainAid
set_option linter.unusedSimpArgs false
set_option linter.unusedVariables false

theorem Vok.ext {S S' : Vu} (V : Vok S) (V' : Vok S') (h : ∀ i : Int, -1 ≤ i → i < 9 → Vz S i = Vz S' i) : S = S' := by
  funext i
  by_cases c : i < 8
  · have := h i (by omega) (by omega)
    unfold Vz at this
    rw [if_pos (by omega), if_pos (by omega)] at this
    simpa using this
  · rw [V.out i (by omega), V'.out i (by omega)]
def ShowR (q : Gnd) (w : World) (op : Bool) (S S' : Vu) (ob : Bool) (e : Ending) (w' : World) : Prop := ∃ b, e = .returned (.bool b) ∧ (b = true ↔ op = ob ∧ S = S') ∧ FV q w' op S ∧ Only q.S w w'
section
variable {q : Gnd} {w w' : World} {op : Bool} {S S' : Vu} {g tb : Nat} {iv : Value} {T : Nat → Bool} {its : List Itm}
set_option maxRecDepth 100000 in
set_option maxHeartbeats 4000000 in
theorem shows_any (A : FV q w op S) (G : GhAt w g tb iv T its) (R : GR S' T its) (sep : ∀ k, GhF g tb iv k → ¬ q.S k) (ob : Bool) :
    Calls Tryz.prog 14 #[.pointer (some ⟨q.f, 0, none⟩), .pointer (some ⟨g, 0, none⟩), .bool ob] w (ShowR q w op S S' ob) := by
  have V := A.ok
  have C0 := hide (vintxn_any A)
  go_enter Tryz.func14, Tryz.ntmps14
  go_wp2_with fail
  refine (unhide C0).mono ?_
  rintro e w1 ⟨rfl, rfl⟩
  clear C0
  by_cases ho : op = ob
  rotate_left
  · have b2 : (!(op == ob)) = true := by simpa using ho
    have HN := hide ho
    have HA := hide A
    clear ho
    go_wp2_with fail
    go_ret
    exact ⟨_, rfl, ⟨fun c => by simp at c, fun c => absurd c.1 (unhide HN)⟩, unhide HA, Only.refl _ _⟩
  subst ho
  have b2 : (!(op == op)) = false := by simp
  obtain ⟨a, cap, rfl⟩ := G.own.shape
  have hl := G.len
  have C1 := hide (vcount_any A)
  go_wp2_with fail
  refine (unhide C1).mono ?_
  rintro e w2 ⟨rfl, A2, o2⟩
  clear C1
  have HA2 := hide A2
  have HG2 := hide (G.keep o2 sep)
  have HO2 := hide o2
  have q1 := (unhide HG2).c1
  have hct : its.length = (al8 S').length := R.len
  clear A2 o2
  by_cases hc : (al8 S).length = its.length
  rotate_left
  · have b3 : (((al8 S).length : Int) != (its.length : Int)) = true := by simp; omega
    have HN := hide (show ¬ S = S' from fun e => hc (by rw [hct, e]))
    clear hc hct
    go_wp2_with fail
    go_ret
    exact ⟨_, rfl, ⟨fun c => by simp at c, fun c => absurd c.2 (unhide HN)⟩, unhide HA2, unhide HO2⟩
  have b3 : (((al8 S).length : Int) != (its.length : Int)) = false := by simp; omega
  clear hc hct
  go_upto_region 8 with fail
  go_loopw [9] (fun hv wr => ∃ h : Int, hv = .int .i64 h ∧ -1 ≤ h ∧ h ≤ 9 ∧ (∀ i : Int, -1 ≤ i → i < h → Vz S i = Vz S' i) ∧ FV q wr op S ∧ GhAt wr g tb (.slice a its.length cap) T its ∧ Only q.S w wr) (fun hv _ => (9 - intOf hv).toNat)
  case atStart => exact ⟨-1, rfl, by omega, by omega, fun i h1 h2 => by omega, unhide HA2, unhide HG2, unhide HO2⟩
  case round =>
    clear HA2 HG2 HO2 q1
    obtain ⟨h, rfl, h1, h2, hv, A3, G3, O3⟩ := hrel
    by_cases h9 : h ≤ 8
    · have n1 : decide (h ≤ 8) = true := decide_eq_true h9
      have CU := hide (vused_any A3 h)
      have HV := hide hv
      have HG3 := hide G3
      have HO3 := hide O3
      clear A3 G3 O3 hv
      go_wp2_with fail
      refine (unhide CU).mono ?_
      rintro e w4 ⟨rfl, A4, o4⟩
      have HA4 := hide A4
      have HO4 := hide ((unhide HO3).qt o4)
      have HG4 := hide ((unhide HG3).keep o4 sep)
      have CH := ghas_any (unhide HG4) h
      rw [R.hasT] at CH
      have CH := hide CH
      clear CU A4 o4 HG3 HO3
      go_wp2_with fail
      refine (unhide CH).mono ?_
      rintro e w5 ⟨rfl, rfl⟩
      clear CH
      have CO := hide (ordered_any (unhide HA4) (unhide HG4) R sep h)
      by_cases hu : (Vz S h).isSome = (Vz S' h).isSome
      rotate_left
      · have b4 : (!((Vz S h).isSome == (Vz S' h).isSome)) = true := by simpa using hu
        have HN := hide (show ¬ S = S' from fun e => hu (by rw [e]))
        clear hu
        go_wp2_with fail
        go_ret
        exact ⟨_, rfl, ⟨fun c => by simp at c, fun c => absurd c.2 (unhide HN)⟩, unhide HA4, unhide HO4⟩
      have b4 : (!((Vz S h).isSome == (Vz S' h).isSome)) = false := by simpa using hu
      clear hu
      go_wp2_with fail
      refine (unhide CO).mono ?_
      rintro e w6 ⟨b, rfl, hb, A6, o6⟩
      have HA6 := hide A6
      have HO6 := hide ((unhide HO4).qt o6)
      have HG6 := hide ((unhide HG4).keep o6 sep)
      have HB := hide hb
      clear CO A6 o6 HA4 HO4 HG4 hb
      cases b with
      | true =>
        go_wp2_with fail
        refine ⟨⟨h + 1, by go_num, by omega, by omega, fun i i1 i2 => ?_, unhide HA6, unhide HG6, unhide HO6⟩, by simp [intOf]; omega⟩
        by_cases e : i = h
        · rw [e]; exact (unhide HB).mp (by simp)
        · exact unhide HV i i1 (by omega)
      | false =>
        go_wp2_with fail
        go_ret
        exact ⟨_, rfl, ⟨fun c => by simp at c, fun c => by have := (unhide HB).mpr (by rw [c.2]); cases this⟩, unhide HA6, unhide HO6⟩
    · have n1 : decide (h ≤ 8) = false := decide_eq_false h9
      have HE := hide (show S = S' from V.ext R.ok (fun i i1 i2 => hv i i1 (by omega)))
      have HA3 := hide A3
      have HG3 := hide G3
      have HO3 := hide O3
      clear A3 G3 O3 hv
      go_upto_region 16 with fail
      go_loopw [11] (fun jv wr => ∃ i : Nat, jv = .int .i64 i ∧ i ≤ its.length ∧ FV q wr op S ∧ GhAt wr g tb (.slice a its.length cap) T its ∧ Only q.S w wr) (fun jv _ => 65 - (intOf jv).toNat)
      case atStart => exact ⟨0, rfl, Nat.zero_le _, unhide HA3, unhide HG3, unhide HO3⟩
      case round =>
        clear HA3 HG3 HO3
        obtain ⟨i, rfl, hi, A4, G4, O4⟩ := hrel
        have q1 := G4.c1
        by_cases hs : i < its.length
        · have n2 : decide ((i : Int) < (its.length : Int)) = true := decide_eq_true (by omega)
          have n2p : (i : Int) < (its.length : Int) := by omega
          obtain ⟨x, hx⟩ := get_ex hs
          obtain ⟨ib, ha, d0, d1, d2⟩ := G4.own.at_ hx
          subst ha
          have hg : getS S (x.h : Int) x.K = .tuple #[.string x.V, .int .i64 0] := by
            have hm := R.mem.mp (List.mem_of_getElem? hx)
            rw [unhide HE]
            unfold getS
            have hz : Vz S' (x.h : Int) = S' x.h := by
              unfold Vz
              rw [if_pos (by omega)]
              rfl
            rw [hz]
            cases hl : S' x.h with
            | none => rw [hl] at hm; simp at hm
            | some l =>
              rw [hl] at hm
              simp only
              rw [getL_mem (R.ok.srt _ _ hl) hm.2 rfl]
              rfl
          have C := hide (fun w (o : Only (fun _ => False) wr w) => vget_any (A4.quiet o) (x.h : Int) x.K)
          rw [hg] at C
          have HG4 := hide G4
          have HO4 := hide O4
          have HS := hide hs
          have HX := hide hx
          clear A4 G4 O4 hg hx hs
          go_upto_region 18 with fail
          have o0 := (Only.refl (fun _ => False) wr)
          go_region_with (go_at_call 40; refine (unhide C wr.drew o0.drew).mono ?_; rintro e w5 ⟨rfl, A5, o5⟩)
          all_goals
            have G5 := ((unhide HG4).quiet o0.drew).keep o5 sep
            have q1 := G5.c1
            have O5 := ((unhide HO4).q0 o0.drew).qt o5
            have HF := hide (And.intro A5 (And.intro G5 O5))
            obtain ⟨ib', ha', d0, d1, d2⟩ := G5.own.at_ (unhide HX)
            cases ha'
            have b5 := seq_t (show x.V = x.V from rfl)
            clear A5 G5 O5 o5
            go_wp2_with fail
            exact ⟨⟨i + 1, by go_num, by have := unhide HS; omega, (unhide HF).1, (unhide HF).2.1, (unhide HF).2.2⟩, by simp [intOf]; omega⟩
        · have n2 : decide ((i : Int) < (its.length : Int)) = false := decide_eq_false (by omega)
          have n2p : ¬ ((i : Int) < (its.length : Int)) := by omega
          have HF := hide (And.intro A4 O4)
          clear A4 G4 O4
          go_wp2_with fail
          go_ret
          exact ⟨_, rfl, ⟨fun _ => ⟨rfl, unhide HE⟩, fun _ => rfl⟩, unhide HF⟩
end
end Go.Proofs.Qxb6500410aGreat
