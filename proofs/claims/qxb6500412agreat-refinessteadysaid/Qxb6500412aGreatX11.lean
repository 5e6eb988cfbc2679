/-
  OWN WORK. TXN: bracket, seal, alone.
-/
import Derived.Test.Qxb6500412aGreatX10
namespace Go.Proofs.Qxb6500412aGreat
open Go.RowKit Go.PlainAid
set_option linter.unusedSimpArgs false
set_option linter.unusedVariables false

section
variable {q : Gnd} {w w' : World} {g x : Nat} {X : Xs} {op op' : Bool} {S S' C : Vu} {T : List (Tb × Hd)}
theorem XR.done (h : XR q w g x X op S) {rs : List (Nat × ByteArray)} {com : List ByteArray} (H : ST (q.done rs com w w') w' x op' S') (o : Only q.D w w') : XR (q.done rs com w w') w' g x X op' S' := by
  refine ⟨H, h.xm.keep o (fun c => (h.off g (.inl rfl)).1 (Gnd.D_A c)) (fun k hk c => (h.off k (.inr (.inl hk))).1 (Gnd.D_A c)) (fun k hk c => (h.off k (.inr (.inr hk))).1 (Gnd.D_A c)), fun k hk => ⟨fun c => ?_, (h.off k hk).2⟩⟩
  rcases Gnd.done_A c with d | d
  · exact (h.off k hk).1 d
  · have := h.xm.lt k hk; omega
set_option maxRecDepth 100000 in
theorem xbracket_any (H : XR q w g x X false S) : Calls Tryz.prog 162 #[.pointer (some ⟨g, 0, none⟩)] w fun e w' => e = .returned (.int .i64 0) ∧ XR q w' g x X true S ∧ Only q.S w w' := by
  have c0 := H.xm.has.c0
  have gl := H.xm.has.lt
  have C1 := hide (sbegin_shut H.st)
  have HX := hide H
  clear H
  go_enter Tryz.func162, Tryz.ntmps162
  go_wp2_with fail
  refine (unhide C1).mono ?_
  rintro e w1 ⟨rfl, h1, o1⟩
  have FF := hide (And.intro ((unhide HX).turn h1 o1) o1)
  clear C1 h1 o1 c0
  go_wp2_with fail
  go_ret
  exact ⟨rfl, unhide FF⟩
set_option maxRecDepth 100000 in
theorem xseal_no (H : XR q w g x X true S) (hC : ComF q.com C) {z : Int} (hz : z ≠ 0) : Calls Tryz.prog 164 #[.pointer (some ⟨g, 0, none⟩), .int .i64 z] w fun e w' => e = .returned (.int .i64 z) ∧ XR q w' g x X false C ∧ Only q.S w w' := by
  have c0 := H.xm.has.c0
  have gl := H.xm.has.lt
  have C1 := hide (sabort_open H.st hC)
  have HX := hide H
  have e0 : (z != 0) = true := by simpa using hz
  clear H hz
  go_enter Tryz.func164, Tryz.ntmps164
  go_wp2_with fail
  refine (unhide C1).mono ?_
  rintro e w1 ⟨rfl, h1, o1⟩
  have FF := hide (And.intro ((unhide HX).turn h1 o1) o1)
  clear C1 h1 o1 c0
  go_wp2_with fail
  go_ret
  exact ⟨rfl, unhide FF⟩
set_option maxRecDepth 100000 in
theorem xseal_ok (H : XR q w g x X true S) (hrc : q.recs.length ≤ 300) : Calls Tryz.prog 164 #[.pointer (some ⟨g, 0, none⟩), .int .i64 0] w fun e w' => e = .returned (.int .i64 0) ∧ ∃ rs com, XR (q.done rs com w w') w' g x X false S ∧ ComF com S ∧ CutInv q.blk rs q.com com ∧ Only q.D w w' := by
  have c0 := H.xm.has.c0
  have gl := H.xm.has.lt
  have C1 := hide (scommit_open H.st hrc)
  have HX := hide H
  clear H
  go_enter Tryz.func164, Tryz.ntmps164
  go_wp2_with fail
  refine (unhide C1).mono ?_
  rintro e w1 ⟨rfl, rs, com, h1, h2, h3, o1⟩
  have FF := hide (show ∃ rs com, XR (q.done rs com w w1) w1 g x X false S ∧ ComF com S ∧ CutInv q.blk rs q.com com ∧ Only q.D w w1 from ⟨rs, com, (unhide HX).done h1 o1, h2, h3, o1⟩)
  clear C1 h1 h2 h3 o1 c0
  go_wp2_with fail
  go_ret
  exact ⟨rfl, unhide FF⟩
/-- Somebody is in a transaction. -/
def Xs.any (X : Xs) : Prop := ∃ o, o < 4 ∧ X.act o = true
/-- What the head of a schema call answers. -/
def AlE (X : Xs) (s z : Int) : Prop := (¬ gdS s ∧ z = 20) ∨ (gdS s ∧ X.act s.toNat = true ∧ z = 3) ∨ (gdS s ∧ X.act s.toNat = false ∧ X.any ∧ z = 21) ∨ (gdS s ∧ ¬ X.any ∧ z = 0)
set_option maxRecDepth 100000 in
set_option maxHeartbeats 4000000 in
theorem xalone_any (H : XR q w g x X false S) (s : Int) : Calls Tryz.prog 166 #[.pointer (some ⟨g, 0, none⟩), .int .i64 s] w fun e w' => ∃ z, e = .returned (.int .i64 z) ∧ AlE X s z ∧ XR q w' g x X (decide (z = 0)) S ∧ Only q.S w w' := by
  have C1 := xgood_any s w
  have HX := hide H
  have gl := H.xm.has.lt
  by_cases hs : gdS s
  · rw [decide_eq_true hs] at C1
    have C1 := hide C1
    have Hgd := hide hs
    obtain ⟨n, rfl⟩ : ∃ n : Nat, s = n := ⟨s.toNat, by have := hs.1; omega⟩
    have hn : n < 4 := by have := hs.2; omega
    have n4 : (n : Int) < 4 := by omega
    have a0 := H.xm.has.act hn
    obtain ⟨b, hb⟩ : ∃ b : Bool, X.act n = b := ⟨_, rfl⟩
    have Hb := hide hb
    rw [hb] at a0
    clear hb H hs
    cases b with
    | true =>
      have FF := hide (show ∃ z : Int, (Ending.returned (.int .i64 3)) = .returned (.int .i64 z) ∧ AlE X n z ∧ XR q w g x X (decide (z = 0)) S ∧ Only q.S w w from ⟨3, rfl, .inr (.inl ⟨unhide Hgd, unhide Hb, rfl⟩), unhide HX, Only.refl _ _⟩)
      go_enter Tryz.func166, Tryz.ntmps166
      go_wp2_with fail
      refine (unhide C1).mono ?_
      rintro e w2 ⟨rfl, rfl⟩
      go_wp2_with fail
      go_ret
      exact unhide FF
    | false =>
      have C2 := hide (xbracket_any (unhide HX))
      go_enter Tryz.func166, Tryz.ntmps166
      go_wp2_with fail
      refine (unhide C1).mono ?_
      rintro e w2 ⟨rfl, rfl⟩
      clear C1
      go_upto_region 6 with fail
      clear a0
      go_loop [5] (fun jv => ∃ i : Nat, jv = .int .i64 i ∧ i ≤ 4 ∧ ∀ j, j < i → X.act j = false) (fun jv => 5 - (intOf jv).toNat)
      case atStart => exact ⟨0, rfl, by omega, fun j hj => by omega⟩
      case round =>
        obtain ⟨i, rfl, hi4, hall⟩ := hrel
        have HA := hide hall
        clear hall
        by_cases hi : i < 4
        · have a1 : decide ((i : Int) < 4) = true := decide_eq_true (by omega)
          have i4 : (i : Int) < 4 := by omega
          have d0 := (unhide HX).xm.has.act hi
          obtain ⟨b, hb⟩ : ∃ b : Bool, X.act i = b := ⟨_, rfl⟩
          rw [hb] at d0
          cases b with
          | true =>
            have FF := hide (show ∃ z : Int, (Ending.returned (.int .i64 21)) = .returned (.int .i64 z) ∧ AlE X n z ∧ XR q w g x X (decide (z = 0)) S ∧ Only q.S w w from ⟨21, rfl, .inr (.inr (.inl ⟨unhide Hgd, unhide Hb, ⟨i, hi, hb⟩, rfl⟩)), unhide HX, Only.refl _ _⟩)
            clear hb
            go_wp2_with fail
            go_ret
            exact unhide FF
          | false =>
            have HA2 := hide (show ∀ j, j < i + 1 → X.act j = false from fun j hj => by
              by_cases e : j = i
              · rw [e]; exact hb
              · exact unhide HA j (by omega))
            clear hb
            go_wp2_with fail
            go_round
            case rel => exact ⟨i + 1, by go_num, by omega, unhide HA2⟩
            case measure => simp [intOf]; omega
        · obtain rfl : i = 4 := by omega
          have HE := hide (show AlE X n 0 from .inr (.inr (.inr ⟨unhide Hgd, fun ⟨o, ho, h⟩ => (by rw [unhide HA o ho] at h; cases h), rfl⟩)))
          go_wp2_with fail
          refine (unhide C2).mono ?_
          rintro e w2 ⟨rfl, h2, o2⟩
          have FF := hide (And.intro h2 o2)
          clear C2 h2 o2
          go_wp2_with fail
          go_ret
          exact ⟨0, rfl, unhide HE, unhide FF⟩
  · rw [decide_eq_false hs] at C1
    have C1 := hide C1
    have FF := hide (show ∃ z : Int, (Ending.returned (.int .i64 20)) = .returned (.int .i64 z) ∧ AlE X s z ∧ XR q w g x X (decide (z = 0)) S ∧ Only q.S w w from ⟨20, rfl, .inl ⟨hs, rfl⟩, unhide HX, Only.refl _ _⟩)
    clear hs H
    go_enter Tryz.func166, Tryz.ntmps166
    go_wp2_with fail
    refine (unhide C1).mono ?_
    rintro e w2 ⟨rfl, rfl⟩
    go_wp2_with fail
    go_ret
    exact unhide FF
end
end Go.Proofs.Qxb6500412aGreat
