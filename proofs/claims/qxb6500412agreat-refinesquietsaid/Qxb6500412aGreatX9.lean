/-
  OWN WORK. TXN: end, Begin, Rollback, Active, LockOf.
-/
import Derived.Test.Qxb6500412aGreatX8
namespace Go.Proofs.Qxb6500412aGreat
open Go.RowKit Go.PlainAid
set_option linter.unusedSimpArgs false
set_option linter.unusedVariables false

theorem Xs.rel1_w (X : Xs) (s i : Nat) : (X.rel1 s i).wv = X.wv ∧ (X.rel1 s i).ws = X.ws ∧ (X.rel1 s i).act = X.act := by
  unfold Xs.rel1
  split
  · exact ⟨rfl, rfl, rfl⟩
  · exact ⟨rfl, rfl, rfl⟩
theorem Xs.relN_w (X : Xs) (s : Nat) : ∀ n, (X.relN s n).wv = X.wv ∧ (X.relN s n).ws = X.ws ∧ (X.relN s n).act = X.act
  | 0 => ⟨rfl, rfl, rfl⟩
  | n + 1 => by
    obtain ⟨a, b, c⟩ := Xs.relN_w X s n
    obtain ⟨d, e, f⟩ := Xs.rel1_w (X.relN s n) s n
    exact ⟨d.trans a, e.trans b, f.trans c⟩
/-- Session s has ended. -/
def Xs.endS (X : Xs) (s : Nat) : Xs := ((X.setA s false).setW s (.slice none 0 0) []).relN s 3
section
variable {w w' : World} {g t : Nat} {X Y : Xs} {s : Nat}
/-- The manager's own block turned; the write sets are as they were. -/
theorem XM.own (M : XM w g t X) (hX : XH w' g t Y) (ho : Only (fun k => k = g) w w') (h1 : Y.wv = X.wv) (h2 : Y.ws = X.ws) : XM w' g t Y := by
  refine ⟨hX, fun s hs => ?_, fun a b ha hb hab k => ?_⟩
  · rw [h1, h2]
    exact (M.ws s hs).keep ho (fun k hk e => M.mg hs hk e) (fun k hk e => M.ig hs hk e)
  · rw [h1]
    exact M.sep a b ha hb hab k
theorem XM.setA (M : XM w g t X) (hs : s < 4) (b : Bool) : XM (w.setCell ⟨g, 1 + s, none⟩ (.bool b)) g t (X.setA s b) := M.own (M.has.setA hs b) (only1 _ _) rfl rfl
set_option maxRecDepth 100000 in
set_option maxHeartbeats 4000000 in
theorem xend_any (M : XM w g t X) (hs : s < 4) : Calls Tryz.prog 165 #[.pointer (some ⟨g, 0, none⟩), .int .i64 (s : Int)] w fun e w' => e = .returned (.tuple #[]) ∧ XM w' g t (X.endS s) ∧ Only (fun k => k = g) w w' := by
  have s4 : (s : Int) < 4 := by omega
  have gl := M.has.lt
  have a0 := M.has.act hs
  have af := M.has.fr (1 + s)
  have M1 := M.setA hs false
  have o1 : Only (fun k => k = g) w (w.setCell ⟨g, 1 + s, none⟩ (.bool false)) := only1 _ _
  have b0 := M1.has.wset hs
  have bf := M1.has.fr (23 + s)
  have o2 : Only (fun k => k = g) (w.setCell ⟨g, 1 + s, none⟩ (.bool false)) ((w.setCell ⟨g, 1 + s, none⟩ (.bool false)).setCell ⟨g, 23 + s, none⟩ (.slice none 0 0)) := only1 _ _
  have M2 : XM ((w.setCell ⟨g, 1 + s, none⟩ (.bool false)).setCell ⟨g, 23 + s, none⟩ (.slice none 0 0)) g t ((X.setA s false).setW s (.slice none 0 0) []) := M1.setW hs (o2.mono (fun k _ e => .inl e)) (M1.has.setW hs _ _) (WL.nil _) (fun k hk => by simp [Value.ownBlock] at hk)
  have C1 := hide (xrelease_any M2.has hs)
  have HM2 := hide M2
  have HO := hide (o1.trans o2 (fun _ _ h => h))
  obtain ⟨b1, hb1⟩ : ∃ b : Bool, X.act s = b := ⟨_, rfl⟩
  obtain ⟨v1, hv1⟩ : ∃ v, (X.setA s false).wv s = v := ⟨_, rfl⟩
  rw [hb1] at a0
  rw [hv1] at b0
  clear M M1 M2 o1 o2 hb1 hv1
  go_enter Tryz.func165, Tryz.ntmps165
  go_wp2_with fail
  refine (unhide C1).mono ?_
  rintro e w3 ⟨rfl, h3, o3⟩
  obtain ⟨r1, r2, _⟩ := Xs.relN_w ((X.setA s false).setW s (.slice none 0 0) []) s 3
  have FF := hide (And.intro ((unhide HM2).own h3 o3 r1 r2) ((unhide HO).trans o3 (fun _ _ h => h)))
  clear C1 h3 o3 r1 r2 a0 af b0 bf
  go_wp2_with fail
  go_end0
  exact ⟨rfl, unhide FF⟩
/-- What Begin answers and leaves. -/
def bgE (X : Xs) (s : Int) : Int := if gdS s then (if X.act s.toNat = true then 3 else 0) else 20
set_option maxRecDepth 100000 in
set_option maxHeartbeats 4000000 in
theorem xbegin_any (M : XM w g t X) (s : Int) : Calls Tryz.prog 106 #[.pointer (some ⟨g, 0, none⟩), .int .i64 s] w fun e w' => e = .returned (.int .i64 (bgE X s)) ∧ XM w' g t (if bgE X s = 0 then X.setA s.toNat true else X) ∧ Only (fun k => k = g) w w' := by
  have C1 := xgood_any s w
  unfold bgE
  by_cases hs : gdS s
  · rw [decide_eq_true hs] at C1
    rw [if_pos hs]
    obtain ⟨n, rfl⟩ : ∃ n : Nat, s = n := ⟨s.toNat, by have := hs.1; omega⟩
    have hn : n < 4 := by have := hs.2; omega
    have a0 := M.has.act hn
    have af := M.has.fr (1 + n)
    have gl := M.has.lt
    have C1 := hide C1
    rw [show (n : Int).toNat = n by omega]
    have HM := hide M
    have H2 := hide (And.intro (M.setA hn true) (only1 (p := g) _ _ : Only (fun k => k = g) w (w.setCell ⟨g, 1 + n, none⟩ (.bool true))))
    clear hs M
    have n4 : (n : Int) < 4 := by omega
    obtain ⟨b, hb⟩ : ∃ b : Bool, X.act n = b := ⟨_, rfl⟩
    rw [hb] at a0 ⊢
    clear hb
    cases b with
    | true =>
      rw [if_pos rfl, if_neg (by omega)]
      go_enter Tryz.func106, Tryz.ntmps106
      go_wp2_with fail
      refine (unhide C1).mono ?_
      rintro e w2 ⟨rfl, rfl⟩
      go_wp2_with fail
      go_ret
      exact ⟨rfl, unhide HM, Only.refl _ _⟩
    | false =>
      rw [if_neg (by simp), if_pos rfl]
      go_enter Tryz.func106, Tryz.ntmps106
      go_wp2_with fail
      refine (unhide C1).mono ?_
      rintro e w2 ⟨rfl, rfl⟩
      go_wp2_with fail
      go_ret
      exact ⟨rfl, unhide H2⟩
  · rw [decide_eq_false hs] at C1
    rw [if_neg hs, if_neg (by omega)]
    have C1 := hide C1
    have HM := hide M
    clear M hs
    go_enter Tryz.func106, Tryz.ntmps106
    go_wp2_with fail
    refine (unhide C1).mono ?_
    rintro e w2 ⟨rfl, rfl⟩
    go_wp2_with fail
    go_ret
    exact ⟨rfl, unhide HM, Only.refl _ _⟩
theorem inTx_ok {s : Int} (h : inTx X s = 0) : gdS s ∧ X.act s.toNat = true := by
  unfold inTx at h
  by_cases hs : gdS s
  · rw [if_pos hs] at h
    by_cases ha : X.act s.toNat = true
    · exact ⟨hs, ha⟩
    · rw [if_neg ha] at h; omega
  · rw [if_neg hs] at h; omega
set_option maxRecDepth 100000 in
set_option maxHeartbeats 4000000 in
theorem xrollback_any (M : XM w g t X) (s : Int) : Calls Tryz.prog 108 #[.pointer (some ⟨g, 0, none⟩), .int .i64 s] w fun e w' => e = .returned (.int .i64 (inTx X s)) ∧ XM w' g t (if inTx X s = 0 then X.endS s.toNat else X) ∧ Only (fun k => k = g) w w' := by
  have C1 := xinTxn_any M.has s
  by_cases h0 : inTx X s = 0
  · obtain ⟨hs, _⟩ := inTx_ok h0
    rw [h0] at C1 ⊢
    rw [if_pos rfl]
    obtain ⟨n, rfl⟩ : ∃ n : Nat, s = n := ⟨s.toNat, by have := hs.1; omega⟩
    have hn : n < 4 := by have := hs.2; omega
    have C2 := hide (xend_any M hn)
    rw [show (n : Int).toNat = n by omega]
    have C1 := hide C1
    clear M hs h0
    go_enter Tryz.func108, Tryz.ntmps108
    go_wp2_with fail
    refine (unhide C1).mono ?_
    rintro e w2 ⟨rfl, rfl⟩
    go_wp2_with fail
    refine (unhide C2).mono ?_
    rintro e w2 ⟨rfl, h2, o2⟩
    have FF := hide (And.intro h2 o2)
    clear C2 h2 o2
    go_wp2_with fail
    go_ret
    exact ⟨rfl, unhide FF⟩
  · rw [if_neg h0]
    obtain ⟨z, hz⟩ : ∃ z, inTx X s = z := ⟨_, rfl⟩
    rw [hz] at C1 h0 ⊢
    have C1 := hide C1
    have HM := hide M
    have e0 : (z == 0) = false := ne_intO h0
    clear M hz h0
    go_enter Tryz.func108, Tryz.ntmps108
    go_wp2_with fail
    refine (unhide C1).mono ?_
    rintro e w2 ⟨rfl, rfl⟩
    go_wp2_with fail
    go_ret
    exact ⟨rfl, unhide HM, Only.refl _ _⟩
def actP (X : Xs) (s : Int) : Bool := decide (gdS s) && X.act s.toNat
set_option maxRecDepth 100000 in
theorem xactive_any (H : XH w g t X) (s : Int) : Calls Tryz.prog 63 #[.pointer (some ⟨g, 0, none⟩), .int .i64 s] w fun e w' => e = .returned (.bool (actP X s)) ∧ w = w' := by
  have C1 := xgood_any s w
  unfold actP
  by_cases hs : gdS s
  · rw [decide_eq_true hs] at C1 ⊢
    obtain ⟨n, rfl⟩ : ∃ n : Nat, s = n := ⟨s.toNat, by have := hs.1; omega⟩
    have hn : n < 4 := by have := hs.2; omega
    have a0 := H.act hn
    have gl := H.lt
    have C1 := hide C1
    rw [show (n : Int).toNat = n by omega, Bool.true_and]
    have n4 : (n : Int) < 4 := by omega
    obtain ⟨b, hb⟩ : ∃ b : Bool, X.act n = b := ⟨_, rfl⟩
    rw [hb] at a0 ⊢
    clear hb hs H
    go_enter Tryz.func63, Tryz.ntmps63
    go_wp2_with fail
    refine (unhide C1).mono ?_
    rintro e w2 ⟨rfl, rfl⟩
    go_wp2_with fail
    go_ret
    exact ⟨rfl, rfl⟩
  · rw [decide_eq_false hs] at C1 ⊢
    rw [Bool.false_and]
    have C1 := hide C1
    clear hs H
    go_enter Tryz.func63, Tryz.ntmps63
    go_wp2_with fail
    refine (unhide C1).mono ?_
    rintro e w2 ⟨rfl, rfl⟩
    go_wp2_with fail
    go_ret
    exact ⟨rfl, rfl⟩
/-- A session's mode on a table. -/
def LkR (X : Xs) (s : Int) (nm : ByteArray) (z : Int) : Prop := ∃ r, SlR X nm r ∧ z = if gdS s ∧ 0 ≤ r then X.md r.toNat s.toNat else 0
set_option maxRecDepth 100000 in
set_option maxHeartbeats 4000000 in
theorem xlockOf_any (H : XH w g t X) (s : Int) (nm : ByteArray) : Calls Tryz.prog 136 #[.pointer (some ⟨g, 0, none⟩), .int .i64 s, .string nm] w fun e w' => ∃ z, e = .returned (.int .i64 z) ∧ LkR X s nm z ∧ w = w' := by
  have C1 := hide (xslotOf_any H nm)
  have C2 := xgood_any s w
  have HG := hide H
  have gl := H.lt
  clear H
  go_enter Tryz.func136, Tryz.ntmps136
  go_wp2_with fail
  refine (unhide C1).mono ?_
  rintro e w2 ⟨r, rfl, hr, rfl⟩
  have HR := hide hr
  clear C1
  by_cases hs : gdS s
  · rw [decide_eq_true hs] at C2
    have C2 := hide C2
    obtain ⟨n, rfl⟩ : ∃ n : Nat, s = n := ⟨s.toNat, by have := hs.1; omega⟩
    have hn : n < 4 := by have := hs.2; omega
    have n4 : (n : Int) < 4 := by omega
    rcases hr with ⟨rfl, _⟩ | ⟨i, hi, rfl, _, _⟩
    · have FF := hide (show LkR X n nm 0 from ⟨-1, unhide HR, by rw [if_neg (by omega)]⟩)
      clear hs
      go_wp2_with fail
      refine (unhide C2).mono ?_
      rintro e w2 ⟨rfl, rfl⟩
      go_wp2_with fail
      go_ret
      exact ⟨_, rfl, unhide FF, rfl⟩
    · have FF := hide (show LkR X n nm (X.md i n) from ⟨i, unhide HR, by rw [if_pos ⟨hs, by omega⟩]; rfl⟩)
      have m0 := (unhide HG).mode hi hn
      have i3 : (i : Int) < 3 := by omega
      have i0 : decide ((i : Int) < 0) = false := decide_eq_false (by omega)
      generalize X.md i n = z at *
      clear hs
      go_wp2_with fail
      refine (unhide C2).mono ?_
      rintro e w2 ⟨rfl, rfl⟩
      go_wp2_with fail
      go_ret
      exact ⟨_, rfl, unhide FF, rfl⟩
  · rw [decide_eq_false hs] at C2
    have C2 := hide C2
    have FF := hide (show LkR X s nm 0 from ⟨r, unhide HR, by rw [if_neg (fun h => hs h.1)]⟩)
    clear hs hr
    go_wp2_with fail
    refine (unhide C2).mono ?_
    rintro e w2 ⟨rfl, rfl⟩
    go_wp2_with fail
    go_ret
    exact ⟨_, rfl, unhide FF, rfl⟩
end
end Go.Proofs.Qxb6500412aGreat
