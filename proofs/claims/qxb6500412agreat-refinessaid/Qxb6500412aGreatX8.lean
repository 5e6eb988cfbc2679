/-
  OWN WORK. TXN: the lock table turned (written by tools/gen_x8.py).
-/
import Derived.Test.Qxb6500412aGreatX7
namespace Go.Proofs.Qxb6500412aGreat
open Go.RowKit Go.PlainAid
set_option linter.unusedSimpArgs false
set_option linter.unusedVariables false

def Xs.setM (X : Xs) (i s : Nat) (m : Int) : Xs := { X with md := fun a b => if a = i ∧ b = s then m else X.md a b }
def Xs.zeroS (X : Xs) (i : Nat) : Xs := { X with us := fun a => if a = i then false else X.us a, nm := fun a => if a = i then ⟨#[]⟩ else X.nm a, md := fun a b => if a = i then 0 else X.md a b }
def Xs.setA (X : Xs) (s : Nat) (b : Bool) : Xs := { X with act := fun a => if a = s then b else X.act a }
/-- Session s lets go of slot i. -/
def Xs.rel1 (X : Xs) (s i : Nat) : Xs := if (X.setM i s 0).bar i (-1) 2 = true then X.setM i s 0 else (X.setM i s 0).zeroS i
def Xs.relN (X : Xs) (s : Nat) : Nat → Xs
  | 0 => X
  | n + 1 => (X.relN s n).rel1 s n
section
variable {w w' : World} {g t : Nat} {X : Xs} {s i : Nat}
theorem XH.put (h : XH w g t X) {Y : Xs} {j : Nat} {v : Value} (hY : ∀ k, k < 27 → (if k = j then v else xcell t X k) = xcell t Y k) : XH (w.setCell ⟨g, j, none⟩ v) g t Y := by
  have := Has.setCell h j v
  rw [tabV_set] at this
  unfold XH
  exact cast (congrArg (fun c => Has (w.setCell ⟨g, j, none⟩ v) g c 134) (tabV_congr 27 hY)) this
theorem XH.setM (h : XH w g t X) (hi : i < 3) (hs : s < 4) (m : Int) : XH (w.setCell ⟨g, 5 + i * 6 + 2 + s, none⟩ (.int .i64 m)) g t (X.setM i s m) := by
  refine h.put (fun k hk => ?_)
  unfold xcell
  by_cases e : k = 5 + i * 6 + 2 + s
  · subst e
    rw [if_pos rfl, if_neg (by omega), if_neg (by omega), if_pos (by omega), show (5 + i * 6 + 2 + s - 5) / 6 = i by omega, show (5 + i * 6 + 2 + s - 5) % 6 = 2 + s by omega]
    unfold slC
    rw [if_neg (by omega), if_neg (by omega), show 2 + s - 2 = s by omega]
    show _ = Value.int .i64 (if i = i ∧ s = s then m else X.md i s)
    rw [if_pos ⟨rfl, rfl⟩]
  · rw [if_neg e]
    by_cases e0 : k = 0
    · rw [if_pos e0, if_pos e0]
    · rw [if_neg e0, if_neg e0]
      by_cases e1 : k < 5
      · rw [if_pos e1, if_pos e1]; rfl
      · rw [if_neg e1, if_neg e1]
        by_cases e2 : k < 23
        · rw [if_pos e2, if_pos e2]
          unfold slC
          by_cases f0 : (k - 5) % 6 = 0
          · rw [if_pos f0, if_pos f0]; rfl
          · rw [if_neg f0, if_neg f0]
            by_cases f1 : (k - 5) % 6 = 1
            · rw [if_pos f1, if_pos f1]; rfl
            · rw [if_neg f1, if_neg f1]
              show _ = Value.int .i64 (if (k - 5) / 6 = i ∧ (k - 5) % 6 - 2 = s then m else X.md ((k - 5) / 6) ((k - 5) % 6 - 2))
              rw [if_neg (by omega)]
        · rw [if_neg e2, if_neg e2]; rfl
theorem XH.setA (h : XH w g t X) (hs : s < 4) (b : Bool) : XH (w.setCell ⟨g, 1 + s, none⟩ (.bool b)) g t (X.setA s b) := by
  refine h.put (fun k hk => ?_)
  unfold xcell
  by_cases e : k = 1 + s
  · subst e
    rw [if_pos rfl, if_neg (by omega), if_pos (by omega), show 1 + s - 1 = s by omega]
    show _ = Value.bool (if s = s then b else X.act s)
    rw [if_pos rfl]
  · rw [if_neg e]
    by_cases e0 : k = 0
    · rw [if_pos e0, if_pos e0]
    · rw [if_neg e0, if_neg e0]
      by_cases e1 : k < 5
      · rw [if_pos e1, if_pos e1]
        show _ = Value.bool (if k - 1 = s then b else X.act (k - 1))
        rw [if_neg (by omega)]
      · rw [if_neg e1, if_neg e1]; rfl
theorem XH.zeroS (h : XH w g t X) (hi : i < 3) : XH ((((((w.setCell ⟨g, 5 + i * 6, none⟩ (.bool false)).setCell ⟨g, 5 + i * 6 + 1, none⟩ (.string ⟨#[]⟩)).setCell ⟨g, 5 + i * 6 + 2, none⟩ (.int .i64 0)).setCell ⟨g, 5 + i * 6 + 3, none⟩ (.int .i64 0)).setCell ⟨g, 5 + i * 6 + 4, none⟩ (.int .i64 0)).setCell ⟨g, 5 + i * 6 + 5, none⟩ (.int .i64 0)) g t (X.zeroS i) := by
  have h6 : Has ((((((w.setCell ⟨g, 5 + i * 6, none⟩ (.bool false)).setCell ⟨g, 5 + i * 6 + 1, none⟩ (.string ⟨#[]⟩)).setCell ⟨g, 5 + i * 6 + 2, none⟩ (.int .i64 0)).setCell ⟨g, 5 + i * 6 + 3, none⟩ (.int .i64 0)).setCell ⟨g, 5 + i * 6 + 4, none⟩ (.int .i64 0)).setCell ⟨g, 5 + i * 6 + 5, none⟩ (.int .i64 0)) g _ 134 := (((((Has.setCell h (5 + i * 6) (.bool false)).setCell (5 + i * 6 + 1) (.string ⟨#[]⟩)).setCell (5 + i * 6 + 2) (.int .i64 0)).setCell (5 + i * 6 + 3) (.int .i64 0)).setCell (5 + i * 6 + 4) (.int .i64 0)).setCell (5 + i * 6 + 5) (.int .i64 0)
  rw [tabV_set, tabV_set, tabV_set, tabV_set, tabV_set, tabV_set] at h6
  unfold XH
  refine cast (congrArg (fun c => Has ((((((w.setCell ⟨g, 5 + i * 6, none⟩ (.bool false)).setCell ⟨g, 5 + i * 6 + 1, none⟩ (.string ⟨#[]⟩)).setCell ⟨g, 5 + i * 6 + 2, none⟩ (.int .i64 0)).setCell ⟨g, 5 + i * 6 + 3, none⟩ (.int .i64 0)).setCell ⟨g, 5 + i * 6 + 4, none⟩ (.int .i64 0)).setCell ⟨g, 5 + i * 6 + 5, none⟩ (.int .i64 0)) g c 134) (tabV_congr 27 (fun k hk => ?_))) h6
  unfold xcell
  by_cases hin : 5 + i * 6 ≤ k ∧ k < 5 + i * 6 + 6
  · obtain ⟨f, rfl⟩ : ∃ f, k = 5 + i * 6 + f := ⟨k - (5 + i * 6), by omega⟩
    have hf : f < 6 := by omega
    have hR : (if 5 + i * 6 + f = 0 then Value.pointer (some ⟨t, 0, none⟩) else if 5 + i * 6 + f < 5 then .bool ((X.zeroS i).act (5 + i * 6 + f - 1)) else if 5 + i * 6 + f < 23 then slC (X.zeroS i) ((5 + i * 6 + f - 5) / 6) ((5 + i * 6 + f - 5) % 6) else (X.zeroS i).wv (5 + i * 6 + f - 23)) = slC (X.zeroS i) i f := by
      rw [if_neg (by omega), if_neg (by omega), if_pos (by omega), show (5 + i * 6 + f - 5) / 6 = i by omega, show (5 + i * 6 + f - 5) % 6 = f by omega]
    rw [hR]
    unfold slC
    have hu : (X.zeroS i).us i = false := if_pos rfl
    have hn : (X.zeroS i).nm i = ⟨#[]⟩ := if_pos rfl
    have hd : ∀ b, (X.zeroS i).md i b = 0 := fun _ => if_pos rfl
    rw [hu, hn, hd]
    obtain rfl | rfl | rfl | rfl | rfl | rfl : f = 0 ∨ f = 1 ∨ f = 2 ∨ f = 3 ∨ f = 4 ∨ f = 5 := by omega
    · simp
    · simp
    · simp
    · simp
    · simp
    · simp
  · rw [if_neg (by omega), if_neg (by omega), if_neg (by omega), if_neg (by omega), if_neg (by omega), if_neg (by omega)]
    by_cases e0 : k = 0
    · rw [if_pos e0, if_pos e0]
    · rw [if_neg e0, if_neg e0]
      by_cases e1 : k < 5
      · rw [if_pos e1, if_pos e1]; rfl
      · rw [if_neg e1, if_neg e1]
        by_cases e2 : k < 23
        · rw [if_pos e2, if_pos e2]
          unfold slC
          have hne : (k - 5) / 6 ≠ i := by omega
          have hu : (X.zeroS i).us ((k - 5) / 6) = X.us ((k - 5) / 6) := if_neg hne
          have hn : (X.zeroS i).nm ((k - 5) / 6) = X.nm ((k - 5) / 6) := if_neg hne
          have hd : ∀ b, (X.zeroS i).md ((k - 5) / 6) b = X.md ((k - 5) / 6) b := fun _ => if_neg hne
          rw [hu, hn, hd]
        · rw [if_neg e2, if_neg e2]; rfl
theorem zonly6 (w : World) (g i : Nat) : Only (fun k => k = g) w ((((((w.setCell ⟨g, 5 + i * 6, none⟩ (.bool false)).setCell ⟨g, 5 + i * 6 + 1, none⟩ (.string ⟨#[]⟩)).setCell ⟨g, 5 + i * 6 + 2, none⟩ (.int .i64 0)).setCell ⟨g, 5 + i * 6 + 3, none⟩ (.int .i64 0)).setCell ⟨g, 5 + i * 6 + 4, none⟩ (.int .i64 0)).setCell ⟨g, 5 + i * 6 + 5, none⟩ (.int .i64 0)) := (((((only1 (p := g) _ _).trans (only1 (p := g) _ _) (fun _ _ h => h)).trans (only1 (p := g) _ _) (fun _ _ h => h)).trans (only1 (p := g) _ _) (fun _ _ h => h)).trans (only1 (p := g) _ _) (fun _ _ h => h)).trans (only1 (p := g) _ _) (fun _ _ h => h)
set_option maxRecDepth 100000 in
set_option maxHeartbeats 8000000 in
theorem xrelease_any (H : XH w g t X) (hs : s < 4) : Calls Tryz.prog 231 #[.pointer (some ⟨g, 0, none⟩), .int .i64 (s : Int)] w fun e w' => e = .returned (.tuple #[]) ∧ XH w' g t (X.relN s 3) ∧ Only (fun k => k = g) w w' := by
  have HG := hide H
  have s4 : (s : Int) < 4 := by omega
  clear H
  go_enter Tryz.func231, Tryz.ntmps231
  go_upto_region 1 with fail
  go_loopw [4] (fun jv wr => ∃ i : Nat, jv = .int .i64 i ∧ i ≤ 3 ∧ XH wr g t (X.relN s i) ∧ Only (fun k => k = g) w wr) (fun jv _ => 4 - (intOf jv).toNat)
  case atStart => exact ⟨0, rfl, by omega, unhide HG, Only.refl _ _⟩
  case round =>
    obtain ⟨i, rfl, hi3, hX, oW⟩ := hrel
    by_cases hi : i < 3
    · have a1 : decide ((i : Int) < 3) = true := decide_eq_true (by omega)
      have i3 : (i : Int) < 3 := by omega
      obtain ⟨Y, hY⟩ : ∃ Y, X.relN s i = Y := ⟨_, rfl⟩
      rw [hY] at hX
      have m0 := hX.mode hi hs
      have mf := hX.fr (5 + i * 6 + 2 + s)
      have gl := hX.lt
      have o1 : Only (fun k => k = g) wr (wr.setCell ⟨g, 5 + i * 6 + 2 + s, none⟩ (.int .i64 0)) := only1 _ _
      have h1 := hX.setM hi hs 0
      have C1 := xbarred_any h1 hi (-1) 2
      have hN : X.relN s (i + 1) = Y.rel1 s i := by show (X.relN s i).rel1 s i = _; rw [hY]
      unfold Xs.rel1 at hN
      obtain ⟨b, hb⟩ : ∃ b : Bool, (Y.setM i s 0).bar i (-1) 2 = b := ⟨_, rfl⟩
      rw [hb] at C1 hN
      have C1 := hide C1
      have HN := hide hN
      have H1 := hide h1
      have O1 := hide (oW.trans o1 (fun _ _ h => h))
      clear hX oW o1 h1 hY hb hN
      go_upto_region 4 with fail
      generalize wr.setCell ⟨g, 5 + i * 6 + 2 + s, none⟩ (.int .i64 0) = w1 at *
      clear m0 mf
      go_wp2_with fail
      refine (unhide C1).mono ?_
      rintro e w2 ⟨rfl, rfl⟩
      clear C1
      cases b with
      | true =>
        have HX2 := hide (show XH w1 g t (X.relN s (i + 1)) from by rw [unhide HN, if_pos rfl]; exact unhide H1)
        go_wp2_with fail
        go_roundw
        case rel => exact ⟨i + 1, by go_num, by omega, unhide HX2, unhide O1⟩
        case measure => simp [intOf]; omega
      | false =>
        generalize hYY : Y.setM i s 0 = Y2 at *
        have HX2 := hide (show XH ((((((w1.setCell ⟨g, 5 + i * 6, none⟩ (.bool false)).setCell ⟨g, 5 + i * 6 + 1, none⟩ (.string ⟨#[]⟩)).setCell ⟨g, 5 + i * 6 + 2, none⟩ (.int .i64 0)).setCell ⟨g, 5 + i * 6 + 3, none⟩ (.int .i64 0)).setCell ⟨g, 5 + i * 6 + 4, none⟩ (.int .i64 0)).setCell ⟨g, 5 + i * 6 + 5, none⟩ (.int .i64 0)) g t (X.relN s (i + 1)) from by rw [unhide HN, if_neg (by simp)]; exact (unhide H1).zeroS hi)
        have O2 := hide ((unhide O1).trans (zonly6 w1 g i) (fun _ _ h => h))
        have d0 : w1.cell? ⟨g, 5 + i * 6, none⟩ = some (.bool (Y2.us i)) := (unhide H1).slot hi (f := 0) (by omega)
        have f0 := (unhide H1).fr (5 + i * 6)
        have d1 : w1.cell? ⟨g, 5 + i * 6 + 1, none⟩ = some (.string (Y2.nm i)) := (unhide H1).slot hi (f := 1) (by omega)
        have f1 := (unhide H1).fr (5 + i * 6 + 1)
        have d2 : w1.cell? ⟨g, 5 + i * 6 + 2, none⟩ = some (.int .i64 (Y2.md i 0)) := (unhide H1).slot hi (f := 2) (by omega)
        have f2 := (unhide H1).fr (5 + i * 6 + 2)
        have d3 : w1.cell? ⟨g, 5 + i * 6 + 3, none⟩ = some (.int .i64 (Y2.md i 1)) := (unhide H1).slot hi (f := 3) (by omega)
        have f3 := (unhide H1).fr (5 + i * 6 + 3)
        have d4 : w1.cell? ⟨g, 5 + i * 6 + 4, none⟩ = some (.int .i64 (Y2.md i 2)) := (unhide H1).slot hi (f := 4) (by omega)
        have f4 := (unhide H1).fr (5 + i * 6 + 4)
        have d5 : w1.cell? ⟨g, 5 + i * 6 + 5, none⟩ = some (.int .i64 (Y2.md i 3)) := (unhide H1).slot hi (f := 5) (by omega)
        have f5 := (unhide H1).fr (5 + i * 6 + 5)
        have gl1 := (unhide H1).lt
        go_wp2_with fail
        go_roundw
        case rel => exact ⟨i + 1, by go_num, by omega, unhide HX2, unhide O2⟩
        case measure => simp [intOf]; omega
    · obtain rfl : i = 3 := by omega
      have FF := hide (And.intro hX oW)
      clear hX oW
      go_wp2_with fail
      go_end0
      exact ⟨rfl, unhide FF⟩
end
end Go.Proofs.Qxb6500412aGreat
