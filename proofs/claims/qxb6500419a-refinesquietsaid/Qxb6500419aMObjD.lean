/-
  OWN WORK. THE OBJECT MODEL: Put.
-/
import Derived.Test.Qxb6500419aMObjW
namespace Go.Proofs.Qxb6500419a
open Go.RowKit
set_option linter.unusedSimpArgs false
set_option linter.unusedVariables false

theorem mput_kind (m : Nat) (w : World) (k : Int) (hk : ¬ (1 ≤ k ∧ k ≤ 4)) (v : Value) :
    Calls Try.prog 50 #[.pointer (some ⟨m, 0, none⟩), .int .i64 k, v] w fun e w' => e = .returned (.tuple #[.int .i64 0, .int .i64 3]) ∧ w = w' := by
  by_cases h1 : k < 1
  · have a0 : decide (k < 1) = true := by simpa using h1
    go_enter Try.func50, Try.ntmps50
    go_wp2_with fail
    go_ret2
    exact ⟨rfl, rfl⟩
  · have a0 : decide (k < 1) = false := by simpa using h1
    have a4 : decide (4 < k) = true := by simp; omega
    go_enter Try.func50, Try.ntmps50
    go_wp2_with fail
    go_ret2
    exact ⟨rfl, rfl⟩
theorem mput_big (m : Nat) (w : World) (k : Nat) (hk1 : 1 ≤ k) (hk4 : k ≤ 4) (a : Option Addr) (n c : Nat) (hn : 180 < n) :
    Calls Try.prog 50 #[.pointer (some ⟨m, 0, none⟩), .int .i64 k, .slice a n c] w fun e w' => e = .returned (.tuple #[.int .i64 0, .int .i64 4]) ∧ w = w' := by
  have a0 : decide ((k : Int) < 1) = false := by simp; omega
  have a4 : decide (4 < (k : Int)) = false := by simp; omega
  have a5 : decide (180 < (n : Int)) = true := by simp; omega
  go_enter Try.func50, Try.ntmps50
  go_wp2_with fail
  go_ret2
  exact ⟨rfl, rfl⟩

inductive MPutR (w w' : World) (m : Nat) (ob : Nat → Ob) (rt : Nat) (hist : Value) (H : Nat → Prop) (k : Nat) (dat : List Nat) (e : Ending) : Prop
  | found (r : Nat) (hr : In r) (hl : liveO (ob r) = true) (hk : (ob r).kd = k) (hd : (ob r).dat = dat) (he : e = .returned (.tuple #[.int .i64 r, .int .i64 0])) (ho : Only (fun _ => False) w w')
  | full (hno : ∀ j, In j → liveO (ob j) = true → ¬ ((ob j).kd = k ∧ (ob j).dat = dat)) (hf : ∀ i, In i → (ob i).st ≠ 0) (he : e = .returned (.tuple #[.int .i64 0, .int .i64 5])) (ho : Only (fun _ => False) w w')
  | new (i : Nat) (hno : ∀ j, In j → liveO (ob j) = true → ¬ ((ob j).kd = k ∧ (ob j).dat = dat)) (hi : In i) (h0 : (ob i).st = 0) (hlow : ∀ j, In j → j < i → (ob j).st ≠ 0)
      (he : e = .returned (.tuple #[.int .i64 i, .int .i64 0])) (hs : ∀ L, MAt w' m (updT ob i ⟨1, k, dat, L⟩) rt hist (Ext H w w')) (ho : Only (fun k => k = m) w w')

section
variable {w : World} {m : Nat} {ob : Nat → Ob} {rt : Nat} {hist : Value} {H : Nat → Prop}
set_option maxRecDepth 100000 in
set_option maxHeartbeats 4000000 in
theorem mput_any (h : MAt w m ob rt hist H) (k : Nat) (hk1 : 1 ≤ k) (hk4 : k ≤ 4) (dat : List Nat) (v : Value) (hdat : BytesAt w v dat.length (dF dat)) (hd180 : dat.length ≤ 180) :
    Calls Try.prog 50 #[.pointer (some ⟨m, 0, none⟩), .int .i64 k, v] w fun e w' => MPutR w w' m ob rt hist H k dat e := by
  have a0 : decide ((k : Int) < 1) = false := by simp; omega
  have a4 : decide (4 < (k : Int)) = false := by simp; omega
  have hml := h.lt
  have Hdat := hide hdat
  obtain ⟨va, vc, rfl, _⟩ := hdat
  generalize hnn : dat.length = n at *
  have a5 : decide (180 < (n : Int)) = false := by simp; omega
  have Hnn := hide hnn
  have H0 := hide h
  clear hnn h
  go_enter Try.func50, Try.ntmps50
  go_wp2_with fail
  go_loopw [8] (fun iv wr => ∃ i : Nat, 1 ≤ i ∧ i ≤ 49 ∧ iv = .int .i64 i ∧ (∀ j, In j → j < i → liveO (ob j) = true → ¬ ((ob j).kd = k ∧ (ob j).dat = dat)) ∧ Only (fun _ => False) w wr) (fun iv _ => (49 - intOf iv).toNat)
  case atStart => exact ⟨1, by omega, by omega, rfl, fun j hj hl => by have := hj.1; omega, Only.refl _ _⟩
  case round =>
    obtain ⟨i, hi1, hi, rfl, hno, ho⟩ := hrel
    have Hno := hide hno
    clear hno
    have hM := (unhide H0).quiet ho
    by_cases hi8 : i < 49
    · have hin : In i := ⟨hi1, by omega⟩
      have b1 : decide ((i : Int) ≤ 48) = true := by simp; omega
      have b2 : (i : Int) < 49 := by omega
      obtain ⟨z0, z1, u, z2, hbu, h180⟩ := hM.cells hin
      have C1 := mlive_any hM i
      rw [liveI_nat ob i hin] at C1
      cases hl : liveO (ob i) with
      | false =>
        rw [hl] at C1
        have C1 := hide C1
        have hnext : ∀ j, In j → j < i + 1 → liveO (ob j) = true → ¬ ((ob j).kd = k ∧ (ob j).dat = dat) := by
          intro j hj hlt hlj
          by_cases e : j = i
          · subst e; rw [hl] at hlj; cases hlj
          · exact unhide Hno j hj (by omega) hlj
        have Hnext := hide hnext
        clear hnext hl hM hbu
        go_wp2_with fail
        refine (unhide C1).mono ?_
        rintro e w1 ⟨rfl, rfl⟩
        go_wp2_with fail
        go_roundw
        case rel => exact ⟨i + 1, by omega, by omega, by go_num, unhide Hnext, ho⟩
        case measure => simp [intOf]; omega
      | true =>
        rw [hl] at C1
        have C1 := hide C1
        by_cases hkd : (ob i).kd = k
        · rw [hkd] at z1
          have e1 : ((k : Int) == (k : Int)) = true := by simp
          have C2 := msame_any u (.slice va n vc) (ob i).dat dat hbu (by rw [unhide Hnn]; exact (unhide Hdat).keep ho (fun _ _ h => h)) (by omega)
          by_cases hd : (ob i).dat = dat
          · rw [decide_eq_true hd] at C2
            have C2 := hide C2
            have Hd := hide hd
            have Hl := hide hl
            have Hkd := hide hkd
            clear hd hl hkd hM hbu
            go_wp2_with fail
            refine (unhide C1).mono ?_
            rintro e w1 ⟨rfl, rfl⟩
            go_wp2_with fail
            refine (unhide C2).mono ?_
            rintro e w1 ⟨rfl, ho2⟩
            go_wp2_with fail
            go_ret2
            exact .found i hin (unhide Hl) (unhide Hkd) (unhide Hd) rfl (ho.trans ho2 (fun _ _ h => h))
          · rw [decide_eq_false hd] at C2
            have C2 := hide C2
            have hnext : ∀ j, In j → j < i + 1 → liveO (ob j) = true → ¬ ((ob j).kd = k ∧ (ob j).dat = dat) := by
              intro j hj hlt hlj
              by_cases e : j = i
              · subst e; exact fun h => hd h.2
              · exact unhide Hno j hj (by omega) hlj
            have Hnext := hide hnext
            clear hnext hl hM hbu hd hkd
            go_wp2_with fail
            refine (unhide C1).mono ?_
            rintro e w1 ⟨rfl, rfl⟩
            go_wp2_with fail
            refine (unhide C2).mono ?_
            rintro e w1 ⟨rfl, ho2⟩
            go_wp2_with fail
            go_roundw
            case rel => exact ⟨i + 1, by omega, by omega, by go_num, unhide Hnext, ho.trans ho2 (fun _ _ h => h)⟩
            case measure => simp [intOf]; omega
        · have hnext : ∀ j, In j → j < i + 1 → liveO (ob j) = true → ¬ ((ob j).kd = k ∧ (ob j).dat = dat) := by
            intro j hj hlt hlj
            by_cases e : j = i
            · subst e; exact fun h => hkd h.1
            · exact unhide Hno j hj (by omega) hlj
          have Hnext := hide hnext
          generalize (ob i).kd = kd at *
          have e1 : ((kd : Int) == (k : Int)) = false := by simp; omega
          clear hnext hl hM hbu hkd
          go_wp2_with fail
          refine (unhide C1).mono ?_
          rintro e w1 ⟨rfl, rfl⟩
          go_wp2_with fail
          go_roundw
          case rel => exact ⟨i + 1, by omega, by omega, by go_num, unhide Hnext, ho⟩
          case measure => simp [intOf]; omega
    · obtain rfl : i = 49 := by omega
      have hno : ∀ j, In j → liveO (ob j) = true → ¬ ((ob j).kd = k ∧ (ob j).dat = dat) := fun j hj => unhide Hno j hj (by have := hj.2; omega)
      have HN := hide hno
      clear Hno hno hM
      generalize hwb : wr = wb at *
      clear hwb
      go_wp2_with fail
      go_loopw [9] (fun iv wr => ∃ i : Nat, 1 ≤ i ∧ i ≤ 49 ∧ iv = .int .i64 i ∧ (∀ j, In j → j < i → (ob j).st ≠ 0) ∧ wr = wb) (fun iv _ => (49 - intOf iv).toNat)
      case atStart => exact ⟨1, by omega, by omega, rfl, fun j hj hl => by have := hj.1; omega, rfl⟩
      case round =>
        obtain ⟨i, hi1, hi, rfl, hlow, rfl⟩ := hrel
        have Hlow := hide hlow
        clear hlow
        have hM := (unhide H0).quiet ho
        by_cases hi8 : i < 49
        · have hin : In i := ⟨hi1, by omega⟩
          have b1 : decide ((i : Int) ≤ 48) = true := by simp; omega
          have b2 : (i : Int) < 49 := by omega
          obtain ⟨z0, z1, u, z2, hbu, h180⟩ := hM.cells hin
          by_cases hst : (ob i).st = 0
          · rw [hst] at z0
            generalize (ob i).kd = kd at *
            have C1 := hide (fun (wx : World) (hx : Only (fun _ => False) wr wx) => copyBytes_any (.slice va n vc) n (dF dat) (((unhide Hdat).keep ho (fun _ _ h => h)).keep hx (fun _ _ h => h)) (by omega))
            have hml2 := hM.lt
            have hmn : m ≠ wr.heap.size := by omega
            have hP : ∀ L, MAt (((((wr.setCell ⟨m, i * 3, none⟩ (.int .i64 1)).setCell ⟨m, i * 3 + 1, none⟩ (.int .i64 (k : Int))).setCell ⟨m, i * 3 + 2, none⟩ (.slice (some ⟨wr.heap.size, 0, none⟩) n n)).alloc (.cells (tabV n (u8f (dF dat))) 5)).drew) m (updT ob i ⟨1, k, dat, L⟩) rt hist (Ext H w (((((wr.setCell ⟨m, i * 3, none⟩ (.int .i64 1)).setCell ⟨m, i * 3 + 1, none⟩ (.int .i64 (k : Int))).setCell ⟨m, i * 3 + 2, none⟩ (.slice (some ⟨wr.heap.size, 0, none⟩) n n)).alloc (.cells (tabV n (u8f (dF dat))) 5)).drew)) := by
              intro L
              have hsz := ho.size
              obtain ⟨⟨sl, base, hm, hsi⟩, hown, hinn⟩ := hM
              have e1 := hm.putSlot i (by omega) ⟨1, k, .slice (some ⟨wr.heap.size, 0, none⟩) n n⟩
              have o1 : Only (fun x => x = m) wr _ := only3 (i := i) (Only.refl (fun x => x = m) wr) (fun _ => rfl) (.int .i64 1) (.int .i64 (k : Int)) (.slice (some ⟨wr.heap.size, 0, none⟩) n n)
              have o2 := (o1.alloc (.cells (tabV n (u8f (dF dat))) 5)).drew
              have s2 := o2.size
              refine ⟨⟨updT sl i ⟨1, k, .slice (some ⟨wr.heap.size, 0, none⟩) n n⟩, base, Has.drew (Has.alloc e1 _), fun j hj => ?_⟩, .inl hown, ?_⟩
              · by_cases e : j = i
                · subst e
                  rw [updT_same, updT_same]
                  refine ⟨rfl, rfl, ?_, ?_, ?_⟩
                  · show dat.length ≤ 180
                    rw [unhide Hnn]; exact hd180
                  · show BytesAt _ _ dat.length (dF dat)
                    rw [unhide Hnn]
                    exact bytesAt_ofP (Has.drew (Has.new' _ _ _ wr.heap.size (by simp)))
                  · intro g hg
                    have : wr.heap.size = g := by simpa [Value.ownBlock] using hg
                    subst this
                    exact ⟨.inr ⟨hsz, by simp⟩, by omega⟩
                · rw [updT_other _ _ _ _ e, updT_other _ _ _ _ e]
                  obtain ⟨a, b, c, d, f⟩ := hsi j hj
                  exact ⟨a, b, c, d.keep o2 (fun g hg => (f g hg).2), fun g hg => ⟨.inl (f g hg).1, (f g hg).2⟩⟩
              · intro y hy
                rcases hy with hy | hy
                · have := hinn y hy; omega
                · exact hy.2
            have HP := hide hP
            have oam : Only (fun k => k = m) w wr := ho.mono (fun _ _ h => h.elim)
            have hO : Only (fun k => k = m) w (((((wr.setCell ⟨m, i * 3, none⟩ (.int .i64 1)).setCell ⟨m, i * 3 + 1, none⟩ (.int .i64 (k : Int))).setCell ⟨m, i * 3 + 2, none⟩ (.slice (some ⟨wr.heap.size, 0, none⟩) n n)).alloc (.cells (tabV n (u8f (dF dat))) 5)).drew) := ((only3 (i := i) oam (fun _ => rfl) _ _ _).alloc _).drew
            have HO := hide hO
            have Hst := hide hst
            clear hP hO hst hM hbu
            go_wp2_with fail
            go_region_with (go_at_call 48; refine ((unhide C1) _ ?_).mono ?_; exact (Only.refl (fun _ => False) _).drew; rintro e w2 ⟨rfl, rfl⟩)
            all_goals
              go_wp2_with fail
              go_ret2
              exact .new i (unhide HN) hin (unhide Hst) (unhide Hlow) rfl (unhide HP) (unhide HO)
          · have hnext : ∀ j, In j → j < i + 1 → (ob j).st ≠ 0 := by
              intro j hj hlt
              by_cases e : j = i
              · subst e; exact hst
              · exact unhide Hlow j hj (by omega)
            have Hnext := hide hnext
            generalize (ob i).st = st at *
            have e1 : ((st : Int) == 0) = false := ne_intO (by omega)
            clear hnext hst hM hbu
            go_wp2_with fail
            go_roundw
            case rel => exact ⟨i + 1, by omega, by omega, by go_num, unhide Hnext, by first | exact rfl | trivial⟩
            case measure => simp [intOf]; omega
        · obtain rfl : i = 49 := by omega
          have hall : ∀ j, In j → (ob j).st ≠ 0 := fun j hj => unhide Hlow j hj (by have := hj.2; omega)
          have Hall := hide hall
          clear hall Hlow hM
          go_wp2_with fail
          go_ret2
          exact .full (unhide HN) (unhide Hall) rfl ho
end
end Go.Proofs.Qxb6500419a
