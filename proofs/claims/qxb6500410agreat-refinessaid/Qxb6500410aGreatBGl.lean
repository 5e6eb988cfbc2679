/-
  OWN WORK. THE B-TREE LAW's GHOST: Least.
-/
import Derived.Test.Qxb6500410aGreatBGh
namespace Go.Proofs.Qxb6500410aGreat
open Go.RowKit Go.PlainAid
set_option linter.unusedSimpArgs false
set_option linter.unusedVariables false

def fitI (h : Int) (k : ByteArray) (past : Bool) (x : Itm) : Prop := (x.h : Int) = h ∧ hit k past (x.K, x.V) = true
/-- The place of the least that fits, or -1. -/
def LeR (its : List Itm) (n : Nat) (h : Int) (k : ByteArray) (past : Bool) (r : Int) : Prop := (r = -1 ∧ ∀ (j : Nat) (x : Itm), its[j]? = some x → j < n → ¬ fitI h k past x) ∨
  ∃ (i : Nat) (y : Itm), its[i]? = some y ∧ r = i ∧ fitI h k past y ∧ ∀ (j : Nat) (x : Itm), its[j]? = some x → j < n → fitI h k past x → lt x.K y.K = false
theorem LeR.skip {its : List Itm} {n : Nat} {h : Int} {k : ByteArray} {past : Bool} {r : Int} (R : LeR its n h k past r) {x : Itm} (hx : its[n]? = some x) (hf : ¬ fitI h k past x) : LeR its (n + 1) h k past r := by
  rcases R with ⟨e, R⟩ | ⟨i, y, hi, e, hy, R⟩
  · refine .inl ⟨e, fun j z hz hj => ?_⟩
    by_cases c : j = n
    · subst c; rw [hx] at hz; cases hz; exact hf
    · exact R j z hz (by omega)
  · refine .inr ⟨i, y, hi, e, hy, fun j z hz hj hfz => ?_⟩
    by_cases c : j = n
    · subst c; rw [hx] at hz; cases hz; exact absurd hfz hf
    · exact R j z hz (by omega) hfz
theorem LeR.take0 {its : List Itm} {n : Nat} {h : Int} {k : ByteArray} {past : Bool} (R : LeR its n h k past (-1)) {x : Itm} (hx : its[n]? = some x) (hf : fitI h k past x) : LeR its (n + 1) h k past n := by
  rcases R with ⟨e, R⟩ | ⟨i, y, hi, e, hy, R⟩
  · refine .inr ⟨n, x, hx, rfl, hf, fun j z hz hj hfz => ?_⟩
    by_cases c : j = n
    · subst c; rw [hx] at hz; cases hz; exact lt_irr _
    · exact absurd hfz (R j z hz (by omega))
  · omega
theorem LeR.take1 {its : List Itm} {n i : Nat} {h : Int} {k : ByteArray} {past : Bool} (R : LeR its n h k past i) {x y : Itm} (hx : its[n]? = some x) (hy : its[i]? = some y) (hf : fitI h k past x) (hl : lt x.K y.K = true) : LeR its (n + 1) h k past n := by
  rcases R with ⟨e, R⟩ | ⟨i', y', hi, e, hy', R⟩
  · omega
  · have : i' = i := by omega
    subst this
    rw [hy] at hi
    cases hi
    refine .inr ⟨n, x, hx, rfl, hf, fun j z hz hj hfz => ?_⟩
    by_cases c : j = n
    · subst c; rw [hx] at hz; cases hz; exact lt_irr _
    · have := R j z hz (by omega) hfz
      exact ge_trans this (lt_asymm hl)
theorem LeR.stay {its : List Itm} {n i : Nat} {h : Int} {k : ByteArray} {past : Bool} (R : LeR its n h k past i) {x y : Itm} (hx : its[n]? = some x) (hy : its[i]? = some y) (hl : lt x.K y.K = false) : LeR its (n + 1) h k past i := by
  rcases R with ⟨e, R⟩ | ⟨i', y', hi, e, hy', R⟩
  · omega
  · have : i' = i := by omega
    subst this
    rw [hy] at hi
    cases hi
    refine .inr ⟨i', y, hy, rfl, hy', fun j z hz hj hfz => ?_⟩
    by_cases c : j = n
    · subst c; rw [hx] at hz; cases hz; exact hl
    · exact R j z hz (by omega) hfz
section
variable {w : World} {g tb : Nat} {iv : Value} {T : Nat → Bool} {its : List Itm}
set_option maxRecDepth 100000 in
set_option maxHeartbeats 4000000 in
theorem gleast_any (G : GhAt w g tb iv T its) (h : Int) (k : ByteArray) (past : Bool) : Calls Tryz.prog 85 #[.pointer (some ⟨g, 0, none⟩), .int .i64 h, .string k, .bool past] w fun e w' => ∃ r, e = .returned (.int .i64 r) ∧ LeR its its.length h k past r ∧ Only (fun _ => False) w w' := by
  obtain ⟨a, cap, rfl⟩ := G.own.shape
  have hl := G.len
  have HG := hide G
  clear G
  go_enter Tryz.func85, Tryz.ntmps85
  go_upto_region 3 with fail
  go_loopw [9, 10] (fun bv jv wr => ∃ (i : Nat) (r : Int), jv = .int .i64 i ∧ bv = .int .i64 r ∧ i ≤ its.length ∧ LeR its i h k past r ∧ Only (fun _ => False) w wr) (fun _ jv _ => 65 - (intOf jv).toNat)
  case atStart => exact ⟨0, -1, rfl, rfl, Nat.zero_le _, .inl ⟨rfl, fun j _ _ hj => by omega⟩, Only.refl _ _⟩
  case round =>
    obtain ⟨i, r, rfl, rfl, hi, R, ho⟩ := hrel
    have G := (unhide HG).quiet ho
    have c1 := G.c1
    by_cases hs : i < its.length
    · have a1 : decide ((i : Int) < (its.length : Int)) = true := decide_eq_true (by omega)
      have a1p : (i : Int) < (its.length : Int) := by omega
      obtain ⟨x, hx⟩ := get_ex hs
      obtain ⟨ib, ha, d0, d1, d2⟩ := G.own.at_ hx
      subst ha
      have HS := hide hs
      have RR := hide R
      have HX := hide hx
      have HO := hide ho
      clear R hx ho hs
      have RS : Hid (r = -1 ∨ ∃ (j : Nat) (y : Itm), r = j ∧ its[j]? = some y) := hide (by
        rcases unhide RR with ⟨e, _⟩ | ⟨j, y, hy, e, _⟩
        · exact .inl e
        · exact .inr ⟨j, y, e, hy⟩)
      by_cases h1 : (x.h : Int) = h
      · have b1 : ((x.h : Int) == h) = true := by simpa using h1
        rcases lt_total x.K k with hc | hc | hc
        · have f1 : Op.bytesLess x.K.toList k.toList = true := hc
          have f2 := seq_f (lt_ne hc)
          have R2 := hide ((unhide RR).skip (unhide HX) (fun c => by have := c.2; simp [hit, lt_asymm hc, lt_ne hc] at this))
          clear hc
          cases past
          · go_wp2_with fail
            all_goals exact ⟨⟨i + 1, r, by go_num, rfl, by have := unhide HS; omega, unhide R2, unhide HO⟩, by simp [intOf]; omega⟩
          · go_wp2_with fail
            all_goals exact ⟨⟨i + 1, r, by go_num, rfl, by have := unhide HS; omega, unhide R2, unhide HO⟩, by simp [intOf]; omega⟩
        · have f1 : Op.bytesLess x.K.toList k.toList = false := by rw [hc]; exact lt_irr k
          have f2 := seq_t hc
          cases past
          · have HF := hide (show fitI h k false x from ⟨h1, by simp [hit, hc]⟩)
            clear hc
            rcases (unhide RS) with rfl | ⟨j, y, rfl, hy⟩
            · have R2 := hide ((unhide RR).take0 (unhide HX) (unhide HF))
              go_upto_region 9 with fail
              go_region
              all_goals
                go_wp2_with fail
                exact ⟨⟨i + 1, (i : Int), by go_num, rfl, by have := unhide HS; omega, unhide R2, (unhide HO).drew⟩, by simp [intOf]; omega⟩
            · obtain ⟨ib', ha', e0, e1, e2⟩ := G.own.at_ hy
              cases ha'
              have jl := get_lt hy
              have jp : (j : Int) < (its.length : Int) := by omega
              have z0 : decide ((j : Int) < 0) = false := decide_eq_false (by omega)
              have z0p : ¬ ((j : Int) < 0) := by omega
              cases hlt : lt x.K y.K with
              | true =>
                have f3 : Op.bytesLess x.K.toList y.K.toList = true := hlt
                have R2 := hide ((unhide RR).take1 (unhide HX) hy (unhide HF) hlt)
                clear hlt hy e0 e2
                go_upto_region 9 with fail
                go_region_held3 (fun w' => w'.cell? ⟨g, 1, none⟩ = some (.slice (some ⟨ib, 0, none⟩) its.length cap) ∧ w'.cell? ⟨ib, i * 3 + 1, none⟩ = some (.string x.K) ∧ w'.cell? ⟨ib, j * 3 + 1, none⟩ = some (.string y.K)) (exact ⟨c1, d1, e1⟩) (fail)
                all_goals
                  go_wp2_with fail
                  exact ⟨⟨i + 1, (i : Int), by go_num, rfl, by have := unhide HS; omega, unhide R2, (unhide HO).drew⟩, by simp [intOf]; omega⟩
              | false =>
                have f3 : Op.bytesLess x.K.toList y.K.toList = false := hlt
                have R2 := hide ((unhide RR).stay (unhide HX) hy hlt)
                clear hlt hy e0 e2
                go_upto_region 9 with fail
                go_region_held3 (fun w' => w'.cell? ⟨g, 1, none⟩ = some (.slice (some ⟨ib, 0, none⟩) its.length cap) ∧ w'.cell? ⟨ib, i * 3 + 1, none⟩ = some (.string x.K) ∧ w'.cell? ⟨ib, j * 3 + 1, none⟩ = some (.string y.K)) (exact ⟨c1, d1, e1⟩) (fail)
                all_goals
                  go_wp2_with fail
                  exact ⟨⟨i + 1, (j : Int), by go_num, rfl, by have := unhide HS; omega, unhide R2, (unhide HO).drew⟩, by simp [intOf]; omega⟩
          · have R2 := hide ((unhide RR).skip (unhide HX) (fun c => by have := c.2; simp [hit, hc, lt_irr] at this))
            clear hc
            go_wp2_with fail
            all_goals exact ⟨⟨i + 1, r, by go_num, rfl, by have := unhide HS; omega, unhide R2, unhide HO⟩, by simp [intOf]; omega⟩
        · have f1 : Op.bytesLess x.K.toList k.toList = false := lt_asymm hc
          have f2 := seq_f (fun e => lt_ne hc e.symm)
          have HF := hide (show fitI h k past x from ⟨h1, by simp [hit, hc]⟩)
          clear hc
          cases past
          · skip
            rcases (unhide RS) with rfl | ⟨j, y, rfl, hy⟩
            · have R2 := hide ((unhide RR).take0 (unhide HX) (unhide HF))
              go_upto_region 9 with fail
              go_region
              all_goals
                go_wp2_with fail
                exact ⟨⟨i + 1, (i : Int), by go_num, rfl, by have := unhide HS; omega, unhide R2, (unhide HO).drew⟩, by simp [intOf]; omega⟩
            · obtain ⟨ib', ha', e0, e1, e2⟩ := G.own.at_ hy
              cases ha'
              have jl := get_lt hy
              have jp : (j : Int) < (its.length : Int) := by omega
              have z0 : decide ((j : Int) < 0) = false := decide_eq_false (by omega)
              have z0p : ¬ ((j : Int) < 0) := by omega
              cases hlt : lt x.K y.K with
              | true =>
                have f3 : Op.bytesLess x.K.toList y.K.toList = true := hlt
                have R2 := hide ((unhide RR).take1 (unhide HX) hy (unhide HF) hlt)
                clear hlt hy e0 e2
                go_upto_region 9 with fail
                go_region_held3 (fun w' => w'.cell? ⟨g, 1, none⟩ = some (.slice (some ⟨ib, 0, none⟩) its.length cap) ∧ w'.cell? ⟨ib, i * 3 + 1, none⟩ = some (.string x.K) ∧ w'.cell? ⟨ib, j * 3 + 1, none⟩ = some (.string y.K)) (exact ⟨c1, d1, e1⟩) (fail)
                all_goals
                  go_wp2_with fail
                  exact ⟨⟨i + 1, (i : Int), by go_num, rfl, by have := unhide HS; omega, unhide R2, (unhide HO).drew⟩, by simp [intOf]; omega⟩
              | false =>
                have f3 : Op.bytesLess x.K.toList y.K.toList = false := hlt
                have R2 := hide ((unhide RR).stay (unhide HX) hy hlt)
                clear hlt hy e0 e2
                go_upto_region 9 with fail
                go_region_held3 (fun w' => w'.cell? ⟨g, 1, none⟩ = some (.slice (some ⟨ib, 0, none⟩) its.length cap) ∧ w'.cell? ⟨ib, i * 3 + 1, none⟩ = some (.string x.K) ∧ w'.cell? ⟨ib, j * 3 + 1, none⟩ = some (.string y.K)) (exact ⟨c1, d1, e1⟩) (fail)
                all_goals
                  go_wp2_with fail
                  exact ⟨⟨i + 1, (j : Int), by go_num, rfl, by have := unhide HS; omega, unhide R2, (unhide HO).drew⟩, by simp [intOf]; omega⟩
          · skip
            rcases (unhide RS) with rfl | ⟨j, y, rfl, hy⟩
            · have R2 := hide ((unhide RR).take0 (unhide HX) (unhide HF))
              go_upto_region 9 with fail
              go_region
              all_goals
                go_wp2_with fail
                exact ⟨⟨i + 1, (i : Int), by go_num, rfl, by have := unhide HS; omega, unhide R2, (unhide HO).drew⟩, by simp [intOf]; omega⟩
            · obtain ⟨ib', ha', e0, e1, e2⟩ := G.own.at_ hy
              cases ha'
              have jl := get_lt hy
              have jp : (j : Int) < (its.length : Int) := by omega
              have z0 : decide ((j : Int) < 0) = false := decide_eq_false (by omega)
              have z0p : ¬ ((j : Int) < 0) := by omega
              cases hlt : lt x.K y.K with
              | true =>
                have f3 : Op.bytesLess x.K.toList y.K.toList = true := hlt
                have R2 := hide ((unhide RR).take1 (unhide HX) hy (unhide HF) hlt)
                clear hlt hy e0 e2
                go_upto_region 9 with fail
                go_region_held3 (fun w' => w'.cell? ⟨g, 1, none⟩ = some (.slice (some ⟨ib, 0, none⟩) its.length cap) ∧ w'.cell? ⟨ib, i * 3 + 1, none⟩ = some (.string x.K) ∧ w'.cell? ⟨ib, j * 3 + 1, none⟩ = some (.string y.K)) (exact ⟨c1, d1, e1⟩) (fail)
                all_goals
                  go_wp2_with fail
                  exact ⟨⟨i + 1, (i : Int), by go_num, rfl, by have := unhide HS; omega, unhide R2, (unhide HO).drew⟩, by simp [intOf]; omega⟩
              | false =>
                have f3 : Op.bytesLess x.K.toList y.K.toList = false := hlt
                have R2 := hide ((unhide RR).stay (unhide HX) hy hlt)
                clear hlt hy e0 e2
                go_upto_region 9 with fail
                go_region_held3 (fun w' => w'.cell? ⟨g, 1, none⟩ = some (.slice (some ⟨ib, 0, none⟩) its.length cap) ∧ w'.cell? ⟨ib, i * 3 + 1, none⟩ = some (.string x.K) ∧ w'.cell? ⟨ib, j * 3 + 1, none⟩ = some (.string y.K)) (exact ⟨c1, d1, e1⟩) (fail)
                all_goals
                  go_wp2_with fail
                  exact ⟨⟨i + 1, (j : Int), by go_num, rfl, by have := unhide HS; omega, unhide R2, (unhide HO).drew⟩, by simp [intOf]; omega⟩
      · have b1 : ((x.h : Int) == h) = false := by simpa using h1
        have R2 := hide ((unhide RR).skip (unhide HX) (fun c => h1 c.1))
        cases past
        · go_wp2_with fail
          all_goals exact ⟨⟨i + 1, r, by go_num, rfl, by have := unhide HS; omega, unhide R2, unhide HO⟩, by simp [intOf]; omega⟩
        · go_wp2_with fail
          all_goals exact ⟨⟨i + 1, r, by go_num, rfl, by have := unhide HS; omega, unhide R2, unhide HO⟩, by simp [intOf]; omega⟩
    · have a1 : decide ((i : Int) < (its.length : Int)) = false := decide_eq_false (by omega)
      have a1p : ¬ ((i : Int) < (its.length : Int)) := by omega
      have e : i = its.length := by omega
      subst e
      have FF := hide (And.intro R ho)
      clear R ho
      go_wp2_with fail
      go_ret
      exact ⟨r, rfl, (unhide FF).1, (unhide FF).2⟩
end
end Go.Proofs.Qxb6500410aGreat
