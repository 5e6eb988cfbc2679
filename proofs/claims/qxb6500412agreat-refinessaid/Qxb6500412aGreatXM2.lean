/-
  OWN WORK. TXN's MODEL: api.Multi: end, Begin, Rollback, Active, alone.
-/
import Derived.Test.Qxb6500412aGreatXM1
import Derived.Test.Qxb6500412aGreatMM4
namespace Go.Proofs.Qxb6500412aGreat
open Go.RowKit Go.PlainAid
set_option linter.unusedSimpArgs false
set_option linter.unusedVariables false

section
variable {w w' : World} {k : Nat} {Z : Mm} {M : Mu} {s : Nat} {H : Nat → Prop}
theorem MMt.noV (h : MMt w k Z) (hs : s < 4) : MMt (w.setCell ⟨k, 17 + s, none⟩ (.slice none 0 0)) k (Z.setV (1 + s) (.slice none 0 0) []) := by
  have o1 : Only (fun x => x = k) w (w.setCell ⟨k, 17 + s, none⟩ (.slice none 0 0)) := only1 _ _
  refine h.setV (by omega) o1 (fun b hb => .inl hb) ?_ (ML.nil _) (fun b hb => ?_)
  · rw [offM_pos]; exact h.has.setCell _ _
  · rcases hb with hb | ⟨e, he, _⟩
    · simp [Value.ownBlock] at hb
    · simp at he
set_option maxRecDepth 100000 in
set_option maxHeartbeats 4000000 in
theorem xmend_any (h : MMt w k Z) (hs : s < 4) : Calls Tryz.prog 269 #[.pointer (some ⟨k, 0, none⟩), .int .i64 (s : Int)] w fun e w' => e = .returned (.tuple #[]) ∧ MMt w' k (Z.endS s) ∧ Only (fun b => b = k) w w' := by
  have s4 : (s : Int) < 4 := by omega
  have kl := h.has.lt
  have a0 := h.cA hs
  have af := h.fr (1 + s)
  have h1 := h.setA hs false
  have b0 := h1.cK hs (i := 0) (by omega)
  have b1 := h1.cK hs (i := 1) (by omega)
  have b2 := h1.cK hs (i := 2) (by omega)
  have f0 := h1.fr (5 + s * 3)
  have f1 := h1.fr (5 + s * 3 + 1)
  have f2 := h1.fr (5 + s * 3 + 2)
  have h2 := ((h1.setK hs (i := 0) (by omega) 0).setK hs (i := 1) (by omega) 0).setK hs (i := 2) (by omega) 0
  have c0 := h2.cP hs
  have cf := h2.fr (17 + s)
  have h3 := h2.noV hs
  rw [show 5 + s * 3 + 0 = 5 + s * 3 by omega] at b0 h2 h3 c0 cf
  have HP := hide h3
  have HO := hide (show Only (fun b => b = k) w (((((w.setCell ⟨k, 1 + s, none⟩ (.bool false)).setCell ⟨k, 5 + s * 3, none⟩ (.int .i64 0)).setCell ⟨k, 5 + s * 3 + 1, none⟩ (.int .i64 0)).setCell ⟨k, 5 + s * 3 + 2, none⟩ (.int .i64 0)).setCell ⟨k, 17 + s, none⟩ (.slice none 0 0)) from
    ((((only1 (p := k) _ _).trans (only1 (p := k) _ _) (fun _ _ h => h)).trans (only1 (p := k) _ _) (fun _ _ h => h)).trans (only1 (p := k) _ _) (fun _ _ h => h)).trans (only1 (p := k) _ _) (fun _ _ h => h))
  obtain ⟨x0, e0⟩ : ∃ b : Bool, Z.act s = b := ⟨_, rfl⟩
  obtain ⟨y0, e1⟩ : ∃ b : Int, (Z.setA s false).lk s 0 = b := ⟨_, rfl⟩
  obtain ⟨y1, e2⟩ : ∃ b : Int, (Z.setA s false).lk s 1 = b := ⟨_, rfl⟩
  obtain ⟨y2, e3⟩ : ∃ b : Int, (Z.setA s false).lk s 2 = b := ⟨_, rfl⟩
  obtain ⟨vv, e4⟩ : ∃ v : Value, ((((Z.setA s false).setK s 0 0).setK s 1 0).setK s 2 0).v (1 + s) = v := ⟨_, rfl⟩
  rw [e0] at a0
  rw [e1] at b0
  rw [e2] at b1
  rw [e3] at b2
  rw [e4] at c0
  clear h h1 h2 h3 e0 e1 e2 e3 e4
  go_enter Tryz.func269, Tryz.ntmps269
  go_wp2_with fail
  go_end0
  exact ⟨rfl, unhide HP, unhide HO⟩
/-- What Begin of the model leaves. -/
def MbP (w : World) (k : Nat) (M : Mu) (H : Nat → Prop) (s : Int) (e : Ending) (w' : World) : Prop :=
  (∃ z, e = .returned (.int .i64 z) ∧ z ≠ 0 ∧ ((¬ gdS s ∧ z = 20) ∨ (gdS s ∧ M.act s.toNat = true ∧ z = 3)) ∧ w = w') ∨ (e = .returned (.int .i64 0) ∧ gdS s ∧ M.act s.toNat = false ∧ MX w' k (M.begin s.toNat) (Ext H w w') ∧ Only H w w')
set_option maxRecDepth 100000 in
set_option maxHeartbeats 4000000 in
theorem xmbegin_any (X : MX w k M H) (s : Int) : Calls Tryz.prog 185 #[.pointer (some ⟨k, 0, none⟩), .int .i64 s] w (MbP w k M H s) := by
  have C1 := xgood_any s w
  by_cases hs : gdS s
  · rw [decide_eq_true hs] at C1
    have Hgd := hide hs
    obtain ⟨n, rfl⟩ : ∃ n : Nat, s = n := ⟨s.toNat, by have := hs.1; omega⟩
    have hn : n < 4 := by have := hs.2; omega
    have n4 : (n : Int) < 4 := by omega
    have en : ((n : Nat) : Int).toNat = n := by omega
    have HX := hide X
    obtain ⟨Z, h, hS, hA⟩ := X.ex
    have a0 := h.cA hn
    have af := h.fr (1 + n)
    have kl := h.has.lt
    have C1 := hide C1
    have eA := hS.act n hn
    cases hb : M.act n with
    | true =>
      rw [← eA, hb] at a0
      have FF := hide (show MbP w k M H (n : Int) (.returned (.int .i64 3)) w from .inl ⟨3, rfl, by omega, .inr ⟨unhide Hgd, by rw [en]; exact hb, rfl⟩, rfl⟩)
      clear X h hS hA hs hb eA
      go_enter Tryz.func185, Tryz.ntmps185
      go_wp2_with fail
      refine (unhide C1).mono ?_
      rintro e w2 ⟨rfl, rfl⟩
      go_wp2_with fail
      go_ret
      exact unhide FF
    | false =>
      rw [← eA, hb] at a0
      have h1 := h.setA hn true
      have o1 : Only (fun b => b = k) w (w.setCell ⟨k, 1 + n, none⟩ (.bool true)) := only1 _ _
      have hS2 : ∀ (v : Value) (l : List GE), l.map (·.t) = M.com → MmS ((Z.setA n true).setV (1 + n) v l) (M.begin n) := fun v l hl => hS.begin hn hb hl
      have HQ := hide (And.intro h1 (And.intro o1 (And.intro hS2 (And.intro hA (And.intro hS.com hb)))))
      clear X h hS hA hs hb eA h1 o1 hS2
      go_enter Tryz.func185, Tryz.ntmps185
      go_wp2_with fail
      refine (unhide C1).mono ?_
      rintro e w2 ⟨rfl, rfl⟩
      clear C1
      go_upto_region 6 with fail
      generalize w.setCell ⟨k, 1 + n, none⟩ (.bool true) = w1 at *
      clear a0 af
      have d1 : Only (fun _ => False) w1 w1.drew := (Only.refl _ w1).drew
      have C2 : Calls Tryz.prog 120 #[.pointer (some ⟨k, 0, none⟩)] w1.drew fun e w3 => ∃ (g n2 : Nat) (vv : Value), e = .returned (.agg #[.slice (some ⟨g, 0, none⟩) n2 n2]) ∧ w3.cell? ⟨k, 17 + n, none⟩ = some vv ∧ w3.frozen? ⟨k, 17 + n, none⟩ = false ∧ k < w3.heap.size ∧
          Hid (MbP w k M H (n : Int) (.returned (.int .i64 0)) (w3.setCell ⟨k, 17 + n, none⟩ (.slice (some ⟨g, 0, none⟩) n2 n2))) := by
        obtain ⟨h1, o1, hS2, hA, hcom, hb⟩ := unhide HQ
        have h2 := h1.quiet d1
        refine (mdbClone_any (dk := k) (o := 0) h2.c0 (h2.ml 0 (by omega))).mono ?_
        rintro e w3 ⟨g, n2, l', rfl, hM, ht, hf, o3⟩
        have h3 := h2.quiet o3
        have o4 : Only (fun b => b = k) w3 (w3.setCell ⟨k, 17 + n, none⟩ (.slice (some ⟨g, 0, none⟩) n2 n2)) := only1 _ _
        have z1 := o1.size
        have z2 := d1.size
        have klw : k < w.heap.size := (unhide HX).lt k (unhide HX).kH
        have o5 : Only (fun b => b = k) w1.drew (w3.setCell ⟨k, 17 + n, none⟩ (.slice (some ⟨g, 0, none⟩) n2 n2)) := (o3.mono (fun _ _ e => e.elim)).trans o4 (fun _ _ e => e)
        have h4 := h2.setV (j := 1 + n) (v := .slice (some ⟨g, 0, none⟩) n2 n2) (l := l') (by omega) o5 (fun b hb => .inl hb) (by rw [offM_pos]; exact h3.has.setCell _ _) (hM.keep o4 (fun b hb e => by have := hf b (.inl hb); have e' : b = k := e; omega) (fun b hb e => by have := hf b (.inr hb); have e' : b = k := e; omega)) (fun b hb => .inr (hf b (.inl hb)))
        refine ⟨g, n2, _, rfl, h3.cP hn, h3.fr _, h3.has.lt, hide (.inr ⟨rfl, unhide Hgd, by rw [en]; exact hb, ?_⟩)⟩
        rw [en]
        refine (unhide HX).turn h4 (hS2 _ _ (ht.trans hcom)) (fun b hb => ?_) ((o1.trans (d1.mono (fun _ _ e => e.elim)) (fun _ _ e => e)).trans o5 (fun _ _ e => e)) (fun b e => by rw [e]; exact (unhide HX).kH)
        rcases Mm.setV_A hb with c | c
        · exact .inl (hA b c)
        · exact .inr (by have := hf b c; omega)
      have C2 := hide C2
      have b0 := (unhide HQ).1.c0
      have c0 := (unhide HQ).1.cP hn
      have cf := (unhide HQ).1.fr (17 + n)
      have kl1 := (unhide HQ).1.has.lt
      generalize ((Z.setA n true).v (1 + n)) = v0 at *
      clear d1 HQ
      go_region_with (go_at_call 120; refine (unhide C2).mono ?_; rintro e w3 ⟨g, n2, vv, rfl, c3, f3, l3, HP⟩)
      all_goals
        go_wp2_with fail
        go_ret
        exact unhide HP
  · rw [decide_eq_false hs] at C1
    have C1 := hide C1
    have FF := hide (show MbP w k M H s (.returned (.int .i64 20)) w from .inl ⟨20, rfl, by omega, .inl ⟨hs, rfl⟩, rfl⟩)
    clear X hs
    go_enter Tryz.func185, Tryz.ntmps185
    go_wp2_with fail
    refine (unhide C1).mono ?_
    rintro e w2 ⟨rfl, rfl⟩
    go_wp2_with fail
    go_ret
    exact unhide FF
/-- What Rollback of the model leaves. -/
def MrP (w : World) (k : Nat) (M M' : Mu) (H : Nat → Prop) (s : Int) (e : Ending) (w' : World) : Prop :=
  (e = .returned (.int .i64 (M.inT s)) ∧ M.inT s ≠ 0 ∧ w = w') ∨ (e = .returned (.int .i64 0) ∧ M.inT s = 0 ∧ MX w' k M' (Ext H w w') ∧ Only H w w')
theorem inT_no {M : Mu} {s : Int} (h : ¬ gdS s) : M.inT s = 20 := by unfold Mu.inT; rw [if_neg h]
theorem inT_off {M : Mu} {n : Nat} (h : n < 4) (ha : M.act n = false) : M.inT (n : Int) = 2 := by
  unfold Mu.inT
  rw [if_pos (show gdS (n : Int) from ⟨by omega, by omega⟩), show ((n : Nat) : Int).toNat = n by omega, ha]
  rfl
theorem inT_on {M : Mu} {n : Nat} (h : n < 4) (ha : M.act n = true) : M.inT (n : Int) = 0 := by
  unfold Mu.inT
  rw [if_pos (show gdS (n : Int) from ⟨by omega, by omega⟩), show ((n : Nat) : Int).toNat = n by omega, ha]
  rfl
set_option maxRecDepth 100000 in
set_option maxHeartbeats 4000000 in
theorem xmroll_any (X : MX w k M H) (s : Int) : Calls Tryz.prog 187 #[.pointer (some ⟨k, 0, none⟩), .int .i64 s] w (MrP w k M (M.roll s.toNat) H s) := by
  have C1 := xgood_any s w
  by_cases hs : gdS s
  · rw [decide_eq_true hs] at C1
    obtain ⟨n, rfl⟩ : ∃ n : Nat, s = n := ⟨s.toNat, by have := hs.1; omega⟩
    have hn : n < 4 := by have := hs.2; omega
    have n4 : (n : Int) < 4 := by omega
    have en : ((n : Nat) : Int).toNat = n := by omega
    have HX := hide X
    obtain ⟨Z, h, hS, hA⟩ := X.ex
    have a0 := h.cA hn
    have kl := h.has.lt
    have C1 := hide C1
    have eA := hS.act n hn
    cases hb : M.act n with
    | false =>
      rw [← eA, hb] at a0
      have FF := hide (show MrP w k M (M.roll (n : Int).toNat) H (n : Int) (.returned (.int .i64 2)) w from .inl ⟨by rw [inT_off hn hb], by rw [inT_off hn hb]; omega, rfl⟩)
      clear X h hS hA hs hb eA
      go_enter Tryz.func187, Tryz.ntmps187
      go_wp2_with fail
      refine (unhide C1).mono ?_
      rintro e w2 ⟨rfl, rfl⟩
      go_wp2_with fail
      go_ret
      exact unhide FF
    | true =>
      rw [← eA, hb] at a0
      have C2 := hide (xmend_any h hn)
      have HF := hide (fun (w' : World) (h2 : MMt w' k (Z.endS n)) (o2 : Only (fun b => b = k) w w') => show MrP w k M (M.roll (n : Int).toNat) H (n : Int) (.returned (.int .i64 0)) w' from by
        refine .inr ⟨rfl, inT_on hn hb, ?_⟩
        rw [en]
        refine (unhide HX).turn h2 (hS.roll hn) (fun b c => ?_) o2 (fun b e => by rw [e]; exact (unhide HX).kH)
        rcases Mm.setV_A c with d | d | d
        · exact .inl (hA b d)
        · rcases d with d | ⟨e, he, _⟩
          · simp [Value.ownBlock] at d
          · simp at he
        · obtain ⟨e, he, _⟩ := d
          simp at he)
      clear X h hS hA hs hb eA
      go_enter Tryz.func187, Tryz.ntmps187
      go_wp2_with fail
      refine (unhide C1).mono ?_
      rintro e w2 ⟨rfl, rfl⟩
      go_wp2_with fail
      refine (unhide C2).mono ?_
      rintro e w3 ⟨rfl, h2, o2⟩
      have FF := hide (unhide HF _ h2 o2)
      clear C1 C2 h2 o2 HF a0
      go_wp2_with fail
      go_ret
      exact unhide FF
  · rw [decide_eq_false hs] at C1
    have C1 := hide C1
    have FF := hide (show MrP w k M (M.roll s.toNat) H s (.returned (.int .i64 20)) w from .inl ⟨by rw [inT_no hs], by rw [inT_no hs]; omega, rfl⟩)
    clear X hs
    go_enter Tryz.func187, Tryz.ntmps187
    go_wp2_with fail
    refine (unhide C1).mono ?_
    rintro e w2 ⟨rfl, rfl⟩
    go_wp2_with fail
    go_ret
    exact unhide FF
set_option maxRecDepth 100000 in
theorem xmactive_any (X : MX w k M H) (s : Int) : Calls Tryz.prog 179 #[.pointer (some ⟨k, 0, none⟩), .int .i64 s] w fun e w' => e = .returned (.bool (decide (gdS s) && M.act s.toNat)) ∧ w = w' := by
  have C1 := xgood_any s w
  by_cases hs : gdS s
  · rw [decide_eq_true hs] at C1 ⊢
    obtain ⟨n, rfl⟩ : ∃ n : Nat, s = n := ⟨s.toNat, by have := hs.1; omega⟩
    have hn : n < 4 := by have := hs.2; omega
    obtain ⟨Z, h, hS, hA⟩ := X.ex
    have a0 := h.cA hn
    have gl := h.has.lt
    have C1 := hide C1
    rw [show (n : Int).toNat = n by omega, Bool.true_and]
    have n4 : (n : Int) < 4 := by omega
    rw [hS.act n hn]
    obtain ⟨b, hb⟩ : ∃ b : Bool, Z.act n = b := ⟨_, rfl⟩
    rw [hb] at a0 ⊢
    clear hb hs X h hS hA
    go_enter Tryz.func179, Tryz.ntmps179
    go_wp2_with fail
    refine (unhide C1).mono ?_
    rintro e w2 ⟨rfl, rfl⟩
    go_wp2_with fail
    go_ret
    exact ⟨rfl, rfl⟩
  · rw [decide_eq_false hs] at C1 ⊢
    rw [Bool.false_and]
    have C1 := hide C1
    clear hs X
    go_enter Tryz.func179, Tryz.ntmps179
    go_wp2_with fail
    refine (unhide C1).mono ?_
    rintro e w2 ⟨rfl, rfl⟩
    go_wp2_with fail
    go_ret
    exact ⟨rfl, rfl⟩
set_option maxRecDepth 100000 in
set_option maxHeartbeats 4000000 in
theorem xmalone_any (X : MX w k M H) (s : Int) : Calls Tryz.prog 270 #[.pointer (some ⟨k, 0, none⟩), .int .i64 s] w fun e w' => ∃ z, e = .returned (.int .i64 z) ∧ M.AlZ s z ∧ w = w' := by
  have C1 := xgood_any s w
  by_cases hs : gdS s
  · rw [decide_eq_true hs] at C1
    have C1 := hide C1
    have Hgd := hide hs
    obtain ⟨n, rfl⟩ : ∃ n : Nat, s = n := ⟨s.toNat, by have := hs.1; omega⟩
    have hn : n < 4 := by have := hs.2; omega
    have n4 : (n : Int) < 4 := by omega
    obtain ⟨Z, h, hS, hA⟩ := X.ex
    have gl := h.has.lt
    have HA0 := hide (fun (o : Nat) (ho : o < 4) => (show w.cell? ⟨k, 1 + o, none⟩ = some (.bool (M.act o)) from by rw [hS.act o ho]; exact h.cA ho))
    have a0 := unhide HA0 n hn
    obtain ⟨b, hb⟩ : ∃ b : Bool, M.act n = b := ⟨_, rfl⟩
    have Hb := hide hb
    rw [hb] at a0
    clear hb h hS hA X hs
    cases b with
    | true =>
      have FF := hide (show M.AlZ n 3 from .inr (.inl ⟨unhide Hgd, unhide Hb, rfl⟩))
      go_enter Tryz.func270, Tryz.ntmps270
      go_wp2_with fail
      refine (unhide C1).mono ?_
      rintro e w2 ⟨rfl, rfl⟩
      go_wp2_with fail
      go_ret
      exact ⟨3, rfl, unhide FF, rfl⟩
    | false =>
      go_enter Tryz.func270, Tryz.ntmps270
      go_wp2_with fail
      refine (unhide C1).mono ?_
      rintro e w2 ⟨rfl, rfl⟩
      clear C1
      go_upto_region 6 with fail
      clear a0
      go_loop [5] (fun jv => ∃ i : Nat, jv = .int .i64 i ∧ i ≤ 4 ∧ ∀ j, j < i → M.act j = false) (fun jv => 5 - (intOf jv).toNat)
      case atStart => exact ⟨0, rfl, by omega, fun j hj => by omega⟩
      case round =>
        obtain ⟨i, rfl, hi4, hall⟩ := hrel
        have HA := hide hall
        clear hall
        by_cases hi : i < 4
        · have a1 : decide ((i : Int) < 4) = true := decide_eq_true (by omega)
          have i4 : (i : Int) < 4 := by omega
          have d0 := unhide HA0 i hi
          obtain ⟨b, hb⟩ : ∃ b : Bool, M.act i = b := ⟨_, rfl⟩
          rw [hb] at d0
          cases b with
          | true =>
            have FF := hide (show M.AlZ n 21 from .inr (.inr (.inl ⟨unhide Hgd, unhide Hb, ⟨i, hi, hb⟩, rfl⟩)))
            clear hb
            go_wp2_with fail
            go_ret
            exact ⟨21, rfl, unhide FF, rfl⟩
          | false =>
            have HA2 := hide (show ∀ j, j < i + 1 → M.act j = false from fun j hj => by
              by_cases e : j = i
              · rw [e]; exact hb
              · exact unhide HA j (by omega))
            clear hb
            go_wp2_with fail
            go_round
            case rel => exact ⟨i + 1, by go_num, by omega, unhide HA2⟩
            case measure => simp [intOf]; omega
        · obtain rfl : i = 4 := by omega
          have HE := hide (show M.AlZ n 0 from .inr (.inr (.inr ⟨unhide Hgd, fun ⟨o, ho, h⟩ => (by rw [unhide HA o ho] at h; cases h), rfl⟩)))
          go_wp2_with fail
          go_ret
          exact ⟨0, rfl, unhide HE, rfl⟩
  · rw [decide_eq_false hs] at C1
    have C1 := hide C1
    have FF := hide (show M.AlZ s 20 from .inl ⟨hs, rfl⟩)
    clear X hs
    go_enter Tryz.func270, Tryz.ntmps270
    go_wp2_with fail
    refine (unhide C1).mono ?_
    rintro e w2 ⟨rfl, rfl⟩
    go_wp2_with fail
    go_ret
    exact ⟨20, rfl, unhide FF, rfl⟩
end
end Go.Proofs.Qxb6500412aGreat
