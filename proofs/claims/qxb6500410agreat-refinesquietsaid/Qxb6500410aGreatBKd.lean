/-
  OWN WORK. THE B-TREE LAW: Dropped, Taken.
-/
import Derived.Test.Qxb6500410aGreatBKg
namespace Go.Proofs.Qxb6500410aGreat
open Go.RowKit Go.PlainAid
set_option linter.unusedSimpArgs false
set_option linter.unusedVariables false

section
variable {lo : Nat} {w w' : World} {kb : Nat} {q : Gnd} {op : Bool} {S C P : Vu} {n b v : Gho} {N : Int}
theorem Vz_some {S : Vu} {h : Int} {l : List KV} (e : Vz S h = some l) : 0 ≤ h ∧ h < 8 ∧ h.toNat < 8 ∧ S h.toNat = some l := by
  unfold Vz at e
  by_cases c : 0 ≤ h ∧ h < 8
  · rw [if_pos c] at e
    exact ⟨c.1, c.2, by omega, e⟩
  · rw [if_neg c] at e; cases e
theorem GhAt.tbO {g tb : Nat} {iv : Value} {T : Nat → Bool} {its : List Itm} (G : GhAt w g tb iv T its) : iv.ownBlock ≠ some tb := fun e => by
  rcases G.own.2 with ⟨h1, _⟩ | ⟨ib, cap, cur, h1, _, h2, _⟩
  · rw [h1] at e; cases e
  · rw [h1] at e
    have : ib = tb := by simpa [Value.ownBlock] using e
    rw [this, G.tr] at h2
    cases h2
theorem GhAt.setT {g tb : Nat} {iv : Value} {T : Nat → Bool} {its : List Itm} (G : GhAt w g tb iv T its) {i : Nat} (hi : i < 8) (x : Bool) : GhAt (w.setCell ⟨tb, i, none⟩ (.bool x)) g tb iv (updT T i x) its := by
  have ho : Only (fun k => k = tb) w (w.setCell ⟨tb, i, none⟩ (.bool x)) := (Only.refl (fun k => k = tb) w).more i _
  refine ⟨G.has.keep ho (G.has.ne G.tr (by decide)), ?_, G.own.keep ho (fun k hk e => G.tbO (by rw [hk, e])), G.len⟩
  have := G.tr.setCell i (.bool x)
  have e : (tabV 8 (fun j => Value.bool (T j))).setIfInBounds i (.bool x) = tabV 8 (fun j => .bool (updT T i x j)) := by
    apply Array.ext'
    simp only [tabV, Array.toList_setIfInBounds]
    apply List.ext_getElem
    · simp
    · intro j h1 h2
      simp [List.getElem_set, updT]
      by_cases c : i = j
      · rw [if_pos c, if_pos c.symm]
      · rw [if_neg c, if_neg (fun d => c d.symm)]
  rw [e] at this
  exact this
theorem KK.setT (h : KK lo w kb q op C P n b v N) (hq : ∀ k, q.A k → k < w.heap.size) {i : Nat} (hi : i < 8) (x : Bool) : KK lo (w.setCell ⟨n.tb, i, none⟩ (.bool x)) kb q op C P ⟨n.g, n.tb, n.iv, updT n.T i x, n.its⟩ b v N ∧ Only (fun k => k = n.tb) w (w.setCell ⟨n.tb, i, none⟩ (.bool x)) := by
  have ho : Only (fun k => k = n.tb) w (w.setCell ⟨n.tb, i, none⟩ (.bool x)) := (Only.refl (fun k => k = n.tb) w).more i _
  refine ⟨h.now rfl (GhAt.setT h.gn hi x) (fun k hk => .inl hk) hq ho (fun k e => by rw [e]; exact .inr (.inl rfl)) ?_, ho⟩
  have := h.kp.lt
  have := h.dk.2
  omega
/-- Without, on the ghost Now. -/
theorem KK.without (h : KK lo w kb q op C P n b v N) (hq : ∀ k, q.A k → k < w.heap.size) (i : Int) (k : ByteArray) (all : Bool) (A : ∃ op2 S2, FV q w op2 S2) :
    Calls Tryz.prog 95 #[.pointer (some ⟨n.g, 0, none⟩), .int .i64 i, .string k, .bool all] w fun e w' => e = .returned (.tuple #[]) ∧ ∃ iv', KK lo w' kb q op C P ⟨n.g, n.tb, iv', n.T, woI i k all n.its⟩ b v N ∧ Only (fun y => y = n.g) w w' := by
  refine (gwithout_any h.gn i k all).mono ?_
  rintro e w' ⟨rfl, iv', G, hy, ho⟩
  refine ⟨rfl, iv', h.now rfl G (fun y hy' => ?_) hq ho (fun y e => by rw [e]; exact .inl rfl) ?_, ho⟩
  · rcases hy' with c | c | c
    · exact .inl (.inl c)
    · exact .inl (.inr (.inl c))
    · exact .inr (hy y c)
  · have := h.kp.lt
    have := h.dk.2
    omega
set_option maxRecDepth 100000 in
set_option maxHeartbeats 4000000 in
theorem taken_any (J : KJ lo w kb q op S C P n b v N) (h : Int) (k : ByteArray) : Calls Tryz.prog 47 #[.pointer (some ⟨kb, 0, none⟩), .int .i64 h, .string k] w fun e w' => e = .returned (.bool true) ∧ KP lo w kb q P v N w' := by
  have c2 := J.k.c2
  cases op with
  | false =>
    have C1 := hide (vdelete_shut J.fv h k)
    go_enter Tryz.func47, Tryz.ntmps47
    go_wp2_with fail
    refine (unhide C1).mono ?_
    rintro e w1 ⟨rfl, A1, o1⟩
    have J1 := J.forest o1 A1
    have HP := hide (J1.same (J.oS o1))
    have c6 := J1.k.c6
    clear A1 o1 C1 J1
    go_wp2_with fail
    go_ret
    exact ⟨by rfl, unhide HP⟩
  | true =>
    have C1 := vdelete_open J.fv h k
    cases hz : Vz S h with
    | none =>
      have hd : delS S h k = (S, 7) := by unfold delS; rw [hz]
      rw [hd] at C1
      have C1 := hide C1
      go_enter Tryz.func47, Tryz.ntmps47
      go_wp2_with fail
      refine (unhide C1).mono ?_
      rintro e w1 ⟨rfl, A1, o1⟩
      have J1 := J.forest o1 A1
      have HP := hide (J1.same (J.oS o1))
      have c6 := J1.k.c6
      have c3 := J1.k.c3
      have CH := ghas_any J1.k.gn h
      rw [J1.rn.hasT, hz] at CH
      have CH := hide CH
      clear A1 o1 C1 J1 hd hz
      go_wp2_with fail
      refine (unhide CH).mono ?_
      rintro e w2 ⟨rfl, rfl⟩
      go_wp2_with fail
      go_ret
      exact ⟨by rfl, unhide HP⟩
    | some l =>
      have hL : Lz S h = l := by unfold Lz; rw [hz]; rfl
      obtain ⟨z0, z8, zi, zs⟩ := Vz_some hz
      cases hg : getL k l with
      | none =>
        have hd : delS S h k = (S, 9) := by unfold delS; rw [hz]; simp only; rw [if_pos hg]
        rw [hd] at C1
        have C1 := hide C1
        go_enter Tryz.func47, Tryz.ntmps47
        go_wp2_with fail
        refine (unhide C1).mono ?_
        rintro e w1 ⟨rfl, A1, o1⟩
        have J1 := J.forest o1 A1
        have HP := hide (J1.same (J.oS o1))
        have c6 := J1.k.c6
        have c3 := J1.k.c3
        have CH := ghas_any J1.k.gn h
        rw [J1.rn.hasT, hz] at CH
        have CH := hide CH
        have CA := hide (gat_any J1.k.gn h k)
        clear A1 o1 C1 hd hz
        go_wp2_with fail
        refine (unhide CH).mono ?_
        rintro e w2 ⟨rfl, rfl⟩
        go_wp2_with fail
        refine (unhide CA).mono ?_
        rintro e w2 ⟨r, rfl, R, rfl⟩
        have hr : r = -1 := by
          rcases J1.rn.at_ R with ⟨e, _⟩ | ⟨i, y, _, _, _, _, e⟩
          · exact e
          · rw [hL, hg] at e; cases e
        subst hr
        clear R
        go_wp2_with fail
        go_ret
        exact ⟨by rfl, unhide HP⟩
      | some x =>
        have hd : delS S h k = (updV S h.toNat (some (delL k l)), 0) := by unfold delS; rw [hz]; simp only; rw [if_neg (by rw [hg]; simp)]
        rw [hd] at C1
        have C1 := hide C1
        go_enter Tryz.func47, Tryz.ntmps47
        go_wp2_with fail
        refine (unhide C1).mono ?_
        rintro e w1 ⟨rfl, A1, o1⟩
        have K1 := J.k.forest o1
        have c6 := K1.c6
        have c3 := K1.c3
        have CH := ghas_any K1.gn h
        rw [J.rn.hasT, hz] at CH
        have CH := hide CH
        have CA := hide (gat_any K1.gn h k)
        have CW := hide (K1.without A1.Alt h k false ⟨_, _, A1⟩)
        have HF := hide (And.intro A1 (J.oS o1))
        clear A1 o1 C1 hd hz
        go_wp2_with fail
        refine (unhide CH).mono ?_
        rintro e w2 ⟨rfl, rfl⟩
        go_wp2_with fail
        refine (unhide CA).mono ?_
        rintro e w2 ⟨r, rfl, R, rfl⟩
        have hr : ∃ i : Nat, r = i := by
          rcases J.rn.at_ R with ⟨_, e⟩ | ⟨i, y, _, e, _, _, _⟩
          · rw [hL, hg] at e; cases e
          · exact ⟨i, e⟩
        obtain ⟨i, rfl⟩ := hr
        have n0 : decide ((i : Int) < 0) = false := decide_eq_false (by omega)
        clear R
        go_wp2_with fail
        refine (unhide CW).mono ?_
        rintro e w2 ⟨rfl, iv', K2, o2⟩
        have HK := hide K2
        have HO := hide o2
        clear K2 o2
        go_wp2_with fail
        go_ret
        refine ⟨by rfl, ?_⟩
        have hnA : ∀ y, q.A y → ¬ y = n.g := fun y hy e => (K1.dn y (by rw [e]; exact .inl rfl)).1 hy
        have hh : ((h.toNat : Nat) : Int) = h := by omega
        have R2 := J.rn.delete zi k zs
        rw [hh] at R2
        exact KJ.same ⟨unhide HK, K1.fvK (unhide HF).1 (unhide HO) hnA, R2, fun c => (by cases c), J.cf⟩ ((unhide HF).2.trans (unhide HO) (fun y _ e => by rw [e]; exact (K1.dn n.g (.inl rfl)).2.2.2.2))
set_option maxRecDepth 100000 in
set_option maxHeartbeats 4000000 in
theorem dropped_any (J : KJ lo w kb q op S C P n b v N) (h : Int) : Calls Tryz.prog 45 #[.pointer (some ⟨kb, 0, none⟩), .int .i64 h] w fun e w' => e = .returned (.bool true) ∧ KP lo w kb q P v N w' := by
  have c2 := J.k.c2
  cases op with
  | false =>
    have C1 := hide (vdrop_shut J.fv h)
    go_enter Tryz.func45, Tryz.ntmps45
    go_wp2_with fail
    refine (unhide C1).mono ?_
    rintro e w1 ⟨rfl, A1, o1⟩
    have J1 := J.forest o1 A1
    have HP := hide (J1.same (J.oS o1))
    have c6 := J1.k.c6
    clear A1 o1 C1 J1
    go_wp2_with fail
    go_ret
    exact ⟨by rfl, unhide HP⟩
  | true =>
    have C1 := vdrop_open J.fv h
    cases hz : Vz S h with
    | none =>
      have hd : dropS S h = (S, 7) := by unfold dropS; rw [hz]
      rw [hd] at C1
      have C1 := hide C1
      go_enter Tryz.func45, Tryz.ntmps45
      go_wp2_with fail
      refine (unhide C1).mono ?_
      rintro e w1 ⟨rfl, A1, o1⟩
      have J1 := J.forest o1 A1
      have HP := hide (J1.same (J.oS o1))
      have c6 := J1.k.c6
      have c3 := J1.k.c3
      have CH := ghas_any J1.k.gn h
      rw [J1.rn.hasT, hz] at CH
      have CH := hide CH
      clear A1 o1 C1 J1 hd hz
      go_wp2_with fail
      refine (unhide CH).mono ?_
      rintro e w2 ⟨rfl, rfl⟩
      go_wp2_with fail
      go_ret
      exact ⟨by rfl, unhide HP⟩
    | some l =>
      obtain ⟨z0, z8, zi, zs⟩ := Vz_some hz
      have hh : ((h.toNat : Nat) : Int) = h := by omega
      have hd : dropS S h = (updV S h.toNat none, 0) := by unfold dropS; rw [hz]
      rw [hd] at C1
      have C1 := hide C1
      go_enter Tryz.func45, Tryz.ntmps45
      go_wp2_with fail
      refine (unhide C1).mono ?_
      rintro e w1 ⟨rfl, A1, o1⟩
      have K1 := J.k.forest o1
      have c6 := K1.c6
      have c3 := K1.c3
      have CH := ghas_any K1.gn h
      rw [J.rn.hasT, hz] at CH
      have CH := hide CH
      have g0 := GhAt.c0 K1.gn
      have g1 := GhAt.t K1.gn h.toNat zi
      have gf := K1.gn.tr.free h.toNat
      have HF := hide (And.intro A1 (J.oS o1))
      have nkt : kb ≠ n.tb := fun e => (K1.dn n.tb (.inr (.inl rfl))).2.1 e.symm
      clear A1 o1 C1 hd hz
      go_wp2_with fail
      refine (unhide CH).mono ?_
      rintro e w2 ⟨rfl, rfl⟩
      go_upto_region 7 with fail
      obtain ⟨K2, o2⟩ := K1.setT (unhide HF).1.Alt zi false
      have hnT : ∀ y, q.A y → ¬ y = n.tb := fun y hy e => (K1.dn y (by rw [e]; exact .inr (.inl rfl))).1 hy
      have A2 := K1.fvK (unhide HF).1 o2 hnT
      have O2 := hide ((unhide HF).2.trans o2 (fun y _ e => by rw [e]; exact (K1.dn n.tb (.inr (.inl rfl))).2.2.2.2))
      clear o2 c6 c3 g0 g1 gf HF
      generalize w1.setCell ⟨n.tb, h.toNat, none⟩ (.bool false) = w2 at *
      have c3 := K2.c3
      have CW := hide (K2.without A2.Alt h bE true ⟨_, _, A2⟩)
      go_wp2_with fail
      refine (unhide CW).mono ?_
      rintro e w3 ⟨rfl, iv', K3, o3⟩
      have HK := hide K3
      have HO := hide o3
      clear K3 o3
      go_wp2_with fail
      go_ret
      refine ⟨by rfl, ?_⟩
      have hnA : ∀ y, q.A y → ¬ y = n.g := fun y hy e => (K1.dn y (by rw [e]; exact .inl rfl)).1 hy
      have R2 := J.rn.drop zi bE
      rw [hh] at R2
      exact KJ.same ⟨unhide HK, K2.fvK A2 (unhide HO) hnA, R2, fun c => (by cases c), J.cf⟩ ((unhide O2).trans (unhide HO) (fun y _ e => by rw [e]; exact (K1.dn n.g (.inl rfl)).2.2.2.2))
end
end Go.Proofs.Qxb6500410aGreat
