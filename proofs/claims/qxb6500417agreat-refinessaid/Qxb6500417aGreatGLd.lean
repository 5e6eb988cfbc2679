/-
  OWN WORK. THE GRAPH: load.
-/
import Derived.Test.Qxb6500417aGreatGLdP
import Derived.Test.Qxb6500417aGreatGDec3
import Derived.Test.Qxb6500417aGreatTGet
namespace Go.Proofs.Qxb6500417aGreat
open Go.RowKit Go.PlainAid
set_option linter.unusedSimpArgs false
set_option linter.unusedVariables false

/-- The tables while load reads the commits: those below k are there. -/
def ldC (c : Nat → Cr) (k : Nat) : Nat → Cr := fun i => if i < k then c i else Cr.zero
def ldT (T0 : Gt) (o : Nat → Nat) (n k : Nat) : Gt := { Gt.fresh with c := ldC T0.c k, o := o, n := n }
theorem ldC_lt {c : Nat → Cr} {k i : Nat} (h : i < k) : ldC c k i = c i := by unfold ldC; rw [if_pos h]
theorem ldC_succ (c : Nat → Cr) (k : Nat) : updT (ldC c k) k (c k) = ldC c (k + 1) := by
  funext i
  unfold updT ldC
  by_cases e : i = k
  · rw [if_pos e, if_pos (by omega), e]
  · rw [if_neg e]
    by_cases h : i < k
    · rw [if_pos h, if_pos (by omega)]
    · rw [if_neg h, if_neg (by omega)]
theorem ldC_skip {c : Nat → Cr} {k : Nat} (h : c k = Cr.zero) : ldC c (k + 1) = ldC c k := by
  rw [← ldC_succ]
  funext i
  unfold updT
  by_cases e : i = k
  · rw [if_pos e, e, h]; unfold ldC; rw [if_neg (by omega)]
  · rw [if_neg e]
theorem ld_seq {J : Nat → Sl} {c : Nat → Cr} {nx : Nat} (h : TabI J c nx) (hx : nx < 4611686018427387904) (k : Nat) : ∀ i, i < 49 → (ldC c k i).seq < 4611686018427387904 := fun i hi => by
  unfold ldC
  split
  · by_cases h0 : i = 0
    · rw [h0, h.c0]; decide
    · have hi' : In i := ⟨by omega, by omega⟩
      cases hu : (c i).used with
      | true => have := (h.cs i ⟨hi', hu⟩).2; omega
      | false => rw [h.cz i hi' hu]; decide
  · decide
theorem GotB.at_ {w : World} {v : Value} {dat : List Nat} {w' : World} (h : GotB w v dat w') : BytesAt w' v dat.length (dF dat) := by
  rcases h with ⟨rfl, rfl⟩ | ⟨g, rfl, _, hH⟩
  · exact ⟨_, _, rfl, fun h => absurd h (by simp)⟩
  · refine ⟨_, _, rfl, fun _ => ⟨g, rfl, fun j hj => ?_⟩⟩
    rw [hH.cell, u8_get _ _ _ hj]
theorem GotB.cap {w : World} {v : Value} {dat : List Nat} {w' : World} (h : GotB w v dat w') (hd : dat.length ≤ 1000) : ∀ a n c, v = .slice a n c → dat.length ≤ c ∧ c ≤ 1000 := by
  rcases h with ⟨rfl, rfl⟩ | ⟨g, rfl, _, hH⟩
  · intro a n c e
    obtain ⟨_, _, rfl⟩ : none = a ∧ 0 = n ∧ 0 = c := by simpa using e
    simp
  · intro a n c e
    obtain ⟨_, _, rfl⟩ : some ⟨g, 0, none⟩ = a ∧ dat.length = n ∧ dat.length = c := by simpa using e
    omega
theorem GotB.new {w : World} {v : Value} {dat : List Nat} {w' : World} (h : GotB w v dat w') : ∀ y, v.ownBlock = some y → w.heap.size ≤ y := by
  rcases h with ⟨rfl, rfl⟩ | ⟨g, rfl, hg, hH⟩
  · intro y hy; simp [Value.ownBlock] at hy
  · intro y hy
    have : g = y := by simpa [Value.ownBlock] using hy
    omega
theorem GotB.shape {w : World} {v : Value} {dat : List Nat} {w' : World} (h : GotB w v dat w') : ∃ a c, v = .slice a dat.length c := by
  rcases h with ⟨rfl, rfl⟩ | ⟨g, rfl, hg, hH⟩
  · exact ⟨_, _, rfl⟩
  · exact ⟨_, _, rfl⟩
section
variable {w : World} {g t s d : Nat} {D B : Nat → Nat} {recs : List Rec} {J : Nat → Sl} {rt : Nat} {F : Nat → Prop} {T : Gt}
/-- The graph's block lies apart from what the trees hold. -/
structure Apart (g t s : Nat) (F : Nat → Prop) : Prop where
  nt : g ≠ t
  ns : g ≠ s
  nF : ¬ F g
theorem TS.keepG {w' : World} (h : TS w t s d D B recs J rt F) (hA : Apart g t s F) (ho : Only (fun y => y = g) w w') : TS w' t s d D B recs J rt F :=
  h.keep ho (fun e => hA.nt e.symm) (fun e => hA.ns e.symm) (fun k hk e => hA.nF (e ▸ hk))
set_option maxRecDepth 100000 in
set_option maxHeartbeats 4000000 in
theorem gload_any (h : TS w t s d D B recs J rt F) (hG : GH w g t T) (hA : Apart g t s F) (T0 : Gt) (hI : GI J rt T0) (hr : (J rt).dat = rdat T0) :
    Calls Tryz.prog 61 #[.pointer (some ⟨g, 0, none⟩)] w fun e w' => e = .returned (.tuple #[]) ∧ GH w' g t T0 ∧ Only (fun y => y = g) w w' := by
  have C1 := hide (gclear_any hG)
  have H0 := hide h
  have HA := hide hA
  have HI := hide hI
  have Hr := hide hr
  clear h hG hA hI hr
  go_enter Tryz.func61, Tryz.ntmps61
  go_wp2_with fail
  refine (unhide C1).mono ?_
  rintro e w1 ⟨rfl, hG1, hO1⟩
  have HG1 := hide hG1
  have HO1 := hide hO1
  clear C1 hG1 hO1
  go_wp2_with fail
  go_loopw [2] (fun iv wr => ∃ k o n, iv = .int .i64 ((k : Nat) : Int) ∧ 1 ≤ k ∧ k ≤ 49 ∧ OrdK T0.c o n k ∧ GH wr g t (ldT T0 o n k) ∧ Only (fun y => y = g) w wr) (fun iv _ => 49 - (intOf iv).toNat)
  case atStart => exact ⟨1, fun _ => 0, 0, rfl, by omega, by omega, OrdK.start _, GH.congr (unhide HG1) ⟨fun i hi => by
      show Cr.zero = ldC T0.c 1 i
      unfold ldC
      by_cases e : i < 1
      · have : i = 0 := by omega
        rw [if_pos e, this, (unhide HI).tab.c0]
      · rw [if_neg e], fun _ _ => rfl, rfl, fun _ _ => rfl, rfl, rfl, rfl, rfl, rfl, rfl⟩, unhide HO1⟩
  case round =>
    clear HG1 HO1
    obtain ⟨k, o, n, rfl, hk1, hk49, hK, hG, hO⟩ := hrel
    have hT := (unhide H0).keepG (unhide HA) hO
    have ct := hG.tr.1
    by_cases hkl : k < 49
    · have hkin : In k := ⟨by omega, by omega⟩
      have a1 : decide ((k : Int) ≤ 48) = true := decide_eq_true (by omega)
      have a2 : (k : Int) < 49 := by omega
      have C2 := tget_any hT (k : Int)
      have hlv : liveJ J (k : Int) = liveS (J k) := liveJ_nat hkin
      have hknat : ((k : Int)).toNat = k := by simp
      have hcu := (unhide HI).tab.cu k hkin
      by_cases hc : (T0.c k).used = true
      · obtain ⟨hl, hkd⟩ := hcu.1 hc
        have hC : IsC T0.c k := ⟨hkin, hc⟩
        obtain ⟨msg, hm, hd⟩ := (unhide HI).tab.cd k hC
        have hw := (unhide HI).tab.cw k hC
        unfold tgK tgE tgD at C2
        rw [hlv, hl, hknat, hkd, if_pos rfl, if_pos rfl, if_pos ⟨rfl, by omega⟩, hd] at C2
        have C2 := hide C2
        have hlen := cdat_len (T0.c k) hw.np msg
        have hlen2 : (cdat (T0.c k) msg).length ≤ 1000 := by have := hw.np; omega
        have HK := hide hK
        have HG := hide hG
        have HO := hide hO
        have Hw := hide hw
        have Hl2 := hide hlen2
        have hnk := hK.nk
        clear hK hG hO hT hd hlv hcu hlen hlen2 hc
        go_wp2_with fail
        refine (unhide C2).mono ?_
        rintro e w2 ⟨v2, rfl, hB2, hO2⟩
        have hcap := hB2.cap (unhide Hl2)
        have C3 := hide (decode_any v2 (T0.c k) (unhide Hw) msg hm _ rfl hB2.at_ hcap)
        obtain ⟨va, vc, rfl⟩ := hB2.shape
        have HO2 := hide hO2
        unfold crV at C3
        clear C2 hB2 hO2 hcap
        go_wp2_with fail
        refine (unhide C3).mono ?_
        rintro e w3 ⟨rfl, hO3⟩
        have hO23 := (unhide HO2).trans hO3 (fun _ _ h => h)
        have hG3 := (unhide HG).quiet hO23
        have HO23 := hide hO23
        have s23 := hO23.size
        have hgl := (unhide HG).lt
        have hgl3 : g < w3.heap.size := by omega
        have hgn : g ≠ w3.heap.size := by omega
        have z0 := hG3.com0 k hkl
        have z1 := hG3.com k 1 hkl (by omega)
        have z2 := hG3.com k 2 hkl (by omega)
        have z3 := hG3.com k 3 hkl (by omega)
        have z4 := hG3.com k 4 hkl (by omega)
        have z5 := hG3.com k 5 hkl (by omega)
        have HG3 := hide hG3
        clear C3 HO2 hO3 hO23 hG3 s23 hgl
        go_upto_region 8 with fail
        have hA4 := Has.new w3 (crA (T0.c k)) 82
        have hO4 := (Only.refl (fun _ => False) w3).alloc (.cells (crA (T0.c k)) 82)
        have hG4 := (unhide HG3).quiet hO4
        have z0 := hG4.com0 k hkl
        have z1 := hG4.com k 1 hkl (by omega)
        have z2 := hG4.com k 2 hkl (by omega)
        have z3 := hG4.com k 3 hkl (by omega)
        have z4 := hG4.com k 4 hkl (by omega)
        have z5 := hG4.com k 5 hkl (by omega)
        have m0 : (w3.alloc (.cells (crA (T0.c k)) 82)).cell? ⟨w3.heap.size, 0, none⟩ = some (.bool (T0.c k).used) := hA4.cell 0
        have m1 : (w3.alloc (.cells (crA (T0.c k)) 82)).cell? ⟨w3.heap.size, 1, none⟩ = some (.int .i64 ((T0.c k).seq : Int)) := hA4.cell 1
        have m2 : (w3.alloc (.cells (crA (T0.c k)) 82)).cell? ⟨w3.heap.size, 2, none⟩ = some (.int .i64 ((T0.c k).tree : Int)) := hA4.cell 2
        have m3 : (w3.alloc (.cells (crA (T0.c k)) 82)).cell? ⟨w3.heap.size, 3, none⟩ = some (.int .i64 ((T0.c k).np : Int)) := hA4.cell 3
        have m4 : (w3.alloc (.cells (crA (T0.c k)) 82)).cell? ⟨w3.heap.size, 4, none⟩ = some (.int .i64 ((T0.c k).p0 : Int)) := hA4.cell 4
        have m5 : (w3.alloc (.cells (crA (T0.c k)) 82)).cell? ⟨w3.heap.size, 5, none⟩ = some (.int .i64 ((T0.c k).p1 : Int)) := hA4.cell 5
        have HO4 := hide ((unhide HO23).trans hO4 (fun _ _ h => h))
        have HG4 := hide hG4
        unfold crA at m0 m1 m2 m3 m4 m5 HO4 HG4 z0 z1 z2 z3 z4 z5
        clear hA4 hO4 hG4 HG3 HO23
        generalize hW4 : w3.alloc (.cells #[.bool (T0.c k).used, .int .i64 ((T0.c k).seq : Int), .int .i64 ((T0.c k).tree : Int), .int .i64 ((T0.c k).np : Int), .int .i64 ((T0.c k).p0 : Int), .int .i64 ((T0.c k).p1 : Int)] 82) = W4 at *
        clear hW4
        generalize w3.heap.size = q3 at *
        have hP5 := ((unhide HG4).putC k hkl (T0.c k)).quiet (Only.refl (fun _ => False) _).drew
        have hTT : (ldT T0 o n k).setC k (T0.c k) = ldT T0 o n (k + 1) := by
          unfold Gt.setC ldT
          simp only
          rw [ldC_succ]
        rw [hTT] at hP5
        have C6 := hide (gplace_any hP5 k hkl (by show n < 48; omega) (fun j hj => by
          have := ((unhide HK).oin j hj).2
          show o j < 49
          omega) (ld_seq (unhide HI).tab (unhide HI).nx (k + 1)))
        have HO5 : Hid (Only (fun y => y = g) W4 (put6 W4 g k (T0.c k)).drew) := hide (only6g (Only.refl (fun y => y = g) W4) (fun _ => rfl) _).drew
        clear hP5 hTT HG4
        go_region
        all_goals
          go_wp2_with fail
          refine (unhide C6).mono ?_
          rintro e w7 ⟨rfl, ⟨p, hAt, hG7⟩, hO7⟩
          have hsq : ∀ j, j < k + 1 → ((ldT T0 o n (k + 1)).c j) = T0.c j := fun j hj => ldC_lt hj
          have hOrd : OrdK T0.c (insO o p k n) (n + 1) (k + 1) := (unhide HK).ins hC hAt.le (fun j h1 h2 => by
            have := hAt.hi j h1 h2
            have h3 := ((unhide HK).oin j h2).2
            rw [hsq k (by omega)] at this
            have e : (ldT T0 o n (k + 1)).o j = o j := rfl
            rw [e, hsq (o j) (by omega)] at this
            exact this) (by
            rcases hAt.lo with h1 | h1
            · exact .inl h1
            · by_cases hp0 : p = 0
              · exact .inl hp0
              · right
                have hpl := hAt.le
                have e0 : (ldT T0 o n (k + 1)).n = n := rfl
                rw [e0] at hpl
                have h3 := ((unhide HK).oin (p - 1) (by omega)).2
                rw [hsq k (by omega)] at h1
                have e : (ldT T0 o n (k + 1)).o (p - 1) = o (p - 1) := rfl
                rw [e, hsq (o (p - 1)) (by omega)] at h1
                exact h1) (unhide HI).tab.ci
          have HOrd := hide hOrd
          have HG7 : Hid (GH w7 g t (ldT T0 (insO o p k n) (n + 1) (k + 1))) := hide hG7
          have HO7 : Hid (Only (fun y => y = g) w w7) := hide (((unhide HO).trans ((unhide HO4).mono (T := fun y => y = g) (fun _ _ h => h.elim)) (fun _ _ h => h)).trans ((unhide HO5).trans hO7 (fun _ _ h => h)) (fun _ _ h => h))
          clear C6 hAt hG7 hO7 hsq hOrd
          go_wp2_with fail
          go_roundw
          case rel => exact ⟨k + 1, _, _, by go_num, by omega, by omega, unhide HOrd, unhide HG7, unhide HO7⟩
          case measure => simp [intOf]; omega
      · have hcz := (unhide HI).tab.cz k hkin (by simpa using hc)
        have hOrd := hK.skip (fun e => hc e.2)
        have HOrd := hide hOrd
        have HG : Hid (GH wr g t (ldT T0 o n (k + 1))) := hide (by
          have e : ldT T0 o n (k + 1) = ldT T0 o n k := by unfold ldT; rw [ldC_skip hcz]
          rw [e]; exact hG)
        have HO := hide hO
        cases hl : liveS (J k) with
        | false =>
          unfold tgK tgE tgD at C2
          rw [hlv, hl, if_neg (by simp), if_neg (by simp), if_neg (by simp)] at C2
          have C2 := hide C2
          clear hK hG hO hT hlv hcu hOrd hcz hc
          go_wp2_with fail
          refine (unhide C2).mono ?_
          rintro e w2 ⟨v2, rfl, hB2, hO2⟩
          obtain ⟨va, vc, rfl⟩ := hB2.shape
          have HO2 := hide ((unhide HO).trans (hO2.mono (T := fun y => y = g) (fun _ _ h => h.elim)) (fun _ _ h => h))
          have HG2 := hide ((unhide HG).quiet hO2)
          clear C2 hB2 hO2
          go_wp2_with fail
          go_roundw
          case rel => exact ⟨k + 1, _, _, by go_num, by omega, by omega, unhide HOrd, unhide HG2, unhide HO2⟩
          case measure => simp [intOf]; omega
        | true =>
          have hkd : (J k).kd ≠ 3 := fun e => hc (hcu.2 ⟨hl, e⟩)
          have hkd4 := (unhide HI).inv.kd k hkin (liveS_ne hl)
          unfold tgK tgE tgD at C2
          rw [hlv, hl, hknat, if_pos rfl, if_pos rfl] at C2
          have a3 : (((J k).kd : Int) == 3) = false := ne_intO (by omega)
          have C2 := hide C2
          clear hK hG hO hT hlv hcu hOrd hcz hc
          generalize (if true = true ∧ (J k).kd ≠ 2 then (J k).dat else []) = dd at *
          generalize (J k).kd = kk at *
          go_wp2_with fail
          refine (unhide C2).mono ?_
          rintro e w2 ⟨v2, rfl, hB2, hO2⟩
          obtain ⟨va, vc, rfl⟩ := hB2.shape
          have HO2 := hide ((unhide HO).trans (hO2.mono (T := fun y => y = g) (fun _ _ h => h.elim)) (fun _ _ h => h))
          have HG2 := hide ((unhide HG).quiet hO2)
          clear C2 hB2 hO2
          go_wp2_with fail
          go_roundw
          case rel => exact ⟨k + 1, _, _, by go_num, by omega, by omega, unhide HOrd, unhide HG2, unhide HO2⟩
          case measure => simp [intOf]; omega
    · have a1 : decide ((k : Int) ≤ 48) = false := decide_eq_false (by omega)
      have e1 : k = 49 := by omega
      subst e1
      have C2 := hide (troot_any hT)
      obtain ⟨en, eo⟩ := hK.x.uniq (unhide HI).ord.x
      have hrin := (unhide HI).rut.rin
      have hrl := (unhide HI).rut.rlv
      have hrk := (unhide HI).rut.rkd
      have C3 := tget_any hT (rt : Int)
      unfold tgK tgE tgD at C3
      have hknat : ((rt : Int)).toNat = rt := by simp
      rw [liveJ_nat hrin, hrl, hknat, hrk, if_pos rfl, if_pos rfl, if_pos ⟨rfl, by omega⟩, unhide Hr] at C3
      have C3 := hide C3
      have hW := (unhide HI).refW
      have HW := hide hW
      have HG : Hid (GH wr g t (ldT T0 T0.o T0.n 49)) := hide (GH.congr hG ⟨fun _ _ => rfl, fun i _ => eo i, en, fun _ _ => rfl, rfl, rfl, rfl, rfl, rfl, rfl⟩)
      have HO := hide hO
      have hgl := hG.lt
      clear hK hG hO hT en eo hW hrin hrl hrk hknat
      go_wp2_with fail
      refine (unhide C2).mono ?_
      rintro e w2 ⟨rfl, rfl⟩
      clear C2
      go_wp2_with fail
      refine (unhide C3).mono ?_
      rintro e w3 ⟨v3, rfl, hB3, hO3⟩
      have hcap := hB3.cap (by have := (unhide HW).len; omega)
      have C4 := hide (readRefs_any ((unhide HG).quiet hO3) T0 (unhide HW) (unhide HI).ref.bz v3 _ rfl hB3.at_ hcap (fun y hy e => by
        have := hB3.new y hy
        omega))
      obtain ⟨va, vc, rfl⟩ := hB3.shape
      have HO3 := hide hO3
      clear C3 hB3 hO3 hcap
      go_wp2_with fail
      refine (unhide C4).mono ?_
      rintro e w4 ⟨rfl, hG4, hO4⟩
      have HG4 : Hid (GH w4 g t T0) := hide (GH.congr hG4 ⟨fun i hi => ldC_lt hi, fun _ _ => rfl, rfl, fun _ _ => rfl, rfl, rfl, rfl, rfl, rfl, rfl⟩)
      have HO4 := hide (((unhide HO).trans ((unhide HO3).mono (T := fun y => y = g) (fun _ _ h => h.elim)) (fun _ _ h => h)).trans hO4 (fun _ _ h => h))
      clear C4 hG4 hO4
      go_wp2_with fail
      go_end0
      exact ⟨rfl, unhide HG4, unhide HO4⟩
end
end Go.Proofs.Qxb6500417aGreat
