/-
  OWN WORK. THE GRAPH: Check: the table of commits.
-/
import Derived.Test.Qxb6500417aGreatGCk1
namespace Go.Proofs.Qxb6500417aGreat
open Go.RowKit Go.PlainAid
set_option linter.unusedSimpArgs false
set_option linter.unusedVariables false

theorem cntTo_list {p : Nat → Bool} {n : Nat} {l : List Nat} (hn : l.Nodup) (hm : ∀ i, i ∈ l ↔ i < n ∧ p i = true) : cntTo p n = l.length := by
  have e : ∀ n, cntTo p n = ((List.range n).filter p).length := by
    intro n
    induction n with
    | zero => rfl
    | succ n ih =>
      unfold cntTo
      rw [List.range_succ, List.filter_append, List.length_append, ih]
      congr 1
      cases hp : p n <;> simp [hp]
  rw [e]
  refine List.Perm.length_eq ?_
  refine (List.perm_ext_iff_of_nodup (List.nodup_range.filter p) hn).2 (fun i => ?_)
  rw [hm i, List.mem_filter, List.mem_range]
def isU (T : Gt) (i : Nat) : Bool := decide (i ≠ 0) && (T.c i).used
def isR (J : Nat → Sl) (i : Nat) : Bool := decide (i ≠ 0) && liveS (J i) && decide ((J i).kd = 4)
section
variable {J : Nat → Sl} {rt : Nat} {T : Gt}
theorem GI.cntU (h : GI J rt T) : cntTo (isU T) 49 = T.n := by
  rw [← os_len T]
  refine cntTo_list ?_ (fun i => ?_)
  · have := os_sorted h.ord
    exact this.imp (fun {a b} hab e => by rw [e] at hab; omega)
  · rw [h.os_iff]
    unfold IsC In isU
    simp only [Bool.and_eq_true, decide_eq_true_eq]
    constructor
    · rintro ⟨⟨a, b⟩, c⟩; exact ⟨by omega, by omega, c⟩
    · rintro ⟨a, b, c⟩; exact ⟨⟨by omega, by omega⟩, c⟩
theorem GI.cntR (h : GI J rt T) : cntTo (isR J) 49 = 1 := by
  refine cntTo_list (l := [rt]) (by simp) (fun i => ?_)
  have r1 := h.rut.rin.1
  have r2 := h.rut.rin.2
  simp only [List.mem_singleton]
  unfold isR
  simp only [Bool.and_eq_true, decide_eq_true_eq]
  constructor
  · rintro rfl; exact ⟨by omega, ⟨by omega, h.rut.rlv⟩, h.rut.rkd⟩
  · rintro ⟨a, ⟨b, c⟩, d⟩; exact h.rut.r1 i ⟨by omega, by omega⟩ c d
theorem cntTo_yes {p : Nat → Bool} {k : Nat} (h : p k = true) : cntTo p (k + 1) = cntTo p k + 1 := by
  show cntTo p k + (if p k = true then 1 else 0) = _
  rw [if_pos h]
theorem cntTo_no {p : Nat → Bool} {k : Nat} (h : p k = false) : cntTo p (k + 1) = cntTo p k := by
  show cntTo p k + _ = _
  rw [h]; simp
end
section
variable {w : World} {g t s d rt : Nat} {D B : Nat → Nat} {recs : List Rec} {J : Nat → Sl} {F : Nat → Prop} {T : Gt}
set_option maxRecDepth 100000 in
set_option maxHeartbeats 8000000 in
theorem gtabF_any (h : TS w t s d D B recs J rt F) (hg : GH w g t T) (hI : GI J rt T) :
    Calls Tryz.prog 88 #[.pointer (some ⟨g, 0, none⟩)] w fun e w' => e = .returned (.bool true) ∧ Only (fun _ => False) w w' := by
  have H0 := hide h
  have HG := hide hg
  have HI := hide hI
  clear h hg hI
  go_enter Tryz.func88, Tryz.ntmps88
  go_wp2_with fail
  go_loopw [3, 4, 5] (fun rv cv kv wr => ∃ k : Nat, kv = .int .i64 k ∧ 1 ≤ k ∧ k ≤ 49 ∧ rv = .int .i64 (cntTo (isR J) k : Nat) ∧ cv = .int .i64 (cntTo (isU T) k : Nat) ∧ Only (fun _ => False) w wr) (fun _ _ kv _ => 49 - (intOf kv).toNat)
  case atStart => exact ⟨1, rfl, by omega, by omega, by rw [cntTo_no (by simp [isR])]; rfl, by rw [cntTo_no (by simp [isU])]; rfl, Only.refl _ _⟩
  case round =>
    obtain ⟨k, rfl, hk1, hk49, rfl, rfl, hO⟩ := hrel
    have hT := (unhide H0).quiet hO
    have hG := (unhide HG).quiet hO
    have ct := hG.tr.1
    have hr49 := cntTo_le (isR J) k
    have hu49 := cntTo_le (isU T) k
    have hgl := hG.lt
    by_cases hkl : k < 49
    · have hkin : In k := ⟨by omega, by omega⟩
      have k0 : k ≠ 0 := by omega
      have a1 : decide ((k : Int) ≤ 48) = true := decide_eq_true (by omega)
      have a2 : (k : Int) < 49 := by omega
      have C2 := tget_any hT (k : Int)
      have hlv : liveJ J (k : Int) = liveS (J k) := liveJ_nat hkin
      have hknat : ((k : Int)).toNat = k := by simp
      have hcu := (unhide HI).tab.cu k hkin
      have cu := (hG.com0 k hkl).1
      by_cases hc : (T.c k).used = true
      · obtain ⟨hl, hkd⟩ := hcu.1 hc
        have hC : IsC T.c k := ⟨hkin, hc⟩
        obtain ⟨msg, hm, hd⟩ := (unhide HI).tab.cd k hC
        have hw := (unhide HI).tab.cw k hC
        unfold tgK tgE tgD at C2
        rw [hlv, hl, hknat, hkd, if_pos rfl, if_pos rfl, if_pos ⟨rfl, by omega⟩, hd] at C2
        have C2 := hide C2
        have hlen := cdat_len (T.c k) hw.np msg
        have hlen2 : (cdat (T.c k) msg).length ≤ 1000 := by have := hw.np; omega
        have hcR := cntTo_no (p := isR J) (k := k) (by unfold isR; rw [hkd]; simp)
        have hcU := cntTo_yes (p := isU T) (k := k) (by unfold isU; rw [hc]; simp [k0])
        rw [hc] at cu
        have HcR := hide hcR
        have HcU := hide hcU
        have HGk := hide hG
        have HO := hide hO
        have Hw := hide hw
        have Hl2 := hide hlen2
        have CS := hide (fun W => gsameC_any (T.c k) W)
        unfold crV at CS
        clear hG hO hT hd hlv hcu hlen hlen2 hc hcR hcU
        generalize cntTo (isR J) k = cr at *
        generalize cntTo (isU T) k = cu' at *
        go_wp2_with fail
        refine (unhide C2).mono ?_
        rintro e w2 ⟨v2, rfl, hB2, hO2⟩
        have hcap := hB2.cap (unhide Hl2)
        have C3 := hide (decode_any v2 (T.c k) (unhide Hw) msg hm _ rfl hB2.at_ hcap)
        obtain ⟨va, vc, rfl⟩ := hB2.shape
        have cu := (((unhide HGk).quiet hO2).com0 k hkl).1
        rw [hC.2] at cu
        have HO2 := hide hO2
        unfold crV at C3
        clear C2 hB2 hO2 hcap ct
        go_wp2_with fail
        refine (unhide C3).mono ?_
        rintro e w3 ⟨rfl, hO3⟩
        have hO23 := (unhide HO2).trans hO3 (fun _ _ h => h)
        have HO23 := hide hO23
        clear C3 HO2 hO3 hO23 cu
        go_upto_region 13 with fail
        have hA4 := Has.new w3 (crA (T.c k)) 82
        have hO4 := (Only.refl (fun _ => False) w3).alloc (.cells (crA (T.c k)) 82)
        have hO4' := (unhide HO23).trans hO4 (fun _ _ h => h)
        have hG4 := (unhide HGk).quiet hO4'
        have z0 := (hG4.com0 k hkl).1
        have z1 : (w3.alloc (.cells (crA (T.c k)) 82)).cell? ⟨g, 1 + k * 6 + 1, none⟩ = some (.int .i64 ((T.c k).seq : Int)) := (hG4.com k 1 hkl (by omega)).1
        have z2 : (w3.alloc (.cells (crA (T.c k)) 82)).cell? ⟨g, 1 + k * 6 + 2, none⟩ = some (.int .i64 ((T.c k).tree : Int)) := (hG4.com k 2 hkl (by omega)).1
        have z3 : (w3.alloc (.cells (crA (T.c k)) 82)).cell? ⟨g, 1 + k * 6 + 3, none⟩ = some (.int .i64 ((T.c k).np : Int)) := (hG4.com k 3 hkl (by omega)).1
        have z4 : (w3.alloc (.cells (crA (T.c k)) 82)).cell? ⟨g, 1 + k * 6 + 4, none⟩ = some (.int .i64 ((T.c k).p0 : Int)) := (hG4.com k 4 hkl (by omega)).1
        have z5 : (w3.alloc (.cells (crA (T.c k)) 82)).cell? ⟨g, 1 + k * 6 + 5, none⟩ = some (.int .i64 ((T.c k).p1 : Int)) := (hG4.com k 5 hkl (by omega)).1
        have m0 : (w3.alloc (.cells (crA (T.c k)) 82)).cell? ⟨w3.heap.size, 0, none⟩ = some (.bool (T.c k).used) := hA4.cell 0
        have m1 : (w3.alloc (.cells (crA (T.c k)) 82)).cell? ⟨w3.heap.size, 1, none⟩ = some (.int .i64 ((T.c k).seq : Int)) := hA4.cell 1
        have m2 : (w3.alloc (.cells (crA (T.c k)) 82)).cell? ⟨w3.heap.size, 2, none⟩ = some (.int .i64 ((T.c k).tree : Int)) := hA4.cell 2
        have m3 : (w3.alloc (.cells (crA (T.c k)) 82)).cell? ⟨w3.heap.size, 3, none⟩ = some (.int .i64 ((T.c k).np : Int)) := hA4.cell 3
        have m4 : (w3.alloc (.cells (crA (T.c k)) 82)).cell? ⟨w3.heap.size, 4, none⟩ = some (.int .i64 ((T.c k).p0 : Int)) := hA4.cell 4
        have m5 : (w3.alloc (.cells (crA (T.c k)) 82)).cell? ⟨w3.heap.size, 5, none⟩ = some (.int .i64 ((T.c k).p1 : Int)) := hA4.cell 5
        have HO4 := hide ((unhide HO).trans hO4' (fun _ _ h => h))
        unfold crA at m0 m1 m2 m3 m4 m5 HO4 z0 z1 z2 z3 z4 z5
        clear hA4 hO4 hG4 HO23 hO4' HO
        generalize hW4 : w3.alloc (.cells #[.bool (T.c k).used, .int .i64 ((T.c k).seq : Int), .int .i64 ((T.c k).tree : Int), .int .i64 ((T.c k).np : Int), .int .i64 ((T.c k).p0 : Int), .int .i64 ((T.c k).p1 : Int)] 82) = W4 at *
        clear hW4
        generalize w3.heap.size = q3 at *
        go_cut [63] (fun v wx => v = .bool false ∧ Only (fun _ => False) W4 wx)
        case first =>
          go_region_with (go_at_call 134; refine (unhide CS _).mono ?_; rintro y w5 ⟨rfl, o5⟩)
          all_goals
            have HO5 := hide ((Only.refl (fun _ => False) W4).drew.trans o5 (fun _ _ h => h))
            clear o5
            go_wp2_with fail
            go_meet
            exact ⟨rfl, unhide HO5⟩
        case rest =>
        obtain ⟨rfl, hO5⟩ := hcut
        have HO5 := hide ((unhide HO4).trans hO5 (fun _ _ h => h))
        clear hO5 z0 z1 z2 z3 z4 z5 m0 m1 m2 m3 m4 m5 CS HO4
        go_wp2_with fail
        go_roundw
        case rel => exact ⟨k + 1, by go_num, by omega, by omega, by rw [unhide HcR], by rw [unhide HcU]; go_num, unhide HO5⟩
        case measure => simp [intOf]; omega
      · have hcf : (T.c k).used = false := by simpa using hc
        rw [hcf] at cu
        have hcU := cntTo_no (p := isU T) (k := k) (by unfold isU; rw [hcf]; simp)
        have HcU := hide hcU
        have HO := hide hO
        have HGk := hide hG
        cases hl : liveS (J k) with
        | false =>
          have hcR := cntTo_no (p := isR J) (k := k) (by unfold isR; rw [hl]; simp)
          have HcR := hide hcR
          unfold tgK tgE tgD at C2
          rw [hlv, hl, if_neg (by simp), if_neg (by simp), if_neg (by simp)] at C2
          have C2 := hide C2
          clear hG hO hT hlv hcu hc hcU hcR
          generalize cntTo (isR J) k = cr at *
          generalize cntTo (isU T) k = cu' at *
          go_wp2_with fail
          refine (unhide C2).mono ?_
          rintro e w2 ⟨v2, rfl, hB2, hO2⟩
          obtain ⟨va, vc, rfl⟩ := hB2.shape
          have cu := (((unhide HGk).quiet hO2).com0 k hkl).1
          rw [hcf] at cu
          have HO2 := hide ((unhide HO).trans hO2 (fun _ _ h => h))
          clear C2 hB2 hO2
          go_wp2_with fail
          go_roundw
          case rel => exact ⟨k + 1, by go_num, by omega, by omega, by rw [unhide HcR], by rw [unhide HcU], unhide HO2⟩
          case measure => simp [intOf]; omega
        | true =>
          have hkd : (J k).kd ≠ 3 := fun e => hc (hcu.2 ⟨hl, e⟩)
          unfold tgK tgE tgD at C2
          rw [hlv, hl, hknat, if_pos rfl, if_pos rfl] at C2
          have a3 : (((J k).kd : Int) == 3) = false := ne_intO (by omega)
          generalize (if true = true ∧ (J k).kd ≠ 2 then (J k).dat else []) = dd at *
          have C2 := hide C2
          clear hG hO hT hlv hcu hc hcU
          by_cases h4 : (J k).kd = 4
          · have hcR := cntTo_yes (p := isR J) (k := k) (by unfold isR; rw [hl, h4]; simp [k0])
            have HcR := hide hcR
            rw [h4] at C2
            clear hcR a3 hkd h4 hl
            generalize cntTo (isR J) k = cr at *
            generalize cntTo (isU T) k = cu' at *
            go_wp2_with fail
            refine (unhide C2).mono ?_
            rintro e w2 ⟨v2, rfl, hB2, hO2⟩
            obtain ⟨va, vc, rfl⟩ := hB2.shape
            have cu := (((unhide HGk).quiet hO2).com0 k hkl).1
            rw [hcf] at cu
            have HO2 := hide ((unhide HO).trans hO2 (fun _ _ h => h))
            clear C2 hB2 hO2
            go_wp2_with fail
            go_roundw
            case rel => exact ⟨k + 1, by go_num, by omega, by omega, by rw [unhide HcR]; go_num, by rw [unhide HcU], unhide HO2⟩
            case measure => simp [intOf]; omega
          · have hcR := cntTo_no (p := isR J) (k := k) (by unfold isR; simp [h4])
            have HcR := hide hcR
            have a4 : (((J k).kd : Int) == 4) = false := ne_intO (by omega)
            clear hcR hkd h4 hl
            generalize cntTo (isR J) k = cr at *
            generalize cntTo (isU T) k = cu' at *
            generalize (J k).kd = kk at *
            go_wp2_with fail
            refine (unhide C2).mono ?_
            rintro e w2 ⟨v2, rfl, hB2, hO2⟩
            obtain ⟨va, vc, rfl⟩ := hB2.shape
            have cu := (((unhide HGk).quiet hO2).com0 k hkl).1
            rw [hcf] at cu
            have HO2 := hide ((unhide HO).trans hO2 (fun _ _ h => h))
            clear C2 hB2 hO2
            go_wp2_with fail
            go_roundw
            case rel => exact ⟨k + 1, by go_num, by omega, by omega, by rw [unhide HcR], by rw [unhide HcU], unhide HO2⟩
            case measure => simp [intOf]; omega
    · have a1 : decide ((k : Int) ≤ 48) = false := decide_eq_false (by omega)
      have e1 : k = 49 := by omega
      subst e1
      rw [(unhide HI).cntR, (unhide HI).cntU]
      have cn := hG.n_.1
      have C2 := hide (troot_any hT)
      have hrin := (unhide HI).rut.rin
      have hrl := (unhide HI).rut.rlv
      have hrk := (unhide HI).rut.rkd
      have C3 := tget_any hT (rt : Int)
      unfold tgK tgE at C3
      have hknat : ((rt : Int)).toNat = rt := by simp
      rw [liveJ_nat hrin, hrl, hknat, hrk, if_pos rfl, if_pos rfl] at C3
      have C3 := hide C3
      have HO := hide hO
      have e2 := eqI (T.n : Int)
      have f2 := neI (T.n : Int)
      clear hG hO hT hrin hrl hrk hknat
      go_wp2_with fail
      refine (unhide C2).mono ?_
      rintro e w2 ⟨rfl, rfl⟩
      clear C2
      go_wp2_with fail
      refine (unhide C3).mono ?_
      rintro e w3 ⟨v3, rfl, hB3, hO3⟩
      obtain ⟨va, vc, rfl⟩ := hB3.shape
      have HO3 := hide ((unhide HO).trans hO3 (fun _ _ h => h))
      clear C3 hB3 hO3
      go_wp2_with fail
      go_ret
      exact ⟨rfl, unhide HO3⟩
end
end Go.Proofs.Qxb6500417aGreat
