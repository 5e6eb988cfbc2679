/-
  OWN WORK. THE TREE: rebuild, Abort, Open.
-/
import Derived.Test.Qxb6500417aGreatTDrp
namespace Go.Proofs.Qxb6500417aGreat
open Go.RowKit Go.PlainAid
set_option linter.unusedSimpArgs false
set_option linter.unusedVariables false

def zeroTo {α : Type} (z : α) (f : Nat → α) (n : Nat) : Nat → α := fun i => if i < n then z else f i
theorem zeroTo_succ {α : Type} (z : α) (f : Nat → α) (n : Nat) (i : Nat) : updT (zeroTo z f n) n z i = zeroTo z f (n + 1) i := by
  unfold updT zeroTo
  by_cases e : i = n
  · rw [if_pos e, if_pos (by omega)]
  · rw [if_neg e]
    by_cases e2 : i < n
    · rw [if_pos e2, if_pos (by omega)]
    · rw [if_neg e2, if_neg (by omega)]
def kindTo (J : Nat → Sl) (n : Nat) : Nat → Nat := fun i => if i < n then kindJ J i else 0
theorem kindTo_succ (J : Nat → Sl) (n i : Nat) : updT (kindTo J n) n (kindJ J n) i = kindTo J (n + 1) i := by
  unfold updT kindTo
  by_cases e : i = n
  · rw [if_pos e, if_pos (by omega), e]
  · rw [if_neg e]
    by_cases e2 : i < n
    · rw [if_pos e2, if_pos (by omega)]
    · rw [if_neg e2, if_neg (by omega)]
theorem kindTo_dead (J : Nat → Sl) {n : Nat} (h : kindJ J n = 0) (i : Nat) : kindTo J n i = kindTo J (n + 1) i := by
  rw [← kindTo_succ, h]
  unfold updT kindTo
  by_cases e : i = n
  · rw [if_pos e, if_neg (by omega)]
  · rw [if_neg e]
def cntTz (J : Nat → Sl) (n : Nat) : Nat → Int := fun i => (cntJ J i n : Int)
section
variable {w w' : World} {t s d : Nat} {D B : Nat → Nat} {recs : List Rec} {J : Nat → Sl} {rt : Nat} {F : Nat → Prop} {ob : Nat → Ob} {kd : Nat → Nat} {ct : Nat → Int}
set_option maxRecDepth 100000 in
set_option maxHeartbeats 4000000 in
theorem rebuild_any (h : TAt w t s kd ct) (hO : OS w s d D B recs ob rt F) (hR : Rep ob J) (hI : Inv J) (hts : t ≠ s) (htF : ¬ F t) :
    Calls Tryz.prog 66 #[.pointer (some ⟨t, 0, none⟩)] w fun e w' => e = .returned (.tuple #[]) ∧ TAt w' t s (kindJ J) (cntZ J) ∧ Only (fun y => y = t) w w' := by
  have H := hide h
  have HO := hide hO
  have HR := hide hR
  have HI := hide hI
  clear h hO hR hI
  go_enter Tryz.func66, Tryz.ntmps66
  go_wp2_with fail
  go_loopw [2] (fun iv wr => ∃ i : Nat, iv = .int .i64 i ∧ i ≤ 49 ∧ TAt wr t s (zeroTo 0 kd i) (zeroTo 0 ct i) ∧ Only (fun y => y = t) w wr) (fun iv _ => 49 - (intOf iv).toNat)
  case atStart => exact ⟨0, rfl, by omega, (unhide H).congr (fun i _ => by simp [zeroTo]) (fun i _ => by simp [zeroTo]), Only.refl _ _⟩
  case round =>
    obtain ⟨i, rfl, hi, hT, ho⟩ := hrel
    by_cases hil : i ≤ 48
    · have a1 : decide ((i : Int) ≤ 48) = true := decide_eq_true (by omega)
      have a1n : decide (i ≤ 48) = true := decide_eq_true hil
      have a2 : (i : Int) < 49 := by omega
      have q := hT.kind i (by omega)
      have hT1 := hT.setKind i (by omega) 0
      have o1 := only1 (w := wr) (p := t) (1 + i) (.int .i64 ((0 : Nat) : Int))
      have q2 := hT1.count i (by omega)
      have hT2 := hT1.setCount i (by omega) 0
      have o2 := only1 (w := wr.setCell ⟨t, 1 + i, none⟩ (.int .i64 ((0 : Nat) : Int))) (p := t) (50 + i) (.int .i64 0)
      have RR : Hid (TAt ((wr.setCell ⟨t, 1 + i, none⟩ (.int .i64 0)).setCell ⟨t, 50 + i, none⟩ (.int .i64 0)) t s (zeroTo 0 kd (i + 1)) (zeroTo 0 ct (i + 1)) ∧ Only (fun y => y = t) w ((wr.setCell ⟨t, 1 + i, none⟩ (.int .i64 0)).setCell ⟨t, 50 + i, none⟩ (.int .i64 0))) := hide ⟨hT2.congr (fun j _ => (zeroTo_succ 0 kd i j).symm) (fun j _ => (zeroTo_succ 0 ct i j).symm), (ho.trans o1 (fun _ _ h => h)).trans o2 (fun _ _ h => h)⟩
      have htl := Has.lt hT
      obtain ⟨x1, x2⟩ := q
      have y1 : (wr.setCell ⟨t, 1 + i, none⟩ (.int .i64 0)).cell? ⟨t, 50 + i, none⟩ = some (.int .i64 (zeroTo 0 ct i i)) := q2.1
      have y2 : (wr.setCell ⟨t, 1 + i, none⟩ (.int .i64 0)).frozen? ⟨t, 50 + i, none⟩ = false := q2.2
      clear hT ho hT1 o1 q2 hT2 o2
      go_wp2_with fail
      go_roundw
      case rel => exact ⟨i + 1, by go_num, by omega, (unhide RR).1, (unhide RR).2⟩
      case measure => simp [intOf]; omega
    · have a1 : decide ((i : Int) ≤ 48) = false := decide_eq_false (by omega)
      have a1n : decide (i ≤ 48) = false := decide_eq_false hil
      have hT0 : TAt wr t s (kindTo J 1) (cntTz J 1) := hT.congr (fun j hj => by
        unfold kindTo zeroTo
        rw [if_pos (show j < i by omega)]
        by_cases e : j < 1
        · rw [if_pos e]
          have : j = 0 := by omega
          subst this
          simp [kindJ]
        · rw [if_neg e]) (fun j hj => by
        unfold cntTz zeroTo
        rw [if_pos (show j < i by omega)]
        simp [cntJ])
      have H2 := hide (And.intro hT0 ho)
      clear hT ho hT0
      generalize wr = W0 at *
      go_wp2_with fail
      go_loopw [3] (fun iv wr => ∃ i : Nat, iv = .int .i64 i ∧ 1 ≤ i ∧ i ≤ 49 ∧ TAt wr t s (kindTo J i) (cntTz J i) ∧ Only (fun y => y = t) w wr) (fun iv _ => 49 - (intOf iv).toNat)
      case atStart => exact ⟨1, rfl, by omega, by omega, (unhide H2).1, (unhide H2).2⟩
      case round =>
        clear H2
        obtain ⟨i, rfl, h1i, hi, hT, ho⟩ := hrel
        by_cases hil : i ≤ 48
        · have a1 : decide ((i : Int) ≤ 48) = true := decide_eq_true (by omega)
          have a1n : decide (i ≤ 48) = true := decide_eq_true hil
          have a2 : (i : Int) < 49 := by omega
          have hin : In i := ⟨h1i, hil⟩
          have htl := Has.lt hT
          have c0 := hT.store.1
          have hO1 := (unhide HO).keep ho (fun e => hts e.symm) (fun y hy e => htF (e ▸ hy))
          cases hl : liveS (J i) with
          | false =>
            have CG := hide (get_no hO1 i (by rw [liveI_nat ob i hin, (unhide HR).live hin]; exact hl))
            have hk0 : kindJ J i = 0 := by unfold kindJ; rw [if_neg (fun e => by rw [hl] at e; exact absurd e.2 (by simp))]
            have RR := hide (hT.congr (fun j _ => (kindTo_dead J hk0 j).symm) (fun j _ => (by
              unfold cntTz
              rw [show cntJ J j (i + 1) = cntJ J j i + (if i ≠ 0 ∧ liveS (J i) = true then occ (J i).rws j else 0) from rfl, if_neg (fun e => by rw [hl] at e; exact absurd e.2 (by simp))]
              rfl : cntTz J (i + 1) j = cntTz J i j)))
            have OO := hide ho
            clear hT ho hO1 hl hk0
            go_wp2_with fail
            refine (unhide CG).mono ?_
            rintro e w1 ⟨rfl, rfl⟩
            go_wp2_with fail
            go_roundw
            case rel => exact ⟨i + 1, by go_num, by omega, by omega, unhide RR, unhide OO⟩
            case measure => simp [intOf]; omega
          | true =>
            have hst := liveS_ne hl
            have hlo : liveO (ob i) = true := by rw [(unhide HR).live hin]; exact hl
            have hki := kindJ_live hin hl
            have hck : ∀ j, cntJ J j (i + 1) = cntJ J j i + occ (J i).rws j := fun j => by
              show cntJ J j i + (if i ≠ 0 ∧ liveS (J i) = true then occ (J i).rws j else 0) = _
              rw [if_pos ⟨by omega, hl⟩]
            have CG := get_in hO1 i hin hlo (J i).dat.length (by rw [((unhide HR) i hin).2.2])
            rw [((unhide HR) i hin).2.1, ((unhide HR) i hin).2.2] at CG
            have CG := hide CG
            have Hck := hide hck
            have Hki := hide hki
            by_cases h2 : (J i).kd = 2
            · have ht := (unhide HI).tr i hin hst h2
              have hel := encs_bound ht.wf
              have h8 := ht.len
              have hd := ht.dat
              have hwf := ht.wf
              have hle : (encs (J i).rws).length ≤ 1000 := by omega
              have HT := hide hT
              have OO := hide ho
              have hcl : ∀ j, j < 49 → -100000 ≤ cntTz J i j ∧ cntTz J i j ≤ 100000 := fun j hj => by
                have := (unhide HI).cnt_le j i (by omega)
                unfold cntTz
                omega
              rw [h2, hd] at CG
              have CT := hide (fun (W : World) (hT : TAt W t s (kindTo J (i + 1)) (cntTz J i)) v (hv : BytesAt W v (encs (J i).rws).length (dF (encs (J i).rws))) (hc : Capd v) => tally_any hT hv hc hwf hle 1 (.inl rfl) hcl)
              have H2k := hide h2
              clear hT ho hO1 hl hlo hki hck ht hel h8 hd hwf hcl hst h2
              generalize hrs : (J i).rws = rs at *
              clear hrs
              go_wp2_with fail
              refine (unhide CG).mono ?_
              rintro e w1 ⟨rfl, hh1, ho1⟩
              have hT1 := (unhide HT).keep ho1 (fun h => h)
              have q := hT1.kind i (by omega)
              have hT2 : TAt (w1.setCell ⟨t, 1 + i, none⟩ (.int .i64 ((2 : Nat) : Int))) t s (kindTo J (i + 1)) (cntTz J i) := (hT1.setKind i (by omega) 2).congr (fun j _ => by rw [← kindTo_succ, unhide Hki, unhide H2k]) (fun _ _ => rfl)
              have o2 := only1 (w := w1) (p := t) (1 + i) (.int .i64 ((2 : Nat) : Int))
              have hws : wr.heap.size < w1.heap.size := hh1.lt
              have hb2 := has_bytes (hh1.keep o2 (fun e => by omega))
              have CT2 := hide (unhide CT _ hT2 _ hb2 (fun g n cap e => by simp at e; omega))
              have O2 := hide (((unhide OO).trans ho1 (fun _ _ h => h.elim)).trans o2 (fun _ _ h => h))
              have htl1 := Has.lt hT1
              obtain ⟨q1, q2⟩ := q
              clear hh1 ho1 hT1 hT2 o2 hb2 CT HT OO CG c0
              go_wp2_with fail
              refine (unhide CT2).mono ?_
              rintro e w3 ⟨rfl, hT3, ho3⟩
              have RR := hide (And.intro (hT3.congr (fun _ _ => rfl) (fun j _ => (by
                unfold cntTz ctAdd
                rw [unhide Hck j]
                push_cast
                omega : cntTz J (i + 1) j = ctAdd (cntTz J i) 1 rs j))) ((unhide O2).trans ho3 (fun _ _ h => h)))
              clear hT3 ho3 CT2
              go_wp2_with fail
              go_roundw
              case rel => exact ⟨i + 1, by go_num, by omega, by omega, (unhide RR).1, (unhide RR).2⟩
              case measure => simp [intOf]; omega
            · have e2 : (((J i).kd : Int) == 2) = false := by simp; omega
              have hrs := ((unhide HI).nt i hin hst h2).2
              have HT := hide hT
              have OO := hide ho
              have Hrs := hide hrs
              clear hT ho hO1 hl hlo hki hck hst h2 hrs
              generalize hkk : (J i).kd = kk at *
              have Hkk := hide hkk
              clear hkk
              go_wp2_with fail
              refine (unhide CG).mono ?_
              rintro e w1 ⟨rfl, hh1, ho1⟩
              have hT1 := (unhide HT).keep ho1 (fun h => h)
              have q := hT1.kind i (by omega)
              have hT2 : TAt (w1.setCell ⟨t, 1 + i, none⟩ (.int .i64 (kk : Int))) t s (kindTo J (i + 1)) (cntTz J (i + 1)) := (hT1.setKind i (by omega) kk).congr (fun j _ => by rw [← kindTo_succ, unhide Hki]) (fun j _ => by
                unfold cntTz
                rw [unhide Hck j, unhide Hrs]
                simp [occ])
              have o2 := only1 (w := w1) (p := t) (1 + i) (.int .i64 (kk : Int))
              have RR := hide (And.intro hT2 (((unhide OO).trans ho1 (fun _ _ h => h.elim)).trans o2 (fun _ _ h => h)))
              have htl1 := Has.lt hT1
              obtain ⟨q1, q2⟩ := q
              clear hh1 ho1 hT1 hT2 o2 HT OO CG c0
              go_wp2_with fail
              go_roundw
              case rel => exact ⟨i + 1, by go_num, by omega, by omega, (unhide RR).1, (unhide RR).2⟩
              case measure => simp [intOf]; omega
        · have a1 : decide ((i : Int) ≤ 48) = false := decide_eq_false (by omega)
          have a1n : decide (i ≤ 48) = false := decide_eq_false hil
          have e49 : i = 49 := by omega
          subst e49
          have RR := hide (And.intro (hT.congr (fun j hj => (by unfold kindTo; rw [if_pos hj] : kindJ J j = kindTo J 49 j)) (fun j _ => (rfl : cntZ J j = cntTz J 49 j))) ho)
          clear hT ho
          go_wp2_with fail
          go_end0
          exact ⟨rfl, unhide RR⟩
end
end Go.Proofs.Qxb6500417aGreat
