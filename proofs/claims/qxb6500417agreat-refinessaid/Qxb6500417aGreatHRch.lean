/-
  OWN WORK. THE GRAPH's MODEL: api's Reach.
-/
import Derived.Test.Qxb6500417aGreatHNd
namespace Go.Proofs.Qxb6500417aGreat
open Go.RowKit Go.PlainAid
set_option linter.unusedSimpArgs false
set_option linter.unusedVariables false

/-- What Reach answers. -/
structure RcP (w w' : World) (b n : Nat) (s : Nat → Bool) : Prop where
  sn : SeenN w' b n s
  hb : w.heap.size ≤ b
  ho : Only (fun _ => False) w w'
theorem RcP.set {w w' : World} {b n : Nat} {s : Nat → Bool} (h : RcP w w' b n s) (i : Nat) : RcP w (w'.setCell ⟨b, i, none⟩ (.bool true)) b n (setB s i) :=
  ⟨h.sn.set i, h.hb, h.ho.setCell (p := ⟨b, i, none⟩) (fun hlt => by have h1 : b < w.heap.size := hlt; have := h.hb; omega) _⟩
theorem RcP.congr {w w' : World} {b n : Nat} {s s' : Nat → Bool} (h : RcP w w' b n s) (he : ∀ i, i < n → s i = s' i) : RcP w w' b n s' := ⟨h.sn.congr he, h.hb, h.ho⟩
theorem RcP.quiet {w w' w2 : World} {b n : Nat} {s : Nat → Bool} (h : RcP w w' b n s) (ho : Only (fun _ => False) w' w2) : RcP w w2 b n s := ⟨Has.keep h.sn ho (fun h => h), h.hb, h.ho.trans ho (fun _ _ h => h)⟩
theorem RcP.lt {w w' : World} {b n : Nat} {s : Nat → Bool} (h : RcP w w' b n s) : b < w'.heap.size := Has.lt h.sn
theorem parI_at {x : Nd} {k : Nat} (hk : k < x.par.length) : (parI x)[k]'(by simpa [parI] using hk) = ((x.par[k] : Nat) : Int) := by simp [parI]
set_option maxRecDepth 100000 in
set_option maxHeartbeats 8000000 in
theorem areach_any {H : Nat → Prop} {w : World} {v rv : Value} {l : List Nd} {rs : List Int} (h : NodesIn H w v l) (hl : l.length ≤ 1000) (hS : NdS l) (hr : IntsIn w rv rs) (hrl : rs.length ≤ 1000) (hp2 : ∀ x ∈ l, x.par.length ≤ 1000) :
    Calls Tryz.prog 180 #[v, rv] w fun e w' => ∃ b, e = .returned (.slice (some ⟨b, 0, none⟩) l.length l.length) ∧ RcP w w' b l.length (reachN l l.length (rootI l rs)) := by
  have H0 := hide h
  have HR := hide hr
  have HS := hide hS
  have Hp2 := hide hp2
  obtain ⟨a, cap, rfl, _⟩ := h
  obtain ⟨ra, rcap, rfl, _⟩ := hr
  have hmk := run_make_boolsN w l.length (by omega)
  have S1 : RcP w (w.alloc (.cells (tabV l.length (bF (fun _ => false))) 4)) w.heap.size l.length (fun _ => false) := ⟨Has.new w _ _, Nat.le_refl _, (Only.refl _ w).alloc _⟩
  have S1' : RcP w (w.alloc (.cells (tabV l.length (bF (fun _ => false))) 4)) w.heap.size l.length (rootI l (rs.take 0)) := S1.congr (fun i hi => by unfold rootI; rw [List.getElem?_eq_getElem hi]; rfl)
  have HS1 := hide S1'
  clear S1 S1' hS hp2
  generalize tabV l.length (bF (fun _ => false)) = zz at *
  obtain ⟨R, hR⟩ : ∃ R, reachN l l.length (rootI l rs) = R := ⟨_, rfl⟩
  rw [hR]
  have HRR := hide hR
  clear hR
  go_enter Tryz.func180, Tryz.ntmps180
  go_wp2_with fail
  clear hmk
  generalize w.alloc (.cells zz 4) = w1 at *
  generalize hbb : w.heap.size = b at *
  clear hbb
  go_loopw [6] (fun kv wr => ∃ k : Nat, kv = .int .i64 k ∧ k ≤ rs.length ∧ RcP w wr b l.length (rootI l (rs.take k))) (fun kv _ => rs.length - (intOf kv).toNat)
  case atStart => exact ⟨0, rfl, by omega, unhide HS1⟩
  case round =>
    clear HS1
    obtain ⟨k, rfl, hk, hP⟩ := hrel
    by_cases hkl : k < rs.length
    · have b1 : decide ((k : Int) < (rs.length : Int)) = true := decide_eq_true (by omega)
      have b1n : decide (k < rs.length) = true := decide_eq_true hkl
      have b2 : (k : Int) < (rs.length : Int) := by omega
      obtain ⟨_, _, he, hcc⟩ := (unhide HR).keep hP.ho (fun _ _ h => h)
      obtain ⟨gr, hra, hcell⟩ := hcc (by omega)
      obtain ⟨rfl, _, rfl⟩ : ra = _ ∧ True ∧ rcap = _ := by simpa using he
      subst hra
      have cr := hcell k hkl
      have hC1 := afindN_any ((unhide H0).quiet hP.ho) hl (rs[k])
      have C1 := hide hC1
      have HP := hide hP
      have hno := rootI_no (nodes := l) hkl
      have hye := fun j0 b0 => rootI_yes (unhide HS) (k := k) (j0 := j0) (b0 := b0) hkl
      have Hno := hide hno
      have Hye := hide hye
      have hbl := hP.lt
      clear hP hcc hcell he hC1 hno hye
      generalize rs[k] = q at *
      go_wp2_with fail
      refine (unhide C1).mono ?_
      rintro e w2 ⟨r, rfl, hF, rfl⟩
      clear C1
      rcases hF with ⟨rfl, hn⟩ | ⟨j, x, rfl, hj, hx⟩
      · have HP2 := hide ((unhide HP).congr (unhide Hno hn))
        clear hn HP
        go_wp2_with fail
        go_roundw
        case rel => exact ⟨k + 1, by go_num, by omega, unhide HP2⟩
        case measure => simp [intOf]; omega
      · have hjl := (List.getElem?_eq_some_iff.1 hj).1
        have d1 : decide ((0 : Int) ≤ (j : Int)) = true := decide_eq_true (by omega)
        have d2 : (j : Int) < (l.length : Int) := by omega
        have cs := (unhide HP).sn.cell j hjl
        obtain ⟨cs1, cs2⟩ := cs
        have HP2 := hide (((unhide HP).set j).congr (unhide Hye j x hj hx))
        clear HP hj hx
        go_wp2_with fail
        go_roundw
        case rel => exact ⟨k + 1, by go_num, by omega, unhide HP2⟩
        case measure => simp [intOf]; omega
    · have b1 : decide ((k : Int) < (rs.length : Int)) = false := decide_eq_false (by omega)
      have b1n : decide (k < rs.length) = false := decide_eq_false hkl
      have e4 : rs.take k = rs := List.take_of_length_le (by omega)
      rw [e4] at hP
      have HP := hide hP
      clear hP e4
      go_wp2_with fail
      go_loopw [8] (fun iv wr => ∃ (i : Nat) (s : Nat → Bool), iv = .int .i64 ((i : Int) - 1) ∧ i ≤ l.length ∧ reachN l i s = R ∧ RcP w wr b l.length s) (fun iv _ => (intOf iv + 1).toNat)
      case atStart => exact ⟨l.length, rootI l rs, by first | rfl | go_num, Nat.le_refl _, unhide HRR, unhide HP⟩
      case round =>
        clear HRR HP
        obtain ⟨i', s, rfl, hi, hRs, hP⟩ := hrel
        by_cases h0 : i' = 0
        · subst h0
          have a1 : decide ((0 : Int) ≤ ((0 : Nat) : Int) - 1) = false := by simp
          have hs : s = R := hRs
          subst hs
          have HP := hide hP
          clear hP hRs
          go_wp2_with fail
          go_ret
          exact ⟨b, rfl, unhide HP⟩
        · obtain ⟨i, rfl⟩ : ∃ i, i' = i + 1 := ⟨i' - 1, by omega⟩
          have e1 : (((i + 1 : Nat) : Int) - 1) = (i : Int) := by omega
          rw [e1]
          have a1 : decide ((0 : Int) ≤ (i : Int)) = true := by simp
          have a2 : (i : Int) < (l.length : Int) := by omega
          have hil : i < l.length := by omega
          have cs := (hP.sn.cell i hil).1
          have hx : l[i]? = some l[i] := List.getElem?_eq_getElem hil
          have hRs' : reachN l i (seenS l s i) = R := hRs
          have HRs := hide hRs'
          have HP := hide hP
          clear hRs hRs' hP e1
          cases hsi : s i with
          | false =>
            rw [hsi] at cs
            have hse : seenS l s i = s := by unfold seenS; rw [if_neg (by rw [hsi]; simp)]
            have Hse := hide hse
            clear hse hsi hx
            go_wp2_with fail
            go_roundw
            case rel => exact ⟨i, s, by go_num, by omega, by rw [← unhide Hse]; exact unhide HRs, unhide HP⟩
            case measure => simp [intOf]
          | true =>
            rw [hsi] at cs
            have hpl : (l[i]).par.length ≤ 1000 := unhide Hp2 _ (List.getElem_mem hil)
            have HPP : Hid (RcP w wr b l.length (parM l s ((l[i]).par.take 0))) := hide ((unhide HP).congr (fun j _ => (parM_nil l s j).symm))
            have Hall := hide (parM_all hx hsi)
            have hno := fun (k : Nat) (hk : k < (l[i]).par.length) => parM_no (nodes := l) (s := s) (ps := l[i].par) (k := k) hk
            have hye := fun (k : Nat) (hk : k < (l[i]).par.length) j0 b0 => parM_yes (unhide HS) (s := s) (ps := l[i].par) (k := k) (j0 := j0) (b0 := b0) hk
            have Hno := hide hno
            have Hye := hide hye
            clear HP hsi hx hno hye
            go_wp2_with fail
            clear cs
            go_loopw [9] (fun kv wr => ∃ k : Nat, kv = .int .i64 k ∧ k ≤ (l[i]).par.length ∧ RcP w wr b l.length (parM l s ((l[i]).par.take k))) (fun kv _ => (l[i]).par.length - (intOf kv).toNat)
            case atStart => exact ⟨0, rfl, by omega, unhide HPP⟩
            case round =>
              clear HPP
              obtain ⟨k, rfl, hk, hP⟩ := hrel
              obtain ⟨_, _, he, hcc⟩ := (unhide H0).quiet hP.ho
              obtain ⟨gn, hga, _, hcell⟩ := hcc (by omega)
              obtain ⟨rfl, _, rfl⟩ : a = _ ∧ True ∧ cap = _ := by simpa using he
              subst hga
              have hN := hcell i hil
              obtain ⟨pv, cpv, hIp, _⟩ := hN.ps
              have hIp2 := hIp
              obtain ⟨pa, pc, rfl, hpc⟩ := hIp
              have hpil : (parI l[i]).length = (l[i]).par.length := by simp [parI]
              rw [hpil] at cpv
              have HP := hide hP
              have hbl := hP.lt
              by_cases hkl2 : k < (l[i]).par.length
              · have b3 : decide ((k : Int) < ((l[i]).par.length : Int)) = true := decide_eq_true (by omega)
                have b3n : decide (k < (l[i]).par.length) = true := decide_eq_true hkl2
                have b4 : (k : Int) < ((l[i]).par.length : Int) := by omega
                obtain ⟨gp, rfl, hpcell⟩ := hpc (by omega)
                have cp := hpcell k (by omega)
                rw [parI_at hkl2] at cp
                have C1 := hide (afindN_any ((unhide H0).quiet hP.ho) hl (((l[i]).par[k] : Nat) : Int))
                have Hno2 := hide (unhide Hno k hkl2)
                have Hye2 := hide (fun j0 b0 => unhide Hye k hkl2 j0 b0)
                clear hP hcc hcell he hN hIp2 hpc hpcell
                generalize hq : (l[i]).par[k] = q at *
                clear hq
                go_wp2_with fail
                refine (unhide C1).mono ?_
                rintro e w2 ⟨r, rfl, hF, rfl⟩
                clear C1
                rcases hF with ⟨rfl, hn⟩ | ⟨j, x, rfl, hj, hx⟩
                · have HP2 := hide ((unhide HP).congr (unhide Hno2 hn))
                  clear hn HP
                  go_wp2_with fail
                  go_roundw
                  case rel => exact ⟨k + 1, by go_num, by omega, unhide HP2⟩
                  case measure => simp [intOf]; omega
                · have hjl := (List.getElem?_eq_some_iff.1 hj).1
                  have d1 : decide ((0 : Int) ≤ (j : Int)) = true := decide_eq_true (by omega)
                  have d2 : (j : Int) < (l.length : Int) := by omega
                  have cs := (unhide HP).sn.cell j hjl
                  obtain ⟨cs1, cs2⟩ := cs
                  have HP2 := hide (((unhide HP).set j).congr (unhide Hye2 j x hj hx))
                  clear HP hj hx
                  go_wp2_with fail
                  go_roundw
                  case rel => exact ⟨k + 1, by go_num, by omega, unhide HP2⟩
                  case measure => simp [intOf]; omega
              · have b3 : decide ((k : Int) < ((l[i]).par.length : Int)) = false := decide_eq_false (by omega)
                have b3n : decide (k < (l[i]).par.length) = false := decide_eq_false hkl2
                have e5 : (l[i]).par.take k = (l[i]).par := List.take_of_length_le (by omega)
                have hP2 := unhide HP
                rw [e5] at hP2
                have HP2 := hide (hP2.congr (fun j _ => unhide Hall j))
                clear hP hP2 hcc hcell he hN hIp2 hpc e5
                go_wp2_with fail
                go_roundw
                case rel => exact ⟨i, _, by go_num, by omega, unhide HRs, unhide HP2⟩
                case measure => simp [intOf]
end Go.Proofs.Qxb6500417aGreat
