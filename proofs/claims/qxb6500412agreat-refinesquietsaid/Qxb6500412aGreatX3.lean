/-
  OWN WORK. TXN: find in a write set (written by tools/gen_x3.py).
-/
import Derived.Test.Qxb6500412aGreatX2
namespace Go.Proofs.Qxb6500412aGreat
open Go.RowKit Go.PlainAid
set_option linter.unusedSimpArgs false
set_option linter.unusedVariables false

/-- The least place of the write set at or ahead of which (tab, key) lies; whether the word there speaks of it. -/
def FnR (l : List WCh) (tab : ByteArray) (key : Vl) (p : Int) (hit : Bool) : Prop := ∃ n : Nat, p = n ∧ n ≤ l.length ∧ (∀ (j : Nat) (c : WCh), l[j]? = some c → j < n → 0 < sideP tab key c.d) ∧ ((n = l.length ∧ hit = false) ∨ ∃ c, l[n]? = some c ∧ sideP tab key c.d ≤ 0 ∧ hit = decide (sideP tab key c.d = 0))
section
variable {w : World} {g t : Nat} {X : Xs}
set_option maxRecDepth 100000 in
set_option maxHeartbeats 4000000 in
theorem xfind_any (M : XM w g t X) {s : Nat} (hs : s < 4) (hl : (X.ws s).length ≤ 1000) (tab : ByteArray) (key : Vl) : Calls Tryz.prog 258 #[.pointer (some ⟨g, 0, none⟩), .int .i64 (s : Int), .string tab, vlA key] w fun e w' => ∃ p hit, e = .returned (.tuple #[.int .i64 p, .bool hit]) ∧ FnR (X.ws s) tab key p hit ∧ Only (fun _ => False) w w' := by
  have o0 : Only (fun _ => False) w (w.alloc (.cells #[.bool key.str, .int .i64 key.i, .string key.s] 152)) := (Only.refl _ w).alloc _
  have N0 := Has.new w #[.bool key.str, .int .i64 key.i, .string key.s] 152
  have W := M.ws s hs
  obtain ⟨a, cap, hwv⟩ := W.shape
  have c0 := M.has.wset hs
  have gl := M.has.lt
  rw [hwv] at W c0
  have HC := hide (show ∀ W', Only (fun _ => False) w W' → W'.cell? ⟨g, 23 + s, none⟩ = some (.slice a (X.ws s).length cap) ∧ g < W'.heap.size from fun W' ho => ⟨ho.cellF c0, by have := ho.size; omega⟩)
  have HW := hide W
  have s4 : (s : Int) < 4 := by omega
  clear c0 M W hwv gl
  generalize X.ws s = l at *
  obtain ⟨n, hn⟩ : ∃ n, l.length = n := ⟨_, rfl⟩
  have Hn := hide hn
  rw [hn] at hl HW HC
  have HO0 := hide o0
  have HN0 := hide N0
  clear hn o0 N0
  unfold vlA
  go_enter Tryz.func258, Tryz.ntmps258
  go_upto_region 1 with fail
  generalize w.alloc (.cells #[.bool key.str, .int .i64 key.i, .string key.s] 152) = w0 at *
  generalize hkb : w.heap.size = kb at *
  go_upto_region 2 with fail
  go_loopw [10, 11] (fun jv _ wr => ∃ i : Nat, jv = .int .i64 i ∧ i ≤ n ∧ (∀ (j : Nat) (c : WCh), l[j]? = some c → j < i → 0 < sideP tab key c.d) ∧ Only (fun _ => False) w0 wr) (fun jv _ _ => n + 1 - (intOf jv).toNat)
  case atStart => exact ⟨0, rfl, Nat.zero_le _, fun j _ _ hj => by omega, Only.refl _ _⟩
  case round =>
    obtain ⟨i, rfl, hi, hne, oW⟩ := hrel
    have HN := hide hne
    have HOW := hide oW
    have oF := (unhide HO0).trans oW (fun _ _ h => h)
    have HOF := hide oF
    obtain ⟨c0, gl⟩ := unhide HC wr oF
    clear hne oW oF
    by_cases hin : i < n
    · have a1 : decide ((i : Int) < (n : Int)) = true := decide_eq_true (by omega)
      have a1p : (i : Int) < (n : Int) := by omega
      obtain ⟨x, hx⟩ := getE (l := l) (i := i) (by rw [unhide Hn]; exact hin)
      obtain ⟨b, rfl, e0, e1, e2, e3, e4, e5⟩ := ((unhide HW).quiet (unhide HOF)).at_ hx
      obtain ⟨ua, uc, hu⟩ := ((unhide HW).row x (List.mem_of_getElem? hx)).shape
      rw [hu] at e5
      obtain ⟨un, hun⟩ : ∃ n, x.d.row.length = n := ⟨_, rfl⟩
      rw [hun] at e5
      have NK := (unhide HN0).keep (unhide HOW) (fun h => h)
      have k0 : wr.cell? ⟨kb, 0, none⟩ = some (.bool key.str) := NK.cell 0
      have k1 : wr.cell? ⟨kb, 1, none⟩ = some (.int .i64 key.i) := NK.cell 1
      have k2 : wr.cell? ⟨kb, 2, none⟩ = some (.string key.s) := NK.cell 2
      have CS := xside_any tab key x.d ua un uc wr.drew
      obtain ⟨z, hz⟩ : ∃ z, sideP tab key x.d = z := ⟨_, rfl⟩
      rw [hz] at CS
      unfold vlA chA at CS
      have CS := hide CS
      have HX := hide hx
      have HZ := hide hz
      clear hx hu hun hz NK
      go_upto_region 4 with fail
      go_cut [11] (fun zv wx => zv = .int .i64 z ∧ Only (fun _ => False) wr wx)
      case first =>
        refine wp_region_held_drew (S := (fun w' => w'.cell? ⟨kb, 0, none⟩ = some (.bool key.str) ∧ w'.cell? ⟨kb, 1, none⟩ = some (.int .i64 key.i) ∧ w'.cell? ⟨kb, 2, none⟩ = some (.string key.s) ∧ w'.cell? ⟨g, 23 + s, none⟩ = some (.slice (some ⟨b, 0, none⟩) n cap) ∧ w'.cell? ⟨b, i * 6, none⟩ = some (.string x.d.tab) ∧ w'.cell? ⟨b, i * 6 + 1, none⟩ = some (.bool x.d.key.str) ∧ w'.cell? ⟨b, i * 6 + 2, none⟩ = some (.int .i64 x.d.key.i) ∧ w'.cell? ⟨b, i * 6 + 3, none⟩ = some (.string x.d.key.s) ∧ w'.cell? ⟨b, i * 6 + 4, none⟩ = some (.bool x.d.gone) ∧ w'.cell? ⟨b, i * 6 + 5, none⟩ = some (.slice ua un uc))) (by kernel_rfl) ⟨k0, k1, k2, c0, e0, e1, e2, e3, e4, e5⟩ (fun hH0 => ?_)
        refine takeH 0 23 (v := ?va1) rfl rfl (by kernel_rfl) (by kernel_rfl) (by kernel_rfl) (fun _ _ _ h => h) (Or.inl ⟨by rfl, ?ha1⟩) hH0 ?ra1
        case ha1 => (intro w hSw; clear hSw; go_simp; (try with_reducible rfl))
        case ra1 =>
        try simp only [Act.put, List.setIfInBounds_toArray, List.set_cons_zero, List.set_cons_succ]
        refine takeH 1 24 (v := ?va2) rfl rfl (by kernel_rfl) (by kernel_rfl) (by kernel_rfl) (fun _ _ _ h => h) (Or.inl ⟨by rfl, ?ha2⟩) hH0 ?ra2
        case ha2 => (intro w hSw; obtain ⟨s0, s1, s2, s3, s4, s5, s6, s7, s8, s9⟩ := hSw; go_simp; (try with_reducible rfl))
        case ra2 =>
        try simp only [Act.put, List.setIfInBounds_toArray, List.set_cons_zero, List.set_cons_succ]
        refine takeH 2 25 (v := ?va3) rfl rfl (by kernel_rfl) (by kernel_rfl) (by kernel_rfl) (fun _ _ _ h => h) (Or.inl ⟨by rfl, ?ha3⟩) hH0 ?ra3
        case ha3 => (intro w hSw; clear hSw; go_simp; (try with_reducible rfl))
        case ra3 =>
        try simp only [Act.put, List.setIfInBounds_toArray, List.set_cons_zero, List.set_cons_succ]
        refine takeH 3 26 (v := ?va4) rfl rfl (by kernel_rfl) (by kernel_rfl) (by kernel_rfl) (fun _ _ _ h => h) (Or.inl ⟨by rfl, ?ha4⟩) hH0 ?ra4
        case ha4 => (intro w hSw; clear hSw; go_simp; (try with_reducible rfl))
        case ra4 =>
        try simp only [Act.put, List.setIfInBounds_toArray, List.set_cons_zero, List.set_cons_succ]
        refine takeH 4 27 (v := ?va5) rfl rfl (by kernel_rfl) (by kernel_rfl) (by kernel_rfl) (fun _ _ _ h => h) (Or.inl ⟨by rfl, ?ha5⟩) hH0 ?ra5
        case ha5 => (intro w hSw; clear hSw; go_simp; (try with_reducible rfl))
        case ra5 =>
        try simp only [Act.put, List.setIfInBounds_toArray, List.set_cons_zero, List.set_cons_succ]
        refine takeH 5 28 (v := ?va6) rfl rfl (by kernel_rfl) (by kernel_rfl) (by kernel_rfl) (fun _ _ _ h => h) (Or.inl ⟨by rfl, ?ha6⟩) hH0 ?ra6
        case ha6 => (intro w hSw; clear hSw; go_simp; (try with_reducible rfl))
        case ra6 =>
        try simp only [Act.put, List.setIfInBounds_toArray, List.set_cons_zero, List.set_cons_succ]
        refine takeH 6 29 (v := ?va7) rfl rfl (by kernel_rfl) (by kernel_rfl) (by kernel_rfl) (fun _ _ _ h => h) (Or.inl ⟨by rfl, ?ha7⟩) hH0 ?ra7
        case ha7 => (intro w hSw; clear hSw; go_simp; (try with_reducible rfl))
        case ra7 =>
        try simp only [Act.put, List.setIfInBounds_toArray, List.set_cons_zero, List.set_cons_succ]
        refine takeH 7 30 (v := ?va8) rfl rfl (by kernel_rfl) (by kernel_rfl) (by kernel_rfl) (fun _ _ _ h => h) (Or.inl ⟨by rfl, ?ha8⟩) hH0 ?ra8
        case ha8 => (intro w hSw; obtain ⟨s0, s1, s2, s3, s4, s5, s6, s7, s8, s9⟩ := hSw; go_simp; (try with_reducible rfl))
        case ra8 =>
        try simp only [Act.put, List.setIfInBounds_toArray, List.set_cons_zero, List.set_cons_succ]
        refine takeH 8 31 (v := ?va9) rfl rfl (by kernel_rfl) (by kernel_rfl) (by kernel_rfl) (fun _ _ _ h => h) (Or.inl ⟨by rfl, ?ha9⟩) hH0 ?ra9
        case ha9 => (intro w hSw; clear hSw; go_simp; (try with_reducible rfl))
        case ra9 =>
        try simp only [Act.put, List.setIfInBounds_toArray, List.set_cons_zero, List.set_cons_succ]
        refine takeH 9 32 (v := ?va10) rfl rfl (by kernel_rfl) (by kernel_rfl) (by kernel_rfl) (fun _ _ _ h => h) (Or.inl ⟨by rfl, ?ha10⟩) hH0 ?ra10
        case ha10 => (intro w hSw; clear hSw; go_simp; (try with_reducible rfl))
        case ra10 =>
        try simp only [Act.put, List.setIfInBounds_toArray, List.set_cons_zero, List.set_cons_succ]
        refine takeH 10 33 (v := ?va11) rfl rfl (by kernel_rfl) (by kernel_rfl) (by kernel_rfl) (fun _ _ _ h => h) (Or.inl ⟨by rfl, ?ha11⟩) hH0 ?ra11
        case ha11 => (intro w hSw; obtain ⟨s0, s1, s2, s3, s4, s5, s6, s7, s8, s9⟩ := hSw; go_simp; (try with_reducible rfl))
        case ra11 =>
        try simp only [Act.put, List.setIfInBounds_toArray, List.set_cons_zero, List.set_cons_succ]
        refine callH 11 (by kernel_rfl) rfl 34 rfl rfl 320 Tryz.func320 (by kernel_rfl) (by kernel_rfl) #[.tmp 23, .tmp 24, .tmp 33] #[9, 152, 285] rfl #[.string tab, .agg #[.bool key.str, .int .i64 key.i, .string key.s], .agg #[.string x.d.tab, .bool x.d.key.str, .int .i64 x.d.key.i, .string x.d.key.s, .bool x.d.gone, .slice ua un uc]] (by simp [Act.eval]) (R := fun v w' => v = .int .i64 z ∧ Only (fun _ => False) wr.drew w') ((unhide CS).mono (by rintro en w' ⟨rfl, o⟩; exact ⟨_, rfl, rfl, o⟩)) ?ka
        case ka =>
        rintro _ w6 ⟨rfl, o6⟩
        have S6 : w6.cell? ⟨kb, 0, none⟩ = some (.bool key.str) ∧ w6.cell? ⟨kb, 1, none⟩ = some (.int .i64 key.i) ∧ w6.cell? ⟨kb, 2, none⟩ = some (.string key.s) ∧ w6.cell? ⟨g, 23 + s, none⟩ = some (.slice (some ⟨b, 0, none⟩) n cap) ∧ w6.cell? ⟨b, i * 6, none⟩ = some (.string x.d.tab) ∧ w6.cell? ⟨b, i * 6 + 1, none⟩ = some (.bool x.d.key.str) ∧ w6.cell? ⟨b, i * 6 + 2, none⟩ = some (.int .i64 x.d.key.i) ∧ w6.cell? ⟨b, i * 6 + 3, none⟩ = some (.string x.d.key.s) ∧ w6.cell? ⟨b, i * 6 + 4, none⟩ = some (.bool x.d.gone) ∧ w6.cell? ⟨b, i * 6 + 5, none⟩ = some (.slice ua un uc) := ⟨o6.cellF hH0.1, o6.cellF hH0.2.1, o6.cellF hH0.2.2.1, o6.cellF hH0.2.2.2.1, o6.cellF hH0.2.2.2.2.1, o6.cellF hH0.2.2.2.2.2.1, o6.cellF hH0.2.2.2.2.2.2.1, o6.cellF hH0.2.2.2.2.2.2.2.1, o6.cellF hH0.2.2.2.2.2.2.2.2.1, o6.cellF hH0.2.2.2.2.2.2.2.2.2⟩
        refine ⟨S6, ?_⟩
        try simp only [Act.put, List.setIfInBounds_toArray, List.set_cons_zero, List.set_cons_succ]
        refine takeH 12 11 (v := ?va12) rfl rfl (by kernel_rfl) (by kernel_rfl) (by kernel_rfl) (fun _ _ _ h => h) (Or.inl ⟨by rfl, ?ha12⟩) S6 ?ra12
        case ha12 => (intro w hSw; clear hSw; go_simp; (try with_reducible rfl))
        case ra12 =>
        try simp only [Act.put, List.setIfInBounds_toArray, List.set_cons_zero, List.set_cons_succ]
        refine wpAnyH_done (by kernel_rfl) ?_ _
        have oD : Only (fun _ => False) wr w6 := (Only.refl _ wr).drew.trans o6 (fun _ _ e => e)
        have HF := hide oD
        clear hH0 S6 o6 oD
        go_wp2_with fail
        go_meet
        exact ⟨rfl, unhide HF⟩
      case rest =>
      obtain ⟨rfl, o2⟩ := hcut
      have HO3 := hide ((unhide HOW).trans o2 (fun _ _ e => e))
      have HO4 := hide ((unhide HOF).trans o2 (fun _ _ e => e))
      clear o2 CS k0 k1 k2 c0 e0 e1 e2 e3 e4 e5
      by_cases hz0 : z ≤ 0
      · have b1 : decide (z ≤ 0) = true := decide_eq_true hz0
        obtain ⟨hb, hhb⟩ : ∃ b : Bool, (z == 0) = b := ⟨_, rfl⟩
        have RR := hide (show FnR l tab key i hb from ⟨i, rfl, by rw [unhide Hn]; omega, unhide HN, .inr ⟨x, unhide HX, by rw [unhide HZ]; exact hz0, by rw [unhide HZ, ← hhb]; by_cases e : z = 0 <;> simp [e]⟩⟩)
        clear hz0
        go_wp2_with fail
        go_ret2
        exact ⟨_, _, rfl, by first | exact unhide RR | (rw [hhb]; exact unhide RR), unhide HO4⟩
      · have b1 : decide (z ≤ 0) = false := decide_eq_false hz0
        have HN2 := hide (show ∀ (j : Nat) (c : WCh), l[j]? = some c → j < i + 1 → 0 < sideP tab key c.d from fun j c hc hj => by
          by_cases e : j = i
          · subst e
            rw [unhide HX] at hc
            cases hc
            rw [unhide HZ]; omega
          · exact unhide HN j c hc (by omega))
        clear hz0
        go_wp2_with fail
        go_roundw
        case rel => exact ⟨i + 1, by go_num, by omega, unhide HN2, unhide HO3⟩
        case measure => simp [intOf]; omega
    · obtain rfl : i = n := by omega
      have a1 : decide ((i : Int) < (i : Int)) = false := by simp
      have RR := hide (show FnR l tab key i false from ⟨i, rfl, by rw [unhide Hn]; omega, unhide HN, .inl ⟨(unhide Hn).symm, rfl⟩⟩)
      go_wp2_with fail
      go_ret2
      exact ⟨_, _, rfl, unhide RR, unhide HOF⟩
end
end Go.Proofs.Qxb6500412aGreat
