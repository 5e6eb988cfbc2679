/-
  OWN WORK. THE GRAPH's MODEL: api's Itoa.
-/
import Derived.Test.Qxb6500417aGreatHStr
namespace Go.Proofs.Qxb6500417aGreat
open Go.RowKit Go.PlainAid
set_option linter.unusedSimpArgs false
set_option linter.unusedVariables false

def z24 : Array Value := #[.int .u8 0, .int .u8 0, .int .u8 0, .int .u8 0, .int .u8 0, .int .u8 0, .int .u8 0, .int .u8 0, .int .u8 0, .int .u8 0, .int .u8 0, .int .u8 0, .int .u8 0, .int .u8 0, .int .u8 0, .int .u8 0, .int .u8 0, .int .u8 0, .int .u8 0, .int .u8 0, .int .u8 0, .int .u8 0, .int .u8 0, .int .u8 0]
theorem z24_tab : z24 = tabV 24 (u8f (fun _ => 0)) := by rfl
/-- The digits so far, at the array's end. -/
structure DgP (w wr : World) (b i : Nat) (suf : Str) : Prop where
  ex : ∃ bu : Nat → Nat, Has wr b (tabV 24 (u8f bu)) 220 ∧ ∀ j (hj : j < suf.length), bu (i + j) = (suf[j]).toNat
  ho : Only (fun _ => False) w wr
  hb : w.heap.size ≤ b
theorem DgP.push {w wr : World} {b i : Nat} {suf : Str} (h : DgP w wr b (i + 1) suf) (c : UInt8) (hi : i < 24) : DgP w (wr.setCell ⟨b, i, none⟩ (.int .u8 (c.toNat : Int))) b i (c :: suf) := by
  obtain ⟨bu, hH, hbu⟩ := h.ex
  refine ⟨⟨updT bu i c.toNat, ?_, fun j hj => ?_⟩, h.ho.setCell (p := ⟨b, i, none⟩) (fun hlt => by have h1 : b < w.heap.size := hlt; have := h.hb; omega) _, h.hb⟩
  · have := Has.setCell hH i (.int .u8 (c.toNat : Int))
    rw [tabV_set] at this
    rw [tabV_congr 24 (g := fun j => if j = i then Value.int .u8 (c.toNat : Int) else u8f bu j)]
    · exact this
    · intro j hj
      unfold u8f
      by_cases e : j = i
      · rw [if_pos e, e, updT_same]
      · rw [if_neg e, updT_other _ _ _ _ e]
  · cases j with
    | zero => rw [show i + 0 = i from rfl, updT_same]; rfl
    | succ j =>
      rw [updT_other _ _ _ _ (by omega : i + (j + 1) ≠ i)]
      have := hbu j (by simpa using hj)
      rw [show i + (j + 1) = i + 1 + j from by omega, this]; rfl
theorem DgP.conv {w wr : World} {b i : Nat} {suf : Str} (h : DgP w wr b i suf) (hl : i + suf.length = 24) (c : Nat) : (convert 90 9 (.slice (some ⟨b, i, none⟩) (24 - i) c)).run Tryz.prog wr = .ok (.string (sb suf)) wr := by
  obtain ⟨bu, hH, hbu⟩ := h.ex
  have := run_convert_bytes_back (P := Tryz.prog) wr 90 9 5 ⟨b, i, none⟩ c suf Tryz.underlying90 Tryz.underlying5 Tryz.underlying9 (fun j hj => by
    rw [Addr.add_lit, Has.cell hH, tabV_get _ _ _ (by omega)]
    unfold u8f
    rw [hbu j hj])
  have e : 24 - i = suf.length := by omega
  rw [e]
  exact this
theorem slice24 (b i : Nat) (hi : i < 24) (W : World) : (Instr.sliceAt 220 (.pointer (some ⟨b, 0, none⟩)) (some (.int .i64 (i : Int))) none none).run Tryz.prog W = .ok (.slice (some ⟨b, i, none⟩) (24 - i) (24 - i)) W := by
  have ht : Tryz.prog.underlying 220 = some (.array (Tryz.prog.arrayLen 220) (Tryz.prog.elem 220)) := by kernel_rfl
  have hl : Tryz.prog.arrayLen 220 = 24 := by kernel_rfl
  have he : Tryz.prog.elem 220 = 5 := by kernel_rfl
  rw [run_sliceAt_array_l W 220 ⟨b, 0, none⟩ ht .i64 (i : Int) (by omega) (by rw [hl]; omega), hl, he, usize_run]
  have e : ¬ (24 : Nat) = i := by omega
  simp [slicedAt, e, addr_add, Result.andThen]
section
variable {w : World}
set_option maxRecDepth 100000 in
set_option maxHeartbeats 4000000 in
theorem aitoa_any (n : Nat) (hn : n < 1000) :
    Calls Tryz.prog 201 #[.int .i64 (n : Int)] w fun e w' => e = .returned (.string (sb (itoaS n))) ∧ Only (fun _ => False) w w' := by
  by_cases h0 : n = 0
  · subst h0
    go_enter Tryz.func201, Tryz.ntmps201
    go_wp2_with fail
    go_ret
    exact ⟨rfl, Only.refl _ _⟩
  · have b0 : ((n : Int) == 0) = false := ne_intO (by omega)
    have b1 : decide ((n : Int) < 0) = false := decide_eq_false (by omega)
    have hI : itoaS n = digL 20 n := by unfold itoaS; rw [if_neg h0]
    rw [hI]
    obtain ⟨R, hR⟩ : ∃ R, digL 20 n = R := ⟨_, rfl⟩
    rw [hR]
    have HR := hide hR
    have hD0 : DgP w (w.alloc (.cells z24 220)) w.heap.size 24 [] := ⟨⟨fun _ => 0, by rw [← z24_tab]; exact Has.new w _ _, fun j hj => by simp at hj⟩, (Only.refl _ w).alloc _, Nat.le_refl _⟩
    unfold z24 at hD0
    have HD0 := hide hD0
    clear hI hR hD0
    go_enter Tryz.func201, Tryz.ntmps201
    go_wp2_with fail
    generalize w.alloc (.cells #[.int .u8 0, .int .u8 0, .int .u8 0, .int .u8 0, .int .u8 0, .int .u8 0, .int .u8 0, .int .u8 0, .int .u8 0, .int .u8 0, .int .u8 0, .int .u8 0, .int .u8 0, .int .u8 0, .int .u8 0, .int .u8 0, .int .u8 0, .int .u8 0, .int .u8 0, .int .u8 0, .int .u8 0, .int .u8 0, .int .u8 0, .int .u8 0] 220) = w1 at *
    generalize w.heap.size = b at *
    go_loopw [0, 5] (fun nv iv wr => ∃ (m i f : Nat) (suf : Str), nv = .int .i64 m ∧ iv = .int .i64 i ∧ m < 1000 ∧ i + suf.length = 24 ∧ f + suf.length = 20 ∧ m < 10 ^ f ∧ (m = 0 → 1 ≤ suf.length) ∧ digL f m ++ suf = R ∧ DgP w wr b i suf) (fun nv _ _ => (intOf nv).toNat)
    case atStart => exact ⟨n, 24, 20, [], rfl, rfl, hn, rfl, rfl, by omega, fun h => absurd h h0, by rw [List.append_nil]; exact unhide HR, unhide HD0⟩
    case round =>
      clear HR HD0 b0
      obtain ⟨m, i, f, suf, rfl, rfl, hm, hil, hfl, hmf, hs1, hr, hD⟩ := hrel
      by_cases hm0 : m = 0
      · subst hm0
        have hr' : suf = R := by
          have e : digL f 0 = [] := by cases f <;> rfl
          rw [e] at hr; exact hr
        subst hr'
        have hi24 : i < 24 := by have := hs1 rfl; omega
        have hcv := hD.conv hil (24 - i)
        have hsl := slice24 b i hi24 wr
        have HO := hide hD.ho
        clear hr hD hs1
        go_wp2_with fail
        go_ret
        exact ⟨rfl, unhide HO⟩
      · have b2 : ((m : Int) == 0) = false := ne_intO (by omega)
        have r1 : (m : Int).tmod 10 = ((m % 10 : Nat) : Int) := by
          rw [Int.tmod_eq_emod_of_nonneg (by omega)]; omega
        have r2 : (m : Int).tdiv 10 = ((m / 10 : Nat) : Int) := by
          rw [Int.tdiv_eq_ediv_of_nonneg (by omega)]; omega
        obtain ⟨f', rfl⟩ : ∃ f', f = f' + 1 := ⟨f - 1, by
          cases f with
          | zero => simp at hmf; omega
          | succ f => omega⟩
        obtain ⟨i', rfl⟩ : ∃ i', i = i' + 1 := ⟨i - 1, by omega⟩
        have hr' : digL f' (m / 10) ++ (UInt8.ofNat (48 + m % 10) :: suf) = R := by
          have hde : digL (f' + 1) m = digL f' (m / 10) ++ [UInt8.ofNat (48 + m % 10)] := by
            show (if m = 0 then [] else _) = _
            rw [if_neg hm0]
          rw [← hr, hde, List.append_assoc]
          rfl
        have hcn : (UInt8.ofNat (48 + m % 10)).toNat = 48 + m % 10 := UInt8.toNat_ofNat_of_lt' (by show 48 + m % 10 < 256; omega)
        have hP := hD.push (UInt8.ofNat (48 + m % 10)) (by omega)
        rw [hcn] at hP
        obtain ⟨bu, hH, _⟩ := hD.ex
        have k1 : wr.cell? ⟨b, i', none⟩ = some (.int .u8 (bu i' : Int)) := by rw [Has.cell hH, tabV_get _ _ _ (by omega)]; rfl
        have k2 := Has.free hH i'
        have hmf' : m / 10 < 10 ^ f' := by rw [Nat.pow_succ] at hmf; omega
        have d1 : decide (((m % 10 : Nat) : Int) < 0) = false := decide_eq_false (by omega)
        have a3 : (i' : Int) < 24 := by omega
        have hd10 : m % 10 < 10 := by omega
        have hm10 : m / 10 < m := by omega
        have HP := hide hP
        have Hr := hide hr'
        have cw : IntKind.u8.wrap (48 + ((m % 10 : Nat) : Int)) = ((48 + m % 10 : Nat) : Int) := by
          rw [IntKind.wrap_u8]; omega
        have hm3 : m / 10 < 1000 := by omega
        clear hr hr' hP hD hH hcn hmf
        generalize m / 10 = m' at *
        generalize m % 10 = dg at *
        go_wp2_with fail
        go_roundw
        case rel => exact ⟨m', i', f', _, rfl, by go_num, hm3, by simp; omega, by simp; omega, hmf', fun _ => by simp, unhide Hr, unhide HP⟩
        case measure => simp [intOf]; omega
end
end Go.Proofs.Qxb6500417aGreat
