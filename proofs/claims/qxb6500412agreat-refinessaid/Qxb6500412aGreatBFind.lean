/-
  OWN WORK. THE B-TREE: find.
-/
import Derived.Test.Qxb6500412aGreatBGd
namespace Go.Proofs.Qxb6500412aGreat
open Go.RowKit Go.PlainAid
set_option linter.unusedSimpArgs false
set_option linter.unusedVariables false

section
variable {q : Gnd} {op : Bool} {view : List ByteArray} {k : ByteArray}
set_option maxRecDepth 100000 in
set_option maxHeartbeats 4000000 in
theorem find_leaf {w : World} (A : FA q w op view) {s : ByteArray} {hi : Option ByteArray} {lo : Nat} {t : Tr 1} (g : Gd (NV view) 0 s hi lo t) (fuel : Nat) (hfu : 0 < fuel) (hf8 : fuel ≤ 8) :
    Calls Tryz.prog 303 #[.pointer (some ⟨q.f, 0, none⟩), .int .i64 (pgT t), .string k, .int .i64 fuel] w fun e w' => e = .returned (getV (getL k (entsL 0 (itT t)))) ∧ FA q w' op view ∧ Only q.S w w' := by
  have C := hide (load_any A g.st.1 g.fits)
  have hl3 : (itT t).length ≤ 3 := g.sz.2.1
  have a0 : decide ((fuel : Int) ≤ 0) = false := decide_eq_false (by omega)
  go_enter Tryz.func303, Tryz.ntmps303
  go_wp2_with fail
  refine (unhide C).mono ?_
  rintro e w1 ⟨x, rfl, r, A1, o1⟩
  have HH := hide (And.intro r (And.intro A1 o1))
  have rk := r.kd0
  have kk : ((x.k : Int) == 2) = false := kk_f (b := 2) (by omega)
  have xn := r.n
  have x3 : x.n ≤ 3 := by omega
  have hsz := o1.size
  clear A1 o1 r rk
  go_upto_region 2 with (first | (refine wpList_alloc_ndd 10 rfl rfl rfl ?_; intro b w2 hB gB oB; have HB := hide hB; have OB := hide oB; clear hB oB) | (refine wpList_store_nd rfl _ _ rfl b x rfl rfl (unhide HB) ?_; intro w3 n3 o3))
  have hb0 : w.heap.size ≤ b := Nat.le_trans hsz gB
  have A3 := ((unhide HH).2.1.quiet (unhide OB)).loc A hb0 o3
  have O3 := hide (((unhide HH).2.2.q0 (unhide OB)).qn o3 hb0)
  have AA := hide A3
  have N3 := hide n3
  clear n3 o3 A3 HB OB gB
  have c0 := (unhide N3).kind.1
  have c1 := (unhide N3).num.1
  go_upto_region 8 with fail
  go_loop [13] (fun iv => ∃ i : Nat, iv = .int .i64 i ∧ i ≤ x.n ∧ ∀ j, j < i → x.K j ≠ k) (fun iv => 4 - (intOf iv).toNat)
  case atStart => exact ⟨0, rfl, Nat.zero_le _, fun j hj => by omega⟩
  case round =>
    obtain ⟨i, rfl, hi, hne⟩ := hrel
    have HN := hide hne
    clear hne
    have r := (unhide HH).1
    have r' : RepL x (itT t) := r
    by_cases hs : i < x.n
    · have a1 : decide ((i : Int) < (x.n : Int)) = true := decide_eq_true (by omega)
      have a2 : (i : Int) < 4 := by omega
      have ck := ((unhide N3).key i (by omega)).1
      have cv := ((unhide N3).val i (by omega)).1
      obtain ⟨e, he⟩ : ∃ e : ByteArray × Tr 0, (itT t)[i]? = some e := get_ex (by omega)
      have hv := r'.v i e he
      by_cases hk : x.K i = k
      · have b1 := seq_t hk
        have RR := hide (show getL k (entsL 0 (itT t)) = some (x.V i) from by
          have := getL_at (k := k) (l := itT t) (i := i) (e := e) (fun j f hj hf => by rw [← (r'.v j f hf).1]; exact unhide HN j hj) he (by rw [← hv.1]; exact hk)
          rw [hv.2]
          rw [show entsL 0 (itT t) = (show List KV from itT t) from entsL_zero _]
          exact this)
        clear hk hv he r r'
        go_wp2_with fail
        go_ret2
        refine ⟨?_, unhide AA, unhide O3⟩
        rw [unhide RR]
        rfl
      · have b1 := seq_f hk
        have HN2 : Hid (∀ j, j < i + 1 → x.K j ≠ k) := hide (fun j hj => by
          by_cases e : j = i
          · rw [e]; exact hk
          · exact unhide HN j (by omega))
        clear hk hv he r r'
        go_wp2_with fail
        go_round
        case rel => exact ⟨i + 1, by go_num, by omega, unhide HN2⟩
        case measure => simp [intOf]; omega
    · have a1 : decide ((i : Int) < (x.n : Int)) = false := decide_eq_false (by omega)
      have RR := hide (show getL k (entsL 0 (itT t)) = none from by
        rw [show entsL 0 (itT t) = (show List KV from itT t) from entsL_zero _]
        refine getL_no (fun j f hf => ?_)
        have hj : j < (itT t).length := get_lt hf
        rw [← (r'.v j f hf).1]
        exact unhide HN j (by omega))
      clear r r'
      go_wp2_with fail
      go_ret2
      refine ⟨?_, unhide AA, unhide O3⟩
      rw [unhide RR]
      rfl
set_option maxRecDepth 100000 in
set_option maxHeartbeats 4000000 in
theorem find_any : ∀ (h : Nat) {w : World} (A : FA q w op view) {s : ByteArray} {hi : Option ByteArray} {lo : Nat} {t : Tr (h + 1)} (g : Gd (NV view) h s hi lo t) (hk : lt k s = false) (hk2 : ltO k hi) (fuel : Nat) (hfu : h < fuel) (hf8 : fuel ≤ 8),
    Calls Tryz.prog 303 #[.pointer (some ⟨q.f, 0, none⟩), .int .i64 (pgT t), .string k, .int .i64 fuel] w fun e w' => e = .returned (getV (getL k (entsL h (itT t)))) ∧ FA q w' op view ∧ Only q.S w w'
  | 0, w, A, s, hi, lo, t, g, hk, hk2, fuel, hfu, hf8 => find_leaf A g fuel hfu hf8
  | h + 1, w, A, s, hi, lo, t, g, hk, hk2, fuel, hfu, hf8 => by
    have ef : ((fuel - 1 : Nat) : Int) = (fuel : Int) - 1 := by omega
    have IH : ∀ (w : World) (_ : FA q w op view) (s : ByteArray) (hi : Option ByteArray) (lo : Nat) (t : Tr (h + 1)) (_ : Gd (NV view) h s hi lo t) (_ : lt k s = false) (_ : ltO k hi),
        Calls Tryz.prog 303 #[.pointer (some ⟨q.f, 0, none⟩), .int .i64 (pgT t), .string k, .int .i64 ((fuel : Int) - 1)] w fun e w' => e = .returned (getV (getL k (entsL h (itT t)))) ∧ FA q w' op view ∧ Only q.S w w' := by
      intro w A s hi lo t g hk hk2
      rw [← ef]
      exact find_any h A g hk hk2 (fuel - 1) (by omega) (by omega)
    have IH := hide IH
    have C := hide (load_any A g.st.1 g.fits)
    have hl4 : (itT t).length ≤ 4 := g.sz.2.1
    have hl2 : 2 ≤ (itT t).length := by
      have := g.sz.1
      rcases g.l2 with h1 | h1 <;> omega
    have a0 : decide ((fuel : Int) ≤ 0) = false := decide_eq_false (by omega)
    go_enter Tryz.func303, Tryz.ntmps303
    go_wp2_with fail
    refine (unhide C).mono ?_
    rintro e w1 ⟨x, rfl, r, A1, o1⟩
    have HH := hide (And.intro r (And.intro A1 o1))
    have rk := r.kd1
    have kk : ((x.k : Int) == 2) = true := kk_t (b := 2) rk
    have xn := r.n
    have x4 : x.n ≤ 4 := by omega
    have x2 : 2 ≤ x.n := by omega
    have hsz := o1.size
    clear A1 o1 r rk
    go_upto_region 2 with (first | (refine wpList_alloc_ndd 10 rfl rfl rfl ?_; intro b w2 hB gB oB; have HB := hide hB; have OB := hide oB; clear hB oB) | (refine wpList_store_nd rfl _ _ rfl b x rfl rfl (unhide HB) ?_; intro w3 n3 o3))
    have hb0 : w.heap.size ≤ b := Nat.le_trans hsz gB
    have A3 := ((unhide HH).2.1.quiet (unhide OB)).loc A hb0 o3
    have O3 := hide (((unhide HH).2.2.q0 (unhide OB)).qn o3 hb0)
    have AA := hide A3
    have N3 := hide n3
    clear n3 o3 A3 HB OB gB
    have c0 := (unhide N3).kind.1
    have c1 := (unhide N3).num.1
    have CC := hide (childOf_any x k (by omega) (by omega) w3)
    go_wp2_with (first | (refine wpList_load_nd rfl _ rfl b rfl (unhide N3) ?_))
    refine (unhide CC).mono ?_
    rintro e w4 ⟨i, rfl, hc, o4⟩
    obtain ⟨xs, e, ys, hit, rfl⟩ := cut_at (l := itT t) (i := i) (by have := hc.lt_; omega)
    obtain ⟨s1, c⟩ := e
    have r := (unhide HH).1
    rw [hit] at r
    have I := g.inn hit
    obtain ⟨k1, k2⟩ := child_spot r hc I.kfs hk hk2
    have hC := kid_at r
    have hi4 : xs.length < 5 := by have := hc.lt_; omega
    have N4 := (unhide N3).keep o4 (fun h => h)
    have ck := (N4.kid xs.length hi4).1
    rw [hC] at ck
    have A4 := (unhide AA).quiet o4
    have C2 := hide (unhide IH _ A4 _ _ _ _ I.gd k1 k2)
    have a5 : (xs.length : Int) < 5 := by omega
    have G1 := hide (I.getL k1 k2)
    have O4 := hide ((unhide O3).q0 o4)
    clear hc r I k1 k2 hC N4 A4 o4 hit c0 c1 CC
    go_wp2_with fail
    refine (unhide C2).mono ?_
    rintro e w5 ⟨rfl, A5, o5⟩
    have FF := hide (And.intro A5 o5)
    clear A5 o5
    unfold getV
    go_wp2_with fail
    go_ret2
    refine ⟨?_, (unhide FF).1, (unhide O4).qt (unhide FF).2⟩
    rw [unhide G1]
    rfl
end
end Go.Proofs.Qxb6500412aGreat
