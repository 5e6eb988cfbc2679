/-
  OWN WORK. THE TABLE LAW's MODEL: Find, place (written by tools/gen_mm5.py).
-/
import Derived.Test.Qxb6500412aGreatMM4
import Derived.Test.Qxb6500412aGreatJSP
namespace Go.Proofs.Qxb6500412aGreat
open Go.RowKit Go.PlainAid
set_option linter.unusedSimpArgs false
set_option linter.unusedVariables false

section
variable {w : World} {v : Value} {l : List GE}
theorem ML.nm_ (h : ML w v l) {i : Nat} {x : GE} (hx : l[i]? = some x) : ∃ g cap, v = .slice (some ⟨g, 0, none⟩) l.length cap ∧ w.cell? ⟨g, i * 5, none⟩ = some (.string x.t.nm) := by
  obtain ⟨g, cap, e, P, _⟩ := h.pt hx
  exact ⟨g, cap, e, P.c0⟩
set_option maxRecDepth 100000 in
theorem mfind_any {dk o : Nat} (c0 : w.cell? ⟨dk, o, none⟩ = some v) (G : ML w v l) (nm : ByteArray) : Calls Tryz.prog 194 #[.pointer (some ⟨dk, o, none⟩), .string nm] w fun e w' => ∃ r, e = .returned (.int .i64 r) ∧ GFR l nm r ∧ w = w' := by
  obtain ⟨a, cap, hv⟩ := G.shape
  have hl := G.len
  have HG := hide G
  subst hv
  obtain ⟨n, hn⟩ : ∃ n, l.length = n := ⟨_, rfl⟩
  rw [hn] at hl c0 HG
  have HN := hide hn
  clear G hn
  go_enter Tryz.func194, Tryz.ntmps194
  go_upto_region 2 with fail
  go_loop [5] (fun jv => ∃ i : Nat, jv = .int .i64 i ∧ i ≤ n ∧ ∀ (j : Nat) (x : GE), l[j]? = some x → j < i → x.t.nm ≠ nm) (fun jv => 4 - (intOf jv).toNat)
  case atStart => exact ⟨0, rfl, Nat.zero_le _, fun j _ _ hj => by omega⟩
  case round =>
    obtain ⟨i, rfl, hi, hne⟩ := hrel
    have HNE := hide hne
    clear hne
    by_cases hs : i < n
    · have a1 : decide ((i : Int) < (n : Int)) = true := decide_eq_true (by omega)
      have a1p : (i : Int) < (n : Int) := by omega
      obtain ⟨x, hx⟩ := getE (l := l) (i := i) (by rw [unhide HN]; exact hs)
      obtain ⟨ib, cp, hve, d0⟩ := (unhide HG).nm_ hx
      rw [unhide HN] at hve
      simp only [Value.slice.injEq] at hve
      obtain ⟨rfl, _, rfl⟩ := hve
      by_cases h2 : x.t.nm = nm
      · have b2 := seq_t h2
        have RR := hide (show GFR l nm i from .inr ⟨i, x, hx, rfl, h2⟩)
        clear h2 hx
        go_wp2_with fail
        go_ret
        exact ⟨_, rfl, unhide RR, rfl⟩
      · have b2 := seq_f h2
        have HN2 := hide (show ∀ (j : Nat) (y : GE), l[j]? = some y → j < i + 1 → y.t.nm ≠ nm from fun j y hy hji => by
          by_cases e : j = i
          · subst e
            rw [hx] at hy
            cases hy
            exact h2
          · exact unhide HNE j y hy (by omega))
        clear h2 hx
        go_wp2_with fail
        go_round
        case rel => exact ⟨i + 1, by go_num, by omega, unhide HN2⟩
        case measure => simp [intOf]; omega
    · obtain rfl : i = n := by omega
      have a1 : decide ((i : Int) < (i : Int)) = false := by simp
      have RR := hide (show GFR l nm (-1) from .inl ⟨rfl, fun x hx => by
        obtain ⟨j, hj⟩ := List.getElem?_of_mem hx
        exact unhide HNE j x hj (by have := (List.getElem?_eq_some_iff.mp hj).1; rw [unhide HN] at this; exact this)⟩)
      go_wp2_with fail
      go_ret
      exact ⟨_, rfl, unhide RR, rfl⟩
end
/-- The least place whose key is not below, and whether it is equal there. -/
def Plc (t : Tb) (key : Vl) (p : Nat) (hit : Bool) : Prop := p ≤ t.rows.length ∧ (∀ (j : Nat) (r : List Vl), j < p → t.rows[j]? = some r → 0 < vcmp key (kyR t.pk r)) ∧ (p < t.rows.length → ∀ r, t.rows[p]? = some r → vcmp key (kyR t.pk r) ≤ 0 ∧ hit = (vcmp key (kyR t.pk r) == 0)) ∧ (p = t.rows.length → hit = false)
def PlP (t : Tb) (key : Vl) (w : World) (x : Ending) (w' : World) : Prop := ∃ (p : Nat) (hit : Bool), x = .returned (.tuple #[.int .i64 (p : Int), .bool hit]) ∧ Plc t key p hit ∧ Only (fun _ => False) w w'
section
variable {w : World} {b o : Nat} {e : GE}
set_option maxRecDepth 100000 in
set_option maxHeartbeats 4000000 in
theorem mplace_any (P : GPt w b o e) (E : GEl w e) (key : Vl) : Calls Tryz.prog 350 #[.pointer (some ⟨b, o, none⟩), vlA key] w (PlP e.t key w) := by
  have o0 : Only (fun _ => False) w (w.alloc (.cells #[.bool key.str, .int .i64 key.i, .string key.s] 152)) := (Only.refl _ w).alloc _
  have A0 : Has (w.alloc (.cells #[.bool key.str, .int .i64 key.i, .string key.s] 152)) w.heap.size #[.bool key.str, .int .i64 key.i, .string key.s] 152 := Has.new w _ _
  have HP := hide (P.keep o0 (fun e => e))
  have HE := hide (E.keep o0 (fun _ _ e => e) (fun _ _ e => e))
  obtain ⟨ra, rc, hrv⟩ := E.rshape
  have h8 := E.ok.len
  have HV := hide hrv
  have HPK := hide (show ∀ r ∈ e.t.rows, e.t.pk < r.length from fun r hr => by rw [(E.ok.row r hr).len]; exact E.ok.pkn)
  clear P E hrv
  unfold vlA
  obtain ⟨n, hn⟩ : ∃ n, e.t.rows.length = n := ⟨_, rfl⟩
  rw [hn] at h8 HV
  have HN := hide hn
  clear hn
  go_enter Tryz.func350, Tryz.ntmps350
  go_upto_region 2 with fail
  generalize w.alloc (.cells #[.bool key.str, .int .i64 key.i, .string key.s] 152) = w1 at *
  generalize w.heap.size = kb at *
  have HA := hide A0
  have HO := hide o0
  clear A0 o0
  go_loopw [6, 7] (fun iv cv wr => ∃ i : Nat, iv = .int .i64 i ∧ i ≤ n ∧ (∀ (j : Nat) (r : List Vl), j < i → e.t.rows[j]? = some r → 0 < vcmp key (kyR e.t.pk r)) ∧ Only (fun _ => False) w1 wr) (fun iv _ _ => n - (intOf iv).toNat)
  case atStart => exact ⟨0, rfl, Nat.zero_le _, fun j _ hj => by omega, Only.refl _ _⟩
  case round =>
    obtain ⟨i, rfl, hi, hT, oW⟩ := hrel
    have z0 := ((unhide HA).keep oW (fun e => e)).cell 0
    have z1 := ((unhide HA).keep oW (fun e => e)).cell 1
    have z2 := ((unhide HA).keep oW (fun e => e)).cell 2
    simp at z0 z1 z2
    have p2 := ((unhide HP).keep oW (fun e => e)).c2
    have p4 := ((unhide HP).keep oW (fun e => e)).c4
    rw [unhide HV] at p4
    have HT := hide hT
    clear hT
    by_cases hi2 : i < n
    · have a1 : decide ((i : Int) < (n : Int)) = true := decide_eq_true (by omega)
      have a1p : (i : Int) < (n : Int) := by omega
      obtain ⟨x, hx⟩ := getE (l := e.t.rows) (i := i) (by rw [unhide HN]; exact hi2)
      obtain ⟨y, hy⟩ := getE (l := x) (i := e.t.pk) (unhide HPK x (List.mem_of_getElem? hx))
      obtain ⟨g, u, cap, he, _, cu, OU⟩ := ((unhide HE).keep oW (fun _ _ e => e) (fun _ _ e => e)).at_ hx
      rw [unhide HV, unhide HN] at he
      simp only [Value.slice.injEq] at he
      obtain ⟨rfl, _, rfl⟩ := he
      obtain ⟨g1, k1, rfl, e0, e1, e2⟩ := getv_at OU hy
      have xl : (e.t.pk : Int) < (x.length : Int) := by have := (List.getElem?_eq_some_iff.mp hy).1; omega
      have hk : kyR e.t.pk x = y := by unfold kyR; rw [hy]; rfl
      have CC := ecmp_any key y wr.drew
      obtain ⟨z, hz⟩ : ∃ z, vcmp key y = z := ⟨_, rfl⟩
      rw [hz] at CC
      unfold vlA at CC
      have CC := hide CC
      have HX := hide (And.intro hx (And.intro hk hz))
      have HO2 := hide oW
      clear hx hy hk hz oW OU
      obtain ⟨pk, hpk⟩ : ∃ pk, e.t.pk = pk := ⟨_, rfl⟩
      rw [hpk] at p2 e0 e1 e2 xl
      clear hpk
      obtain ⟨xn, hxn⟩ : ∃ xn, x.length = xn := ⟨_, rfl⟩
      rw [hxn] at cu xl
      clear hxn
      go_upto_region 4 with fail
      go_cut [7] (fun zv wx => zv = .int .i64 z ∧ Only (fun _ => False) wr wx)
      case first =>
        refine wp_region_held_drew (S := (fun w' => w'.cell? ⟨kb, 0, none⟩ = some (.bool key.str) ∧ w'.cell? ⟨kb, 1, none⟩ = some (.int .i64 key.i) ∧ w'.cell? ⟨kb, 2, none⟩ = some (.string key.s) ∧ w'.cell? ⟨b, o + 2, none⟩ = some (.int .i64 (pk : Int)) ∧ w'.cell? ⟨b, o + 4, none⟩ = some (.slice (some ⟨g, 0, none⟩) n rc) ∧ w'.cell? ⟨g, i, none⟩ = some (.slice (some ⟨g1, 0, none⟩) xn k1) ∧ w'.cell? ⟨g1, pk * 3, none⟩ = some (.bool y.str) ∧ w'.cell? ⟨g1, pk * 3 + 1, none⟩ = some (.int .i64 y.i) ∧ w'.cell? ⟨g1, pk * 3 + 2, none⟩ = some (.string y.s))) (by kernel_rfl) ⟨z0, z1, z2, p2, p4, cu, e0, e1, e2⟩ (fun hH0 => ?_)
        refine takeH 0 17 (v := ?vh1) rfl rfl (by kernel_rfl) (by kernel_rfl) (by kernel_rfl) (fun _ _ _ h => h) (Or.inl ⟨by rfl, ?hh1⟩) hH0 ?rh1
        case hh1 => (intro w hSw; obtain ⟨s0, s1, s2, s3, s4, s5, s6, s7, s8⟩ := hSw; go_simp; (try with_reducible rfl))
        case rh1 =>
        try simp only [Act.put, List.setIfInBounds_toArray, List.set_cons_zero, List.set_cons_succ]
        refine takeH 1 18 (v := ?vh2) rfl rfl (by kernel_rfl) (by kernel_rfl) (by kernel_rfl) (fun _ _ _ h => h) (Or.inl ⟨by rfl, ?hh2⟩) hH0 ?rh2
        case hh2 => (intro w hSw; clear hSw; go_simp; (try with_reducible rfl))
        case rh2 =>
        try simp only [Act.put, List.setIfInBounds_toArray, List.set_cons_zero, List.set_cons_succ]
        refine takeH 2 19 (v := ?vh3) rfl rfl (by kernel_rfl) (by kernel_rfl) (by kernel_rfl) (fun _ _ _ h => h) (Or.inl ⟨by rfl, ?hh3⟩) hH0 ?rh3
        case hh3 => (intro w hSw; clear hSw; go_simp; (try with_reducible rfl))
        case rh3 =>
        try simp only [Act.put, List.setIfInBounds_toArray, List.set_cons_zero, List.set_cons_succ]
        refine takeH 3 20 (v := ?vh4) rfl rfl (by kernel_rfl) (by kernel_rfl) (by kernel_rfl) (fun _ _ _ h => h) (Or.inl ⟨by rfl, ?hh4⟩) hH0 ?rh4
        case hh4 => (intro w hSw; clear hSw; go_simp; (try with_reducible rfl))
        case rh4 =>
        try simp only [Act.put, List.setIfInBounds_toArray, List.set_cons_zero, List.set_cons_succ]
        refine takeH 4 21 (v := ?vh5) rfl rfl (by kernel_rfl) (by kernel_rfl) (by kernel_rfl) (fun _ _ _ h => h) (Or.inl ⟨by rfl, ?hh5⟩) hH0 ?rh5
        case hh5 => (intro w hSw; obtain ⟨s0, s1, s2, s3, s4, s5, s6, s7, s8⟩ := hSw; go_simp; (try with_reducible rfl))
        case rh5 =>
        try simp only [Act.put, List.setIfInBounds_toArray, List.set_cons_zero, List.set_cons_succ]
        refine takeH 5 22 (v := ?vh6) rfl rfl (by kernel_rfl) (by kernel_rfl) (by kernel_rfl) (fun _ _ _ h => h) (Or.inl ⟨by rfl, ?hh6⟩) hH0 ?rh6
        case hh6 => (intro w hSw; clear hSw; go_simp; (try with_reducible rfl))
        case rh6 =>
        try simp only [Act.put, List.setIfInBounds_toArray, List.set_cons_zero, List.set_cons_succ]
        refine takeH 6 23 (v := ?vh7) rfl rfl (by kernel_rfl) (by kernel_rfl) (by kernel_rfl) (fun _ _ _ h => h) (Or.inl ⟨by rfl, ?hh7⟩) hH0 ?rh7
        case hh7 => (intro w hSw; clear hSw; go_simp; (try with_reducible rfl))
        case rh7 =>
        try simp only [Act.put, List.setIfInBounds_toArray, List.set_cons_zero, List.set_cons_succ]
        refine takeH 7 24 (v := ?vh8) rfl rfl (by kernel_rfl) (by kernel_rfl) (by kernel_rfl) (fun _ _ _ h => h) (Or.inl ⟨by rfl, ?hh8⟩) hH0 ?rh8
        case hh8 => (intro w hSw; obtain ⟨s0, s1, s2, s3, s4, s5, s6, s7, s8⟩ := hSw; go_simp; (try with_reducible rfl))
        case rh8 =>
        try simp only [Act.put, List.setIfInBounds_toArray, List.set_cons_zero, List.set_cons_succ]
        refine takeH 8 25 (v := ?vh9) rfl rfl (by kernel_rfl) (by kernel_rfl) (by kernel_rfl) (fun _ _ _ h => h) (Or.inl ⟨by rfl, ?hh9⟩) hH0 ?rh9
        case hh9 => (intro w hSw; clear hSw; go_simp; (try with_reducible rfl))
        case rh9 =>
        try simp only [Act.put, List.setIfInBounds_toArray, List.set_cons_zero, List.set_cons_succ]
        refine takeH 9 26 (v := ?vh10) rfl rfl (by kernel_rfl) (by kernel_rfl) (by kernel_rfl) (fun _ _ _ h => h) (Or.inl ⟨by rfl, ?hh10⟩) hH0 ?rh10
        case hh10 => (intro w hSw; clear hSw; go_simp; (try with_reducible rfl))
        case rh10 =>
        try simp only [Act.put, List.setIfInBounds_toArray, List.set_cons_zero, List.set_cons_succ]
        refine takeH 10 27 (v := ?vh11) rfl rfl (by kernel_rfl) (by kernel_rfl) (by kernel_rfl) (fun _ _ _ h => h) (Or.inl ⟨by rfl, ?hh11⟩) hH0 ?rh11
        case hh11 => (intro w hSw; clear hSw; go_simp; (try with_reducible rfl))
        case rh11 =>
        try simp only [Act.put, List.setIfInBounds_toArray, List.set_cons_zero, List.set_cons_succ]
        refine takeH 11 28 (v := ?vh12) rfl rfl (by kernel_rfl) (by kernel_rfl) (by kernel_rfl) (fun _ _ _ h => h) (Or.inl ⟨by rfl, ?hh12⟩) hH0 ?rh12
        case hh12 => (intro w hSw; clear hSw; go_simp; (try with_reducible rfl))
        case rh12 =>
        try simp only [Act.put, List.setIfInBounds_toArray, List.set_cons_zero, List.set_cons_succ]
        refine takeH 12 29 (v := ?vh13) rfl rfl (by kernel_rfl) (by kernel_rfl) (by kernel_rfl) (fun _ _ _ h => h) (Or.inl ⟨by rfl, ?hh13⟩) hH0 ?rh13
        case hh13 => (intro w hSw; obtain ⟨s0, s1, s2, s3, s4, s5, s6, s7, s8⟩ := hSw; go_simp; (try with_reducible rfl))
        case rh13 =>
        try simp only [Act.put, List.setIfInBounds_toArray, List.set_cons_zero, List.set_cons_succ]
        refine takeH 13 30 (v := ?vh14) rfl rfl (by kernel_rfl) (by kernel_rfl) (by kernel_rfl) (fun _ _ _ h => h) (Or.inl ⟨by rfl, ?hh14⟩) hH0 ?rh14
        case hh14 => (intro w hSw; clear hSw; go_simp; (try with_reducible rfl))
        case rh14 =>
        try simp only [Act.put, List.setIfInBounds_toArray, List.set_cons_zero, List.set_cons_succ]
        refine takeH 14 31 (v := ?vh15) rfl rfl (by kernel_rfl) (by kernel_rfl) (by kernel_rfl) (fun _ _ _ h => h) (Or.inl ⟨by rfl, ?hh15⟩) hH0 ?rh15
        case hh15 => (intro w hSw; obtain ⟨s0, s1, s2, s3, s4, s5, s6, s7, s8⟩ := hSw; go_simp; (try with_reducible rfl))
        case rh15 =>
        try simp only [Act.put, List.setIfInBounds_toArray, List.set_cons_zero, List.set_cons_succ]
        refine callH 15 (by kernel_rfl) rfl 32 rfl rfl 115 Tryz.func115 (by kernel_rfl) (by kernel_rfl) #[.tmp 17, .tmp 31] #[152, 152] rfl #[.agg #[.bool key.str, .int .i64 key.i, .string key.s], .agg #[.bool y.str, .int .i64 y.i, .string y.s]] (by simp [Act.eval]) (R := fun v w' => v = .int .i64 z ∧ Only (fun _ => False) wr.drew w') ((unhide CC).mono (by rintro en w' ⟨rfl, o⟩; exact ⟨_, rfl, rfl, o⟩)) ?kh
        case kh =>
        rintro _ w6 ⟨rfl, o6⟩
        have S6 : w6.cell? ⟨kb, 0, none⟩ = some (.bool key.str) ∧ w6.cell? ⟨kb, 1, none⟩ = some (.int .i64 key.i) ∧ w6.cell? ⟨kb, 2, none⟩ = some (.string key.s) ∧ w6.cell? ⟨b, o + 2, none⟩ = some (.int .i64 (pk : Int)) ∧ w6.cell? ⟨b, o + 4, none⟩ = some (.slice (some ⟨g, 0, none⟩) n rc) ∧ w6.cell? ⟨g, i, none⟩ = some (.slice (some ⟨g1, 0, none⟩) xn k1) ∧ w6.cell? ⟨g1, pk * 3, none⟩ = some (.bool y.str) ∧ w6.cell? ⟨g1, pk * 3 + 1, none⟩ = some (.int .i64 y.i) ∧ w6.cell? ⟨g1, pk * 3 + 2, none⟩ = some (.string y.s) := ⟨o6.cellF hH0.1, o6.cellF hH0.2.1, o6.cellF hH0.2.2.1, o6.cellF hH0.2.2.2.1, o6.cellF hH0.2.2.2.2.1, o6.cellF hH0.2.2.2.2.2.1, o6.cellF hH0.2.2.2.2.2.2.1, o6.cellF hH0.2.2.2.2.2.2.2.1, o6.cellF hH0.2.2.2.2.2.2.2.2⟩
        refine ⟨S6, ?_⟩
        try simp only [Act.put, List.setIfInBounds_toArray, List.set_cons_zero, List.set_cons_succ]
        refine takeH 16 7 (v := ?vh16) rfl rfl (by kernel_rfl) (by kernel_rfl) (by kernel_rfl) (fun _ _ _ h => h) (Or.inl ⟨by rfl, ?hh16⟩) S6 ?rh16
        case hh16 => (intro w hSw; clear hSw; go_simp; (try with_reducible rfl))
        case rh16 =>
        try simp only [Act.put, List.setIfInBounds_toArray, List.set_cons_zero, List.set_cons_succ]
        refine wpAnyH_done (by kernel_rfl) ?_ _
        have oD : Only (fun _ => False) wr w6 := (Only.refl _ wr).drew.trans o6 (fun _ _ e => e)
        have HF := hide oD
        clear hH0 S6 o6 oD
        go_wp2_with fail
        go_meet
        exact ⟨rfl, unhide HF⟩
      case rest =>
      obtain ⟨rfl, o2⟩ := hcut
      have HO3 := hide ((unhide HO2).trans o2 (fun _ _ e => e))
      clear o2 CC e0 e1 e2 z0 z1 z2 p2 p4 cu xl
      by_cases hz : z ≤ 0
      · have d : decide (z ≤ 0) = true := decide_eq_true hz
        have HR := hide (show Plc e.t key i (z == 0) from ⟨by rw [unhide HN]; exact hi, unhide HT, fun _ r hr => by
          rw [(unhide HX).1] at hr
          cases hr
          rw [(unhide HX).2.1, (unhide HX).2.2]
          exact ⟨hz, rfl⟩, fun h => by rw [unhide HN] at h; omega⟩)
        clear hz
        go_wp2_with fail
        go_ret2
        exact ⟨i, _, rfl, unhide HR, (unhide HO).trans (unhide HO3) (fun _ _ e => e)⟩
      · have d : decide (z ≤ 0) = false := decide_eq_false hz
        have HT2 := hide (show ∀ (j : Nat) (r : List Vl), j < i + 1 → e.t.rows[j]? = some r → 0 < vcmp key (kyR e.t.pk r) from fun j r hj hr => by
          by_cases c : j = i
          · subst c
            rw [(unhide HX).1] at hr
            cases hr
            rw [(unhide HX).2.1, (unhide HX).2.2]
            omega
          · exact unhide HT j r (by omega) hr)
        clear hz
        go_wp2_with fail
        go_roundw
        case rel => exact ⟨i + 1, by go_num, by omega, unhide HT2, unhide HO3⟩
        case measure => simp [intOf]; omega
    · obtain rfl : i = n := by omega
      have a1 : decide ((i : Int) < (i : Int)) = false := by simp
      have HR := hide (show Plc e.t key i false from ⟨by rw [unhide HN]; exact hi, unhide HT, fun h => by rw [unhide HN] at h; omega, fun _ => rfl⟩)
      have HO2 := hide oW
      clear oW z0 z1 z2 p2
      go_wp2_with fail
      go_ret2
      exact ⟨i, _, rfl, unhide HR, (unhide HO).trans (unhide HO2) (fun _ _ e => e)⟩
end
end Go.Proofs.Qxb6500412aGreat
