/-
  OWN WORK. THE TABLE LAW: rows and names compared (written by tools/gen_yl2.py).
-/
import Derived.Test.Qxb6500414aGreatYL1
import Derived.Deep.DeepCutAuto
import Derived.BigQuiet
namespace Go.Proofs.Qxb6500414aGreat
open Go.RowKit Go.PlainAid
set_option linter.unusedSimpArgs false
set_option linter.unusedVariables false

/-- Rows that can be read. -/
def RdR (w : World) (v : Value) (rows : List (List Vl)) : Prop := ∃ a cap, v = .slice a rows.length cap ∧ ∀ j r, rows[j]? = some r → ∃ g u, a = some ⟨g, 0, none⟩ ∧ w.cell? ⟨g, j, none⟩ = some u ∧ OwnV w u r
theorem RdR.quiet {w w' : World} {v : Value} {rows : List (List Vl)} (h : RdR w v rows) (o : Only (fun _ => False) w w') : RdR w' v rows := by
  obtain ⟨a, cap, h1, h2⟩ := h
  refine ⟨a, cap, h1, fun j r hr => ?_⟩
  obtain ⟨g, u, e, c, O⟩ := h2 j r hr
  exact ⟨g, u, e, cell_keep c o (fun e => e), O.keep o (fun _ _ e => e)⟩
theorem OwnRR.rd {lo : Nat} {w : World} {v : Value} {rows : List (List Vl)} (h : OwnRR lo w v rows) : RdR w v rows := by
  obtain ⟨a, rfl⟩ := h.shape
  refine ⟨a, _, rfl, fun j r hr => ?_⟩
  obtain ⟨g, u, e, _, c, O, _⟩ := h.at_ hr
  exact ⟨g, u, e, c, O⟩
theorem rd_of {w : World} {v : Value} {Z : List (Value × List Vl)} (R : w.ownsRow 0 47 1 v Z.length (Z.map (·.1))) (h : ∀ z ∈ Z, OwnV w z.1 z.2) : RdR w v (Z.map (·.2)) := by
  obtain ⟨a, cap, rfl⟩ := ownsRow_shape R
  refine ⟨a, cap, by rw [List.length_map], fun j r hr => ?_⟩
  rw [List.getElem?_map] at hr
  obtain ⟨z, hz, rfl⟩ := Option.map_eq_some_iff.mp hr
  have hj := (List.getElem?_eq_some_iff.mp hz).1
  obtain ⟨g, rfl⟩ := own_slice R (by omega)
  have := World.ownsRow.cells R (g := g) rfl j z.1 (by rw [List.getElem?_map, hz]; rfl)
  rw [addr_add] at this
  exact ⟨g, z.1, rfl, this, h z (List.mem_of_getElem? hz)⟩
set_option maxRecDepth 100000 in
set_option maxHeartbeats 4000000 in
theorem sameRows_any {w : World} {va vb : Value} {A B : List (List Vl)} (ha : RdR w va A) (hb : RdR w vb B) (la : A.length ≤ 1000) (lr : ∀ r ∈ A, r.length ≤ 1000) (R : Bool) (hR : decide (A = B) = R) : Calls Tryz.prog 87 #[va, vb] w fun e w' => e = .returned (.bool R) ∧ Only (fun _ => False) w w' := by
  have HA := hide (And.intro ha (And.intro hb lr))
  obtain ⟨aa, ac, hva, _⟩ := ha
  obtain ⟨ba, bc, hvb, _⟩ := hb
  subst hva
  subst hvb
  clear lr
  by_cases hl : A.length = B.length
  · have c1 : ((A.length : Int) != (B.length : Int)) = false := by rw [hl]; simp
    have c1n : (A.length != B.length) = false := by rw [hl]; simp
    obtain ⟨n, hn⟩ : ∃ n, A.length = n := ⟨_, rfl⟩
    obtain ⟨m, hm⟩ : ∃ m, B.length = m := ⟨_, rfl⟩
    have HN := hide (And.intro hn hm)
    rw [hn] at c1 c1n la
    rw [hm] at c1 c1n
    rw [hn, hm]
    have HNM := hide (show n = m by omega)
    have HR := hide hR
    clear hl hn hm hR
    go_enter Tryz.func87, Tryz.ntmps87
    go_upto_region 4 with fail
    clear c1 c1n
    go_loopw [5] (fun iv wr => ∃ i : Nat, iv = .int .i64 i ∧ i ≤ n ∧ A.take i = B.take i ∧ Only (fun _ => False) w wr) (fun iv _ => n - (intOf iv).toNat)
    case atStart => exact ⟨0, rfl, Nat.zero_le _, rfl, Only.refl _ _⟩
    case round =>
      obtain ⟨i, rfl, hi, hT, oW⟩ := hrel
      by_cases hi2 : i < n
      · have a1 : decide ((i : Int) < (n : Int)) = true := decide_eq_true (by omega)
        have a1p : (i : Int) < (n : Int) := by omega
        have a1m : (i : Int) < (m : Int) := by have := unhide HNM; omega
        obtain ⟨x, hx⟩ := getE (l := A) (i := i) (by rw [(unhide HN).1]; exact hi2)
        obtain ⟨y, hy⟩ := getE (l := B) (i := i) (by rw [(unhide HN).2, ← unhide HNM]; exact hi2)
        obtain ⟨_, _, he1, q1⟩ := (unhide HA).1.quiet oW
        obtain ⟨_, _, he2, q2⟩ := (unhide HA).2.1.quiet oW
        simp only [Value.slice.injEq] at he1 he2
        obtain ⟨g1, u1, e1, d1, O1⟩ := q1 i x hx
        obtain ⟨g2, u2, e2, d2, O2⟩ := q2 i y hy
        obtain rfl := he1.1.trans e1
        obtain rfl := he2.1.trans e2
        have CS := hide (jsameRow_any (w := wr.drew) (O1.keep (Only.refl (fun _ => False) wr).drew (fun _ _ e => e)) (O2.keep (Only.refl (fun _ => False) wr).drew (fun _ _ e => e)) ((unhide HA).2.2 x (List.mem_of_getElem? hx)))
        obtain ⟨b, hb⟩ : ∃ b, decide (x = y) = b := ⟨_, rfl⟩
        rw [hb] at CS
        obtain ⟨s1, t1, hs1⟩ := O1.shape
        obtain ⟨s2, t2, hs2⟩ := O2.shape
        obtain ⟨xn, hxn⟩ : ∃ xn, x.length = xn := ⟨_, rfl⟩
        obtain ⟨yn, hyn⟩ : ∃ yn, y.length = yn := ⟨_, rfl⟩
        rw [hxn] at hs1
        rw [hyn] at hs2
        subst hs1
        subst hs2
        have HX := hide (And.intro hx (And.intro hy (And.intro hT hb)))
        have HO := hide oW
        clear hx hy hT hb oW he1 he2 q1 q2 e1 e2 O1 O2 hxn hyn
        go_upto_region 6 with fail
        go_cut [26] (fun zv wx => zv = .bool (!b) ∧ Only (fun _ => False) wr wx)
        case first =>
          go_region_with (go_at_call 109; refine (unhide CS).mono ?_; rintro e w2 ⟨rfl, o2⟩; have HF := hide ((Only.refl (fun _ => False) wr).drew.trans o2 (fun _ _ e => e)); clear o2)
          all_goals
            go_wp2_with fail
            go_meet
            exact ⟨rfl, unhide HF⟩
        case rest =>
        obtain ⟨rfl, o2⟩ := hcut
        have HO2 := hide ((unhide HO).trans o2 (fun _ _ e => e))
        clear o2 CS d1 d2
        cases b with
        | true =>
          have hxy : x = y := of_decide_eq_true (unhide HX).2.2.2
          have HT := hide ((take_eq_succ (unhide HX).1 (unhide HX).2.1).mpr ⟨(unhide HX).2.2.1, hxy⟩)
          clear hxy
          go_wp2_with fail
          go_roundw
          case rel => exact ⟨i + 1, by go_num, by omega, unhide HT, unhide HO2⟩
          case measure => simp [intOf]; omega
        | false =>
          have hxy : x ≠ y := of_decide_eq_false (unhide HX).2.2.2
          have HD := hide (show false = R from by
            rw [← unhide HR]
            refine (decide_eq_false (fun e => hxy ?_)).symm
            have h1 := (unhide HX).1
            rw [e, (unhide HX).2.1] at h1
            exact (Option.some.inj h1).symm)
          clear hxy
          go_wp2_with fail
          go_ret
          exact ⟨by rw [← unhide HD]; rfl, unhide HO2⟩
      · obtain rfl : i = n := by omega
        have a1 : decide ((i : Int) < (i : Int)) = false := by simp
        have HD := hide (show true = R from by
          rw [← unhide HR]
          refine (decide_eq_true ?_).symm
          rw [List.take_of_length_le (by rw [(unhide HN).1]; omega), List.take_of_length_le (by rw [(unhide HN).2, ← unhide HNM]; omega)] at hT
          exact hT)
        have HO := hide oW
        clear oW hT
        go_wp2_with fail
        go_ret
        exact ⟨by rw [← unhide HD]; rfl, unhide HO⟩
  · have c1 : ((A.length : Int) != (B.length : Int)) = true := by simp; omega
    have c1n : (A.length != B.length) = true := by simpa using hl
    rw [decide_eq_false (fun e : A = B => hl (by rw [e]))] at hR
    subst hR
    clear hl
    generalize A.length = n at *
    generalize B.length = m at *
    go_enter Tryz.func87, Tryz.ntmps87
    go_wp2_with fail
    go_ret
    exact ⟨rfl, Only.refl _ _⟩
set_option maxRecDepth 100000 in
set_option maxHeartbeats 4000000 in
theorem sameNames_any {w : World} {va vb : Value} {A B : List ByteArray} (ha : OwnN w va A) (hb : OwnN w vb B) (la : A.length ≤ 1000) (R : Bool) (hR : decide (A = B) = R) : Calls Tryz.prog 86 #[va, vb] w fun e w' => e = .returned (.bool R) ∧ Only (fun _ => False) w w' := by
  obtain ⟨aa, ac, hva⟩ := ownsRow_shape ha
  obtain ⟨ba, bc, hvb⟩ := ownsRow_shape hb
  subst hva
  subst hvb
  have HA := hide (And.intro ha hb)
  clear ha hb
  by_cases hl : A.length = B.length
  · have c1 : ((A.length : Int) != (B.length : Int)) = false := by rw [hl]; simp
    have c1n : (A.length != B.length) = false := by rw [hl]; simp
    obtain ⟨n, hn⟩ : ∃ n, A.length = n := ⟨_, rfl⟩
    obtain ⟨m, hm⟩ : ∃ m, B.length = m := ⟨_, rfl⟩
    have HN := hide (And.intro hn hm)
    unfold OwnN at HA
    rw [hn] at c1 c1n la HA
    rw [hm] at c1 c1n HA
    rw [hn, hm]
    have HNM := hide (show n = m by omega)
    have HR := hide hR
    clear hl hn hm hR
    go_enter Tryz.func86, Tryz.ntmps86
    go_upto_region 4 with fail
    clear c1 c1n
    go_loopw [5] (fun iv wr => ∃ i : Nat, iv = .int .i64 i ∧ i ≤ n ∧ A.take i = B.take i ∧ Only (fun _ => False) w wr) (fun iv _ => n - (intOf iv).toNat)
    case atStart => exact ⟨0, rfl, Nat.zero_le _, rfl, Only.refl _ _⟩
    case round =>
      obtain ⟨i, rfl, hi, hT, oW⟩ := hrel
      by_cases hi2 : i < n
      · have a1 : decide ((i : Int) < (n : Int)) = true := decide_eq_true (by omega)
        have a1p : (i : Int) < (n : Int) := by omega
        have a1m : (i : Int) < (m : Int) := by have := unhide HNM; omega
        obtain ⟨x, hx⟩ := getE (l := A) (i := i) (by rw [(unhide HN).1]; exact hi2)
        obtain ⟨y, hy⟩ := getE (l := B) (i := i) (by rw [(unhide HN).2, ← unhide HNM]; exact hi2)
        have R1 := ownsRow_keep (unhide HA).1 oW (fun _ _ e => e)
        have R2 := ownsRow_keep (unhide HA).2 oW (fun _ _ e => e)
        obtain ⟨g1, he1⟩ := own_slice R1 (by omega)
        obtain ⟨g2, he2⟩ := own_slice R2 (by have := unhide HNM; omega)
        subst he1
        subst he2
        have d1 := World.ownsRow.cells R1 (g := g1) rfl i (.string x) (by rw [List.getElem?_map, hx]; rfl)
        have d2 := World.ownsRow.cells R2 (g := g2) rfl i (.string y) (by rw [List.getElem?_map, hy]; rfl)
        rw [addr_add] at d1 d2
        have HX := hide (And.intro hx (And.intro hy hT))
        have HO := hide oW
        clear hx hy hT oW R1 R2
        by_cases hxy : x = y
        · have b1 := sne_f hxy
          have b1' := seq_t hxy
          have HT := hide ((take_eq_succ (unhide HX).1 (unhide HX).2.1).mpr ⟨(unhide HX).2.2, hxy⟩)
          clear hxy
          go_upto_region 6 with fail
          go_cut [25] (fun zv wx => zv = .bool false ∧ Only (fun _ => False) wr wx)
          case first =>
            go_quiet (fail)
            go_wp2_with fail
            go_meet
            exact ⟨rfl, onlyQ _ _⟩
          case rest =>
          obtain ⟨rfl, o2⟩ := hcut
          have HO2 := hide ((unhide HO).trans o2 (fun _ _ e => e))
          clear o2 d1 d2 b1 b1'
          go_wp2_with fail
          go_roundw
          case rel => exact ⟨i + 1, by go_num, by omega, unhide HT, unhide HO2⟩
          case measure => simp [intOf]; omega
        · have b1 := sne_t hxy
          have b1' := seq_f hxy
          have HD := hide (show false = R from by
            rw [← unhide HR]
            refine (decide_eq_false (fun e => hxy ?_)).symm
            have h1 := (unhide HX).1
            rw [e, (unhide HX).2.1] at h1
            exact (Option.some.inj h1).symm)
          clear hxy
          go_upto_region 6 with fail
          go_quiet (fail)
          go_wp2_with fail
          go_ret
          exact ⟨by rw [← unhide HD]; rfl, (unhide HO).trans (onlyQ _ _) (fun _ _ e => e)⟩
      · obtain rfl : i = n := by omega
        have a1 : decide ((i : Int) < (i : Int)) = false := by simp
        have HD := hide (show true = R from by
          rw [← unhide HR]
          refine (decide_eq_true ?_).symm
          rw [List.take_of_length_le (by rw [(unhide HN).1]; omega), List.take_of_length_le (by rw [(unhide HN).2, ← unhide HNM]; omega)] at hT
          exact hT)
        have HO := hide oW
        clear oW hT
        go_wp2_with fail
        go_ret
        exact ⟨by rw [← unhide HD]; rfl, unhide HO⟩
  · have c1 : ((A.length : Int) != (B.length : Int)) = true := by simp; omega
    have c1n : (A.length != B.length) = true := by simpa using hl
    rw [decide_eq_false (fun e : A = B => hl (by rw [e]))] at hR
    subst hR
    clear hl HA
    generalize A.length = n at *
    generalize B.length = m at *
    go_enter Tryz.func86, Tryz.ntmps86
    go_wp2_with fail
    go_ret
    exact ⟨rfl, Only.refl _ _⟩
end Go.Proofs.Qxb6500414aGreat
