/-
  OWN WORK. THE TABLE LAW's GHOST: GRow.
-/
import Derived.Test.Qxb6500413aGreatJG0
namespace Go.Proofs.Qxb6500413aGreat
open Go.RowKit Go.PlainAid
set_option linter.unusedSimpArgs false
set_option linter.unusedVariables false

theorem cell_lt {w : World} {p : Addr} {v : Value} (h : w.cell? p = some v) : p.block < w.heap.size := by
  unfold World.cell? at h
  apply Classical.byContradiction
  intro hn
  rw [Array.getElem?_eq_none (by omega)] at h
  cases h
theorem cell_keep {B : Nat → Prop} {w w' : World} {p : Addr} {v : Value} (h : w.cell? p = some v) (ho : Only B w w') (hb : ¬ B p.block) : w'.cell? p = some v := by
  have hl := cell_lt h
  unfold World.cell? at h ⊢
  rw [ho.block _ hl hb]
  exact h
/-- A table of the ghost, seen through a pointer. -/
structure GPt (w : World) (b o : Nat) (e : GE) : Prop where
  c0 : w.cell? ⟨b, o, none⟩ = some (.string e.t.nm)
  c1 : w.cell? ⟨b, o + 1, none⟩ = some e.cv
  c2 : w.cell? ⟨b, o + 2, none⟩ = some (.int .i64 (e.t.pk : Int))
  c3 : w.cell? ⟨b, o + 3, none⟩ = some (.int .i64 (ixI e.t.ix))
  c4 : w.cell? ⟨b, o + 4, none⟩ = some e.rv
theorem GPt.keep {B : Nat → Prop} {w w' : World} {b o : Nat} {e : GE} (h : GPt w b o e) (ho : Only B w w') (hb : ¬ B b) : GPt w' b o e := ⟨cell_keep h.c0 ho hb, cell_keep h.c1 ho hb, cell_keep h.c2 ho hb, cell_keep h.c3 ho hb, cell_keep h.c4 ho hb⟩
theorem GL.pt {w : World} {v : Value} {l : List GE} (h : GL w v l) {i : Nat} {x : GE} (hx : l[i]? = some x) : ∃ g cap, v = .slice (some ⟨g, 0, none⟩) l.length cap ∧ GPt w g (i * 5) x ∧ GEl w x := by
  obtain ⟨a, cap, rfl⟩ := h.shape
  obtain ⟨g, rfl, a0, a1, a2, a3, a4⟩ := h.at_ hx
  exact ⟨g, cap, rfl, ⟨a0, a1, a2, a3, a4⟩, h.el x (List.mem_of_getElem? hx)⟩
/-- Row j of a table of the ghost. -/
theorem GEl.at_ {w : World} {e : GE} (h : GEl w e) {j : Nat} {r : List Vl} (hr : e.t.rows[j]? = some r) : ∃ g u cap, e.rv = .slice (some ⟨g, 0, none⟩) e.t.rows.length cap ∧ e.us[j]? = some u ∧ w.cell? ⟨g, j, none⟩ = some u ∧ OwnV w u r := by
  have hj := (List.getElem?_eq_some_iff.mp hr).1
  obtain ⟨u, hu⟩ := getE (l := e.us) (i := j) (by rw [h.n]; exact hj)
  rcases h.rs.2 with ⟨he, h0⟩ | ⟨g, cap, cur, he, _⟩
  · have := h.n; omega
  · rw [h.n] at he
    have hc := World.ownsRow.cells h.rs (g := g) (by rw [he]; rfl)
    have b1 := hc _ _ hu
    rw [addr_add] at b1
    exact ⟨g, u, cap, he, hu, b1, h.row j u r hu hr⟩
theorem GEl.rshape {w : World} {e : GE} (h : GEl w e) : ∃ a cap, e.rv = .slice a e.t.rows.length cap := by
  obtain ⟨a, cap, hv⟩ := ownsRow_shape h.rs
  rw [h.n] at hv
  exact ⟨a, cap, hv⟩
/-- The place of the row of a key, or -1. -/
def GRR (t : Tb) (key : Vl) (r : Int) : Prop := (r = -1 ∧ ∀ x ∈ t.rows, vcmp key (kyR t.pk x) ≠ 0) ∨ ∃ (i : Nat) (x : List Vl), t.rows[i]? = some x ∧ r = i ∧ vcmp key (kyR t.pk x) = 0
set_option maxRecDepth 100000 in
set_option maxHeartbeats 4000000 in
theorem jgrow_any {w : World} {b o : Nat} {e : GE} (P : GPt w b o e) (E : GEl w e) (key : Vl) : Calls Tryz.prog 102 #[.pointer (some ⟨b, o, none⟩), vlA key] w fun x w' => ∃ r, x = .returned (.int .i64 r) ∧ GRR e.t key r ∧ Only (fun _ => False) w w' := by
  have o0 : Only (fun _ => False) w (w.alloc (.cells #[.bool key.str, .int .i64 key.i, .string key.s] 72)) := (Only.refl _ w).alloc _
  have A : Has (w.alloc (.cells #[.bool key.str, .int .i64 key.i, .string key.s] 72)) w.heap.size #[.bool key.str, .int .i64 key.i, .string key.s] 72 := Has.new w _ _
  have HP := hide (P.keep o0 (fun e => e))
  have HE := hide (E.keep o0 (fun _ _ e => e) (fun _ _ e => e))
  obtain ⟨ra, rc, hrv⟩ := E.rshape
  have h8 := E.ok.len
  have HV := hide hrv
  have HPK := hide (show ∀ r ∈ e.t.rows, e.t.pk < r.length from fun r hr => by rw [(E.ok.row r hr).len]; exact E.ok.pkn)
  clear P E hrv
  unfold vlA
  obtain ⟨n, hn⟩ : ∃ n, e.t.rows.length = n := ⟨_, rfl⟩
  rw [hn] at h8 HV
  have HN := hide hn
  clear hn
  go_enter Tryz.func102, Tryz.ntmps102
  go_upto_region 2 with fail
  generalize w.alloc (.cells #[.bool key.str, .int .i64 key.i, .string key.s] 72) = w1 at *
  have HA := hide A
  have HO := hide o0
  clear A o0
  go_loopw [5] (fun iv wr => ∃ i : Nat, iv = .int .i64 i ∧ i ≤ n ∧ (∀ (j : Nat) (x : List Vl), e.t.rows[j]? = some x → j < i → vcmp key (kyR e.t.pk x) ≠ 0) ∧ Only (fun _ => False) w1 wr) (fun iv _ => n - (intOf iv).toNat)
  case atStart => exact ⟨0, rfl, Nat.zero_le _, fun j _ _ hj => by omega, Only.refl _ _⟩
  case round =>
    obtain ⟨i, rfl, hi, hT, oW⟩ := hrel
    have z0 := ((unhide HA).keep oW (fun e => e)).cell 0
    have z1 := ((unhide HA).keep oW (fun e => e)).cell 1
    have z2 := ((unhide HA).keep oW (fun e => e)).cell 2
    simp at z0 z1 z2
    have p2 := ((unhide HP).keep oW (fun e => e)).c2
    have p4 := ((unhide HP).keep oW (fun e => e)).c4
    rw [unhide HV] at p4
    by_cases hi2 : i < n
    · have a1 : decide ((i : Int) < (n : Int)) = true := decide_eq_true (by omega)
      have a1p : (i : Int) < (n : Int) := by omega
      obtain ⟨x, hx⟩ := getE (l := e.t.rows) (i := i) (by rw [unhide HN]; exact hi2)
      obtain ⟨y, hy⟩ := getE (l := x) (i := e.t.pk) (unhide HPK x (List.mem_of_getElem? hx))
      obtain ⟨g, u, cap, he, _, cu, OU⟩ := ((unhide HE).keep oW (fun _ _ e => e) (fun _ _ e => e)).at_ hx
      rw [unhide HV, unhide HN] at he
      simp only [Value.slice.injEq] at he
      obtain ⟨rfl, _, rfl⟩ := he
      obtain ⟨g1, k1, rfl, e0, e1, e2⟩ := getv_at OU hy
      have xl : (e.t.pk : Int) < (x.length : Int) := by have := (List.getElem?_eq_some_iff.mp hy).1; omega
      have hk : kyR e.t.pk x = y := by unfold kyR; rw [hy]; rfl
      have CC := ecmp_any key y wr.drew
      obtain ⟨z, hz⟩ : ∃ z, vcmp key y = z := ⟨_, rfl⟩
      rw [hz] at CC
      unfold vlA at CC
      have CC := hide CC
      have HX := hide (And.intro hx (And.intro hk (And.intro hz hT)))
      have HO2 := hide oW
      clear hx hy hk hz hT oW OU
      obtain ⟨pk, hpk⟩ : ∃ pk, e.t.pk = pk := ⟨_, rfl⟩
      rw [hpk] at p2 e0 e1 e2 xl
      clear hpk
      obtain ⟨xn, hxn⟩ : ∃ xn, x.length = xn := ⟨_, rfl⟩
      rw [hxn] at cu xl
      clear hxn
      go_upto_region 4 with fail
      go_cut [31] (fun zv wx => zv = .bool (z == 0) ∧ Only (fun _ => False) wr wx)
      case first =>
        go_region_with (go_at_call 165; refine (unhide CC).mono ?_; rintro e w2 ⟨rfl, o2⟩; have HF := hide ((Only.refl (fun _ => False) wr).drew.trans o2 (fun _ _ e => e)); clear o2)
        all_goals
          go_wp2_with fail
          go_meet
          exact ⟨rfl, unhide HF⟩
      case rest =>
      obtain ⟨rfl, o2⟩ := hcut
      have HO3 := hide ((unhide HO2).trans o2 (fun _ _ e => e))
      clear o2 CC e0 e1 e2 z0 z1 z2 p2 p4 cu xl
      by_cases h0 : z = 0
      · have d : (z == 0) = true := by simpa using h0
        have RR := hide (show GRR e.t key i from .inr ⟨i, x, (unhide HX).1, rfl, by rw [(unhide HX).2.1, (unhide HX).2.2.1, h0]⟩)
        clear h0
        go_wp2_with fail
        go_ret
        exact ⟨_, rfl, unhide RR, (unhide HO).trans (unhide HO3) (fun _ _ e => e)⟩
      · have d : (z == 0) = false := by simpa using h0
        have HN2 := hide (show ∀ (j : Nat) (s : List Vl), e.t.rows[j]? = some s → j < i + 1 → vcmp key (kyR e.t.pk s) ≠ 0 from fun j s hs hji => by
          by_cases c : j = i
          · subst c
            rw [(unhide HX).1] at hs
            cases hs
            rw [(unhide HX).2.1, (unhide HX).2.2.1]
            exact h0
          · exact (unhide HX).2.2.2 j s hs (by omega))
        clear h0
        go_wp2_with fail
        go_roundw
        case rel => exact ⟨i + 1, by go_num, by omega, unhide HN2, unhide HO3⟩
        case measure => simp [intOf]; omega
    · obtain rfl : i = n := by omega
      have a1 : decide ((i : Int) < (i : Int)) = false := by simp
      have RR := hide (show GRR e.t key (-1) from .inl ⟨rfl, fun x hx => by
        obtain ⟨j, hj⟩ := List.getElem?_of_mem hx
        exact hT j x hj (by rw [← unhide HN]; exact (List.getElem?_eq_some_iff.mp hj).1)⟩)
      have HO2 := hide oW
      clear oW hT
      go_wp2_with fail
      go_ret
      exact ⟨_, rfl, unhide RR, (unhide HO).trans (unhide HO2) (fun _ _ e => e)⟩
end Go.Proofs.Qxb6500413aGreat
