/-
  OWN WORK. THE TABLE LAW: what was handed out is spoilt.
-/
import Derived.Test.Qxb6500412aGreatJW
import Derived.Test.Qxb6500412aGreatJG4
namespace Go.Proofs.Qxb6500412aGreat
open Go.RowKit Go.PlainAid
set_option linter.unusedSimpArgs false
set_option linter.unusedVariables false

/-- A block turned from its front. -/
structure SqI (w : World) (g : Nat) (ty : TypeId) (cur0 : Array Value) (i : Nat) (wr : World) : Prop where
  has : ∃ cur : Array Value, Has wr g cur ty ∧ ∀ j, i ≤ j → cur[j]? = cur0[j]?
  on : Only (fun k => k = g) w wr
section
variable {w wr w' : World} {g i : Nat} {ty : TypeId} {cur0 : Array Value}
theorem SqI.start (h : Has w g cur0 ty) : SqI w g ty cur0 0 w := ⟨⟨cur0, h, fun _ _ => rfl⟩, Only.refl _ _⟩
theorem SqI.quiet (h : SqI w g ty cur0 i wr) (o : Only (fun _ => False) wr w') : SqI w g ty cur0 i w' := by
  obtain ⟨⟨cur, h1, h2⟩, h3⟩ := h
  exact ⟨⟨cur, h1.keep o (fun e => e), h2⟩, h3.trans o (fun _ _ e => e.elim)⟩
theorem SqI.cell (h : SqI w g ty cur0 i wr) {j : Nat} (hj : i ≤ j) {x : Value} (hx : cur0[j]? = some x) : wr.cell? ⟨g, j, none⟩ = some x ∧ wr.frozen? ⟨g, j, none⟩ = false := by
  obtain ⟨⟨cur, h1, h2⟩, h3⟩ := h
  exact ⟨by rw [h1.cell, h2 j hj, hx], h1.free j⟩
theorem SqI.set (h : SqI w g ty cur0 i wr) (j : Nat) (u : Value) {i' : Nat} (hi : i ≤ i') (hj : j < i') : SqI w g ty cur0 i' (wr.setCell ⟨g, j, none⟩ u) := by
  obtain ⟨⟨cur, h1, h2⟩, h3⟩ := h
  refine ⟨⟨_, h1.setCell j u, fun q hq => ?_⟩, h3.trans (only1 (p := g) _ _) (fun _ _ e => e)⟩
  rw [Array.getElem?_setIfInBounds, if_neg (by omega)]
  exact h2 q (by omega)
end
theorem own_slice {w : World} {ty : TypeId} {k n cap : Nat} {a : Option Addr} {cs : List Value} (R : w.ownsRow 0 ty k (.slice a n cap) n cs) (h : 0 < n) : ∃ g, a = some ⟨g, 0, none⟩ := by
  rcases R.2 with ⟨_, e⟩ | ⟨g, _, _, he, _⟩
  · omega
  · simp only [Value.slice.injEq] at he
    exact ⟨g, he.1⟩
theorem own_cur {w : World} {ty : TypeId} {k n g cap : Nat} {cs : List Value} (h : w.ownsRow 0 ty k (.slice (some ⟨g, 0, none⟩) n cap) n cs) : ∃ cur : Array Value, Has w g cur ty ∧ ∀ (j : Nat) (x : Value), cs[j]? = some x → cur[j]? = some x := by
  obtain ⟨c, hc⟩ := ownsRow_has h (k := g) rfl
  refine ⟨c, hc, fun j x hx => ?_⟩
  have := World.ownsRow.cells h (g := g) rfl j x hx
  rw [addr_add, hc.cell] at this
  exact this
section
variable {w : World} {v : Value}
set_option maxRecDepth 100000 in
set_option maxHeartbeats 1000000 in
theorem spoil_any {r : List Vl} (O : OwnV w v r) (hl : r.length ≤ 1000) : Calls Tryz.prog 192 #[v] w fun e w' => e = .returned (.tuple #[]) ∧ Only (fun k => v.ownBlock = some k) w w' := by
  obtain ⟨a, cap, hv⟩ := O.shape
  subst hv
  obtain ⟨n, hn⟩ : ∃ n, r.length = n := ⟨_, rfl⟩
  have HO := hide (And.intro O hn)
  rw [hn] at hl ⊢
  clear O hn
  go_enter Tryz.func192, Tryz.ntmps192
  go_upto_region 1 with fail
  by_cases h0 : n = 0
  · subst h0
    go_loopw [2] (fun iv wr => iv = .int .i64 0 ∧ wr = w) (fun _ _ => 0)
    case atStart => exact ⟨rfl, rfl⟩
    case round =>
      obtain ⟨rfl, rfl⟩ := hrel
      go_wp2_with fail
      go_end0
      exact ⟨rfl, Only.refl _ _⟩
  obtain ⟨g, hg⟩ : ∃ g, a = some ⟨g, 0, none⟩ := by
    obtain ⟨x, hx⟩ := getE (l := r) (i := 0) (by rw [(unhide HO).2]; omega)
    obtain ⟨g, _, he, _⟩ := getv_at (unhide HO).1 hx
    simp only [Value.slice.injEq] at he
    exact ⟨g, he.1⟩
  subst hg
  obtain ⟨cur0, hc0, hcx⟩ := own_cur (by have := (unhide HO).1; unfold OwnV at this; rw [(unhide HO).2] at this; exact this)
  have HC := hide (And.intro hc0 hcx)
  clear hc0 hcx
  go_loopw [2] (fun iv wr => ∃ i : Nat, iv = .int .i64 i ∧ i ≤ n ∧ SqI w g 152 cur0 (i * 3) wr) (fun iv _ => n - (intOf iv).toNat)
  case atStart => exact ⟨0, rfl, Nat.zero_le _, by rw [Nat.zero_mul]; exact SqI.start (unhide HC).1⟩
  case round =>
    obtain ⟨i, rfl, hi, I⟩ := hrel
    by_cases hi2 : i < n
    · have a1 : decide ((i : Int) < (n : Int)) = true := decide_eq_true (by omega)
      have a1p : (i : Int) < (n : Int) := by omega
      obtain ⟨x, hx⟩ := getE (l := r) (i := i) (by rw [(unhide HO).2]; exact hi2)
      obtain ⟨x0, x1, x2⟩ := vcs_at r i hx
      have k0 := (I.cell (j := i * 3) (Nat.le_refl _) ((unhide HC).2 _ _ x0)).1
      have HX := hide (And.intro ((unhide HC).2 _ _ x0) (And.intro ((unhide HC).2 _ _ x1) ((unhide HC).2 _ _ x2)))
      clear hx x0 x1 x2
      have HI := hide I
      clear I
      have CI := eInt_any 1 wr
      have CS := eStr_any ⟨#[33]⟩ wr
      unfold vlA vI at CI
      unfold vlA vS at CS
      have CI := hide CI
      have CS := hide CS
      cases hb : x.str with
      | true =>
        rw [hb] at k0
        clear hb
        go_wp2_with fail
        refine (unhide CI).mono ?_
        rintro e w2 ⟨rfl, o2⟩
        have I2 := (unhide HI).quiet o2
        obtain ⟨c0, f0⟩ := I2.cell (j := i * 3) (Nat.le_refl _) (unhide HX).1
        obtain ⟨c1, f1⟩ := I2.cell (j := i * 3 + 1) (by omega) (unhide HX).2.1
        obtain ⟨c2, f2⟩ := I2.cell (j := i * 3 + 2) (by omega) (unhide HX).2.2
        have HJ := hide (((I2.set (i * 3) (.bool false) (i' := i * 3 + 3) (by omega) (by omega)).set (i * 3 + 1) (.int .i64 1) (i' := i * 3 + 3) (by omega) (by omega)).set (i * 3 + 2) (.string ⟨#[]⟩) (i' := i * 3 + 3) (by omega) (by omega))
        clear I2 o2 CI CS k0 HI
        go_wp2_with fail
        go_roundw
        case rel => exact ⟨i + 1, by go_num, by omega, by rw [Nat.succ_mul]; exact unhide HJ⟩
        case measure => simp [intOf]; omega
      | false =>
        rw [hb] at k0
        clear hb
        go_wp2_with fail
        refine (unhide CS).mono ?_
        rintro e w2 ⟨rfl, o2⟩
        have I2 := (unhide HI).quiet o2
        obtain ⟨c0, f0⟩ := I2.cell (j := i * 3) (Nat.le_refl _) (unhide HX).1
        obtain ⟨c1, f1⟩ := I2.cell (j := i * 3 + 1) (by omega) (unhide HX).2.1
        obtain ⟨c2, f2⟩ := I2.cell (j := i * 3 + 2) (by omega) (unhide HX).2.2
        have HJ := hide (((I2.set (i * 3) (.bool true) (i' := i * 3 + 3) (by omega) (by omega)).set (i * 3 + 1) (.int .i64 0) (i' := i * 3 + 3) (by omega) (by omega)).set (i * 3 + 2) (.string ⟨#[33]⟩) (i' := i * 3 + 3) (by omega) (by omega))
        clear I2 o2 CI CS k0 HI
        go_wp2_with fail
        go_roundw
        case rel => exact ⟨i + 1, by go_num, by omega, by rw [Nat.succ_mul]; exact unhide HJ⟩
        case measure => simp [intOf]; omega
    · obtain rfl : i = n := by omega
      have a1 : decide ((i : Int) < (i : Int)) = false := by simp
      have HO2 := hide (I.on.mono (T := fun k => (Value.slice (some ⟨g, 0, none⟩) i cap).ownBlock = some k) (fun k _ e => by rw [e]; rfl))
      clear I
      go_wp2_with fail
      go_end0
      exact ⟨rfl, unhide HO2⟩
set_option maxRecDepth 100000 in
set_option maxHeartbeats 1000000 in
theorem spoilCols_any {c : List Cl} (O : OwnC w v c) (hl : c.length ≤ 1000) : Calls Tryz.prog 133 #[v] w fun e w' => e = .returned (.tuple #[]) ∧ Only (fun k => v.ownBlock = some k) w w' := by
  obtain ⟨a, cap, hv⟩ := O.shape
  subst hv
  obtain ⟨n, hn⟩ : ∃ n, c.length = n := ⟨_, rfl⟩
  have HO := hide (And.intro O hn)
  rw [hn] at hl ⊢
  clear O hn
  go_enter Tryz.func133, Tryz.ntmps133
  go_upto_region 1 with fail
  by_cases h0 : n = 0
  · subst h0
    go_loopw [2] (fun iv wr => iv = .int .i64 0 ∧ wr = w) (fun _ _ => 0)
    case atStart => exact ⟨rfl, rfl⟩
    case round =>
      obtain ⟨rfl, rfl⟩ := hrel
      go_wp2_with fail
      go_end0
      exact ⟨rfl, Only.refl _ _⟩
  obtain ⟨g, hg⟩ : ∃ g, a = some ⟨g, 0, none⟩ := by
    obtain ⟨x, hx⟩ := getE (l := c) (i := 0) (by rw [(unhide HO).2]; omega)
    obtain ⟨g, _, he, _⟩ := getc_at (unhide HO).1 hx
    simp only [Value.slice.injEq] at he
    exact ⟨g, he.1⟩
  subst hg
  obtain ⟨cur0, hc0, hcx⟩ := own_cur (by have := (unhide HO).1; unfold OwnC at this; rw [(unhide HO).2] at this; exact this)
  have HC := hide (And.intro hc0 hcx)
  clear hc0 hcx
  go_loopw [2] (fun iv wr => ∃ i : Nat, iv = .int .i64 i ∧ i ≤ n ∧ SqI w g 149 cur0 (i * 2) wr) (fun iv _ => n - (intOf iv).toNat)
  case atStart => exact ⟨0, rfl, Nat.zero_le _, by rw [Nat.zero_mul]; exact SqI.start (unhide HC).1⟩
  case round =>
    obtain ⟨i, rfl, hi, I⟩ := hrel
    by_cases hi2 : i < n
    · have a1 : decide ((i : Int) < (n : Int)) = true := decide_eq_true (by omega)
      have a1p : (i : Int) < (n : Int) := by omega
      obtain ⟨x, hx⟩ := getE (l := c) (i := i) (by rw [(unhide HO).2]; exact hi2)
      obtain ⟨x0, x1⟩ := ccs_at c i hx
      obtain ⟨c0, f0⟩ := I.cell (j := i * 2) (Nat.le_refl _) ((unhide HC).2 _ _ x0)
      obtain ⟨c1, f1⟩ := I.cell (j := i * 2 + 1) (by omega) ((unhide HC).2 _ _ x1)
      have HJ := hide ((I.set (i * 2) (.string ⟨#[33]⟩) (i' := i * 2 + 2) (by omega) (by omega)).set (i * 2 + 1) (.bool (!x.2)) (i' := i * 2 + 2) (by omega) (by omega))
      clear I hx x0 x1
      go_wp2_with fail
      go_roundw
      case rel => exact ⟨i + 1, by go_num, by omega, by rw [Nat.succ_mul]; exact unhide HJ⟩
      case measure => simp [intOf]; omega
    · obtain rfl : i = n := by omega
      have a1 : decide ((i : Int) < (i : Int)) = false := by simp
      have HO2 := hide (I.on.mono (T := fun k => (Value.slice (some ⟨g, 0, none⟩) i cap).ownBlock = some k) (fun k _ e => by rw [e]; rfl))
      clear I
      go_wp2_with fail
      go_end0
      exact ⟨rfl, unhide HO2⟩
set_option maxRecDepth 100000 in
set_option maxHeartbeats 1000000 in
theorem spoilNames_any {N : List ByteArray} (O : OwnN w v N) (hl : N.length ≤ 1000) : Calls Tryz.prog 122 #[v] w fun e w' => e = .returned (.tuple #[]) ∧ Only (fun k => v.ownBlock = some k) w w' := by
  obtain ⟨a, cap, hv⟩ := ownsRow_shape O
  subst hv
  obtain ⟨n, hn⟩ : ∃ n, N.length = n := ⟨_, rfl⟩
  have HO := hide (And.intro O hn)
  rw [hn] at hl ⊢
  clear O hn
  go_enter Tryz.func122, Tryz.ntmps122
  go_upto_region 1 with fail
  by_cases h0 : n = 0
  · subst h0
    go_loopw [2] (fun iv wr => iv = .int .i64 0 ∧ wr = w) (fun _ _ => 0)
    case atStart => exact ⟨rfl, rfl⟩
    case round =>
      obtain ⟨rfl, rfl⟩ := hrel
      go_wp2_with fail
      go_end0
      exact ⟨rfl, Only.refl _ _⟩
  have R : w.ownsRow 0 9 1 (.slice a n cap) n (N.map Value.string) := by have := (unhide HO).1; unfold OwnN at this; rw [(unhide HO).2] at this; exact this
  obtain ⟨g, hg⟩ : ∃ g, a = some ⟨g, 0, none⟩ := by
    rcases R.2 with ⟨_, e⟩ | ⟨g, _, _, he, _⟩
    · omega
    · simp only [Value.slice.injEq] at he
      exact ⟨g, he.1⟩
  subst hg
  obtain ⟨cur0, hc0, hcx⟩ := own_cur R
  have HC := hide (And.intro hc0 hcx)
  clear hc0 hcx R
  go_loopw [2] (fun iv wr => ∃ i : Nat, iv = .int .i64 i ∧ i ≤ n ∧ SqI w g 9 cur0 i wr) (fun iv _ => n - (intOf iv).toNat)
  case atStart => exact ⟨0, rfl, Nat.zero_le _, SqI.start (unhide HC).1⟩
  case round =>
    obtain ⟨i, rfl, hi, I⟩ := hrel
    by_cases hi2 : i < n
    · have a1 : decide ((i : Int) < (n : Int)) = true := decide_eq_true (by omega)
      have a1p : (i : Int) < (n : Int) := by omega
      obtain ⟨x, hx⟩ := getE (l := N) (i := i) (by rw [(unhide HO).2]; exact hi2)
      obtain ⟨c0, f0⟩ := I.cell (j := i) (Nat.le_refl _) ((unhide HC).2 i (.string x) (by rw [List.getElem?_map, hx]; rfl))
      have HJ := hide (I.set i (.string ⟨#[33]⟩) (i' := i + 1) (by omega) (by omega))
      clear I hx
      go_wp2_with fail
      go_roundw
      case rel => exact ⟨i + 1, by go_num, by omega, unhide HJ⟩
      case measure => simp [intOf]; omega
    · obtain rfl : i = n := by omega
      have a1 : decide ((i : Int) < (i : Int)) = false := by simp
      have HO2 := hide (I.on.mono (T := fun k => (Value.slice (some ⟨g, 0, none⟩) i cap).ownBlock = some k) (fun k _ e => by rw [e]; rfl))
      clear I
      go_wp2_with fail
      go_end0
      exact ⟨rfl, unhide HO2⟩
end
/-- The rows from i on stand still. -/
structure SaI (lo : Nat) (rows : List (List Vl)) (w : World) (g : Nat) (i : Nat) (wr : World) : Prop where
  has : ∃ cur : Array Value, cur.size = rows.length ∧ Has wr g cur 95 ∧ (∀ j r, i ≤ j → rows[j]? = some r → ∃ u, cur[j]? = some u ∧ OwnV wr u r ∧ ∀ k, u.ownBlock = some k → lo ≤ k) ∧
    ∀ j j' u u' k, i ≤ j → j < j' → cur[j]? = some u → cur[j']? = some u' → u.ownBlock = some k → u'.ownBlock ≠ some k
  gl : lo ≤ g
  on : Only (fun k => lo ≤ k) w wr
section
variable {lo : Nat} {rows : List (List Vl)} {w wr w1 : World} {g i : Nat}
theorem SaI.start (h : RsI lo rows g rows.length w) : SaI lo rows w g 0 w := by
  obtain ⟨cur, h1, h2, h3, h4⟩ := h.has
  refine ⟨⟨cur, h1, h2, fun j r _ hr => h3 j r (List.getElem?_eq_some_iff.mp hr).1 hr, fun j j' u u' k _ hj hu hu' hk => h4 j j' u u' k hj (by have := (Array.getElem?_eq_some_iff.mp hu').1; omega) hu hu' hk⟩, h.gl, Only.refl _ _⟩
theorem SaI.row (h : SaI lo rows w g i wr) {r : List Vl} (hr : rows[i]? = some r) : ∃ u, wr.cell? ⟨g, i, none⟩ = some u ∧ OwnV wr u r ∧ ∀ {w1 : World}, Only (fun k => u.ownBlock = some k) wr w1 → w1.cell? ⟨g, i, none⟩ = some u ∧ w1.frozen? ⟨g, i, none⟩ = false ∧ SaI lo rows w g (i + 1) (w1.setCell ⟨g, i, none⟩ (.slice none 0 0)) := by
  obtain ⟨⟨cur, h1, h2, h3, h4⟩, h5, h6⟩ := h
  obtain ⟨u, hu, hO, hlo⟩ := h3 i r (Nat.le_refl _) hr
  refine ⟨u, by rw [h2.cell]; exact hu, hO, ?_⟩
  intro w1 o1
  have ng : ∀ k, u.ownBlock = some k → k ≠ g := fun k hk => ownsRow_ne hO h2 (by decide) k hk
  have k1 := h2.keep o1 (fun e => ng g e rfl)
  have og : Only (fun k => k = g) w1 (w1.setCell ⟨g, i, none⟩ (.slice none 0 0)) := only1 _ _
  refine ⟨by rw [k1.cell]; exact hu, k1.free i, ⟨⟨_, by rw [Array.size_setIfInBounds]; exact h1, k1.setCell i (.slice none 0 0), fun j r' hj hr' => ?_, fun j j' a b k hj hjj ha hb hk => ?_⟩, h5, (h6.trans o1 (fun k _ e => hlo k e)).trans og (fun k _ e => by rw [e]; exact h5)⟩⟩
  · obtain ⟨u', hu', hO', hlo'⟩ := h3 j r' (by omega) hr'
    refine ⟨u', by rw [Array.getElem?_setIfInBounds, if_neg (by omega)]; exact hu', ?_, hlo'⟩
    exact (hO'.keep o1 (fun k hk e => h4 i j u u' k (Nat.le_refl _) (by omega) hu hu' e hk)).keep og (fun k hk e => ownsRow_ne hO' h2 (by decide) k hk e)
  · rw [Array.getElem?_setIfInBounds, if_neg (by omega)] at ha hb
    exact h4 j j' a b k (by omega) hjj ha hb hk
set_option maxRecDepth 100000 in
set_option maxHeartbeats 1000000 in
theorem spoilAll_any {v : Value} (h : OwnRR lo w v rows) (h8 : rows.length ≤ 1000) (hr8 : ∀ r ∈ rows, r.length ≤ 1000) : Calls Tryz.prog 130 #[v] w fun e w' => e = .returned (.tuple #[]) ∧ Only (fun k => lo ≤ k) w w' := by
  have HR8 := hide hr8
  clear hr8
  rcases h with ⟨rfl, hn⟩ | ⟨g, rfl, h⟩
  · clear hn
    go_enter Tryz.func130, Tryz.ntmps130
    go_upto_region 1 with fail
    go_loopw [2] (fun iv wr => iv = .int .i64 0 ∧ wr = w) (fun _ _ => 0)
    case atStart => exact ⟨rfl, rfl⟩
    case round =>
      obtain ⟨rfl, rfl⟩ := hrel
      go_wp2_with fail
      go_end0
      exact ⟨rfl, Only.refl _ _⟩
  have HS := hide (SaI.start h)
  obtain ⟨n, hn⟩ : ∃ n, rows.length = n := ⟨_, rfl⟩
  have HN := hide hn
  rw [hn] at h8 ⊢
  clear h hn
  go_enter Tryz.func130, Tryz.ntmps130
  go_upto_region 1 with fail
  go_loopw [2] (fun iv wr => ∃ i : Nat, iv = .int .i64 i ∧ i ≤ n ∧ SaI lo rows w g i wr) (fun iv _ => n - (intOf iv).toNat)
  case atStart => exact ⟨0, rfl, Nat.zero_le _, unhide HS⟩
  case round =>
    obtain ⟨i, rfl, hi, I⟩ := hrel
    by_cases hi2 : i < n
    · have a1 : decide ((i : Int) < (n : Int)) = true := decide_eq_true (by omega)
      have a1p : (i : Int) < (n : Int) := by omega
      obtain ⟨r, hr⟩ := getE (l := rows) (i := i) (by rw [unhide HN]; exact hi2)
      obtain ⟨u, cu, hO, hK⟩ := I.row hr
      have CS := hide (spoil_any hO (unhide HR8 r (List.mem_of_getElem? hr)))
      have HK := hide (fun (w1 : World) (o1 : Only (fun k => u.ownBlock = some k) wr w1) => hK o1)
      obtain ⟨ua, uc, hus⟩ := hO.shape
      obtain ⟨rn, hrn⟩ : ∃ rn, r.length = rn := ⟨_, rfl⟩
      rw [hrn] at hus
      subst hus
      clear I hO hK hr hrn
      go_wp2_with fail
      refine (unhide CS).mono ?_
      rintro e w2 ⟨rfl, o2⟩
      obtain ⟨d0, f0, J⟩ := unhide HK w2 o2
      have HJ := hide J
      clear J o2 HK CS cu
      go_wp2_with fail
      go_roundw
      case rel => exact ⟨i + 1, by go_num, by omega, unhide HJ⟩
      case measure => simp [intOf]; omega
    · obtain rfl : i = n := by omega
      have a1 : decide ((i : Int) < (i : Int)) = false := by simp
      have HO2 := hide I.on
      clear I
      go_wp2_with fail
      go_end0
      exact ⟨rfl, unhide HO2⟩
end
end Go.Proofs.Qxb6500412aGreat
