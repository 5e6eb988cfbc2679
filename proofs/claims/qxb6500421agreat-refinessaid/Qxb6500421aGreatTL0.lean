/-
  OWN WORK. THE TREE LAW: SpoilBytes, SpoilEntries, SpoilInts, SameBytes, CopyEntries.
-/
import Derived.Test.Qxb6500421aGreatUPln
import Derived.Laws.BitsAllLaws
import Derived.Laws.MakeOwn
namespace Go.Proofs.Qxb6500421aGreat
open Go.RowKit Go.PlainAid
set_option linter.unusedSimpArgs false
set_option linter.unusedVariables false

def U8s (w : World) (g n : Nat) : Prop := ∀ j, j < n → ∃ x : Nat, x < 256 ∧ w.cell? ⟨g, j, none⟩ = some (.int .u8 (x : Int)) ∧ w.frozen? ⟨g, j, none⟩ = false
theorem U8s.lt {w : World} {g n : Nat} (h : U8s w g n) (hn : 0 < n) : g < w.heap.size := by
  obtain ⟨x, _, hc, _⟩ := h 0 hn
  exact World.block_lt_of_cell? w _ hc
theorem U8s.keep {S : Nat → Prop} {w w' : World} {g n : Nat} (h : U8s w g n) (ho : Only S w w') (hS : ¬ S g) : U8s w' g n := by
  intro j hj
  obtain ⟨x, h1, h2, h3⟩ := h j hj
  have hb := ho.block g (World.block_lt_of_cell? w _ h2) hS
  refine ⟨x, h1, ?_, ?_⟩
  · rw [World.cell?_of_block hb]; exact h2
  · have : w'.frozen? ⟨g, j, none⟩ = w.frozen? ⟨g, j, none⟩ := by simp [World.frozen?, hb]
    rw [this]; exact h3
theorem U8s.set {w : World} {g n : Nat} (h : U8s w g n) (i : Nat) (x : Nat) (hx : x < 256) : U8s (w.setCell ⟨g, i, none⟩ (.int .u8 (x : Int))) g n := by
  intro j hj
  obtain ⟨y, h1, h2, h3⟩ := h j hj
  by_cases e : j = i
  · subst e
    exact ⟨x, hx, World.cell?_setCell_same _ _ _ h2, by rw [World.frozen?_setCell]; exact h3⟩
  · refine ⟨y, h1, ?_, by rw [World.frozen?_setCell]; exact h3⟩
    rw [World.cell?_setCell_other w ⟨g, i, none⟩ ⟨g, j, none⟩ _ (fun he => e (Addr.mk.inj he).2.1.symm)]
    exact h2
theorem U8s.of {w : World} {g n : Nat} {x : Nat → Nat} (h : Has w g (tabV n (u8f x)) 5) (hx : ∀ j, j < n → x j < 256) : U8s w g n := by
  intro j hj
  refine ⟨x j, hx j hj, ?_, h.free j⟩
  rw [h.cell, u8_get _ _ _ hj]


set_option maxRecDepth 100000 in
theorem spoilB_nil (w : World) : Calls Tryz.prog 58 #[.slice none 0 0] w fun e w' => e = .returned (.tuple #[]) ∧ w = w' := by
  go_enter Tryz.func58, Tryz.ntmps58
  go_wp2_with fail
  go_loopw [2] (fun iv wr => iv = .int .i64 0 ∧ w = wr) (fun _ _ => 0)
  case atStart => exact ⟨rfl, rfl⟩
  case round =>
    obtain ⟨rfl, rfl⟩ := hrel
    go_wp2_with fail
    go_end0
    exact ⟨rfl, rfl⟩
theorem xor_lt (x : Nat) (h : x < 256) : x ^^^ 85 < 256 := Nat.xor_lt_two_pow (n := 8) h (by omega)
set_option maxRecDepth 100000 in
theorem spoilB_any {w : World} {g n cap : Nat} (h : U8s w g cap) (hn : n ≤ cap) (hc : cap ≤ 9223372036854775807) :
    Calls Tryz.prog 58 #[.slice (some ⟨g, 0, none⟩) n cap] w fun e w' => e = .returned (.tuple #[]) ∧ Only (fun k => k = g) w w' := by
  go_enter Tryz.func58, Tryz.ntmps58
  go_wp2_with fail
  go_loopw [2] (fun iv wr => ∃ i : Nat, i ≤ cap ∧ iv = .int .i64 i ∧ U8s wr g cap ∧ Only (fun k => k = g) w wr) (fun iv _ => cap - (intOf iv).toNat)
  case atStart => exact ⟨0, by omega, rfl, h, Only.refl _ _⟩
  case round =>
    clear h
    obtain ⟨i, hi, rfl, hu, ho⟩ := hrel
    by_cases hic : i < cap
    · obtain ⟨x, hx, hcell, hfz⟩ := hu i hic
      have a1 : decide ((i : Int) < (cap : Int)) = true := by simp; omega
      have a2 : (i : Int) < (cap : Int) := by omega
      have hxx : bits .xor .u8 (x : Int) 85 = ((x ^^^ 85 : Nat) : Int) := u8_xor_nat x 85 hx (by omega)
      have Hu := hide (hu.set i (x ^^^ 85) (xor_lt x hx))
      generalize x ^^^ 85 = y at *
      clear hu
      go_wp2_with fail
      go_roundw
      case rel => exact ⟨i + 1, by omega, by go_num, unhide Hu, ho.setCell (p := ⟨g, i, none⟩) (fun _ => rfl) _⟩
      case measure => simp [intOf]; omega
    · obtain rfl : i = cap := by omega
      have a1 : decide ((i : Int) < (i : Int)) = false := by simp
      go_wp2_with fail
      go_end0
      exact ⟨rfl, ho⟩
set_option maxRecDepth 100000 in
set_option maxHeartbeats 1000000 in
theorem spoilE_any {w : World} {v : Value} {l : List En} (h : OwnE w v l) :
    Calls Tryz.prog 65 #[v] w fun e w' => e = .returned (.tuple #[]) ∧ Only (fun k => v.ownBlock = some k) w w' := by
  rcases h.2 with ⟨rfl, _⟩ | ⟨g, cap, cur, rfl, _, hg, hn, hcap, hsz, _⟩
  · go_enter Tryz.func65, Tryz.ntmps65
    go_wp2_with fail
    go_loopw [2] (fun iv wr => iv = .int .i64 0 ∧ w = wr) (fun _ _ => 0)
    case atStart => exact ⟨rfl, rfl⟩
    case round =>
      obtain ⟨rfl, rfl⟩ := hrel
      go_wp2_with fail
      go_end0
      exact ⟨rfl, Only.refl _ _⟩
  · have hh : Has w g cur 67 := hg
    have hgl := hh.lt
    have hmax : cap ≤ 9223372036854775807 := Nat.le_trans hcap (by unfold maxLen; omega)
    have s0 : (0 : Int) ≤ (cap : Int) := by omega
    have s1 : (cap : Int) ≤ (cap : Int) := by omega
    have HH := hide hh
    clear hg h hh
    go_enter Tryz.func65, Tryz.ntmps65
    go_wp2_with fail
    go_loopw [2] (fun iv wr => ∃ (i : Nat) (cur' : Array Value), iv = .int .i64 i ∧ i ≤ cap ∧ Has wr g cur' 67 ∧ cur'.size = cap * 3 ∧ Only (fun k => k = g) w wr) (fun iv _ => cap - (intOf iv).toNat)
    case atStart => exact ⟨0, cur, rfl, by omega, unhide HH, hsz, Only.refl _ _⟩
    case round =>
      clear HH
      obtain ⟨i, cur', rfl, hi, hH, hs, ho⟩ := hrel
      have hgr := hH.lt
      by_cases hil : i < cap
      · have a1 : decide ((i : Int) < (cap : Int)) = true := by simp; omega
        have a2 : (i : Int) < (cap : Int) := by omega
        obtain ⟨v0, q0⟩ : ∃ v0, cur'[i * 3]? = some v0 := ⟨_, Array.getElem?_eq_getElem (by omega)⟩
        obtain ⟨v1, q1⟩ : ∃ v0, cur'[i * 3 + 1]? = some v0 := ⟨_, Array.getElem?_eq_getElem (by omega)⟩
        obtain ⟨v2, q2⟩ : ∃ v0, cur'[i * 3 + 2]? = some v0 := ⟨_, Array.getElem?_eq_getElem (by omega)⟩
        have c0 := hH.cell (i * 3)
        have c1 := hH.cell (i * 3 + 1)
        have c2 := hH.cell (i * 3 + 2)
        rw [q0] at c0
        rw [q1] at c1
        rw [q2] at c2
        have z0 := hH.free (i * 3)
        have z1 := hH.free (i * 3 + 1)
        have z2 := hH.free (i * 3 + 2)
        have H3 := hide (((hH.setCell (i * 3) (.string ⟨#[33]⟩)).setCell (i * 3 + 1) (.int .i64 (-1))).setCell (i * 3 + 2) (.int .i64 (-1)))
        have HO := hide (((ho.setCell (p := ⟨g, i * 3, none⟩) (fun _ => rfl) (.string ⟨#[33]⟩)).setCell (p := ⟨g, i * 3 + 1, none⟩) (fun _ => rfl) (.int .i64 (-1))).setCell (p := ⟨g, i * 3 + 2, none⟩) (fun _ => rfl) (.int .i64 (-1)))
        have hs2 : (((cur'.setIfInBounds (i * 3) (.string ⟨#[33]⟩)).setIfInBounds (i * 3 + 1) (.int .i64 (-1))).setIfInBounds (i * 3 + 2) (.int .i64 (-1))).size = cap * 3 := by simpa using hs
        clear q0 q1 q2 hH ho
        go_wp2_with fail
        go_roundw
        case rel => exact ⟨i + 1, _, by go_num, by omega, unhide H3, hs2, unhide HO⟩
        case measure => simp [intOf]; omega
      · have a1 : decide ((i : Int) < (cap : Int)) = false := by simp; omega
        have a1' : ¬ (i : Int) < (cap : Int) := by omega
        go_wp2_with fail
        go_end0
        exact ⟨rfl, ho.mono (fun k _ hk => by rw [hk]; rfl)⟩
set_option maxRecDepth 100000 in
set_option maxHeartbeats 1000000 in
theorem spoilI_any {w : World} {v : Value} {l : List Int} (h : OwnI w v l) :
    Calls Tryz.prog 72 #[v] w fun e w' => e = .returned (.tuple #[]) ∧ Only (fun k => v.ownBlock = some k) w w' := by
  rcases h.2 with ⟨rfl, _⟩ | ⟨g, cap, cur, rfl, _, hg, hn, hcap, hsz, _⟩
  · go_enter Tryz.func72, Tryz.ntmps72
    go_wp2_with fail
    go_loopw [2] (fun iv wr => iv = .int .i64 0 ∧ w = wr) (fun _ _ => 0)
    case atStart => exact ⟨rfl, rfl⟩
    case round =>
      obtain ⟨rfl, rfl⟩ := hrel
      go_wp2_with fail
      go_end0
      exact ⟨rfl, Only.refl _ _⟩
  · have hh : Has w g cur 3 := hg
    have hgl := hh.lt
    have hmax : cap ≤ 9223372036854775807 := Nat.le_trans hcap (by unfold maxLen; omega)
    have s0 : (0 : Int) ≤ (cap : Int) := by omega
    have s1 : (cap : Int) ≤ (cap : Int) := by omega
    have HH := hide hh
    clear hg h hh
    go_enter Tryz.func72, Tryz.ntmps72
    go_wp2_with fail
    go_loopw [2] (fun iv wr => ∃ (i : Nat) (cur' : Array Value), iv = .int .i64 i ∧ i ≤ cap ∧ Has wr g cur' 3 ∧ cur'.size = cap * 1 ∧ Only (fun k => k = g) w wr) (fun iv _ => cap - (intOf iv).toNat)
    case atStart => exact ⟨0, cur, rfl, by omega, unhide HH, hsz, Only.refl _ _⟩
    case round =>
      clear HH
      obtain ⟨i, cur', rfl, hi, hH, hs, ho⟩ := hrel
      have hgr := hH.lt
      by_cases hil : i < cap
      · have a1 : decide ((i : Int) < (cap : Int)) = true := by simp; omega
        have a2 : (i : Int) < (cap : Int) := by omega
        obtain ⟨v0, q0⟩ : ∃ v0, cur'[i]? = some v0 := ⟨_, Array.getElem?_eq_getElem (by omega)⟩
        have c0 := hH.cell i
        rw [q0] at c0
        have z0 := hH.free i
        have H3 := hide (hH.setCell i (.int .i64 (-1)))
        have HO := hide (ho.setCell (p := ⟨g, i, none⟩) (fun _ => rfl) (.int .i64 (-1)))
        have hs2 : (cur'.setIfInBounds i (.int .i64 (-1))).size = cap * 1 := by simpa using hs
        clear q0 hH ho
        go_wp2_with fail
        go_roundw
        case rel => exact ⟨i + 1, _, by go_num, by omega, unhide H3, hs2, unhide HO⟩
        case measure => simp [intOf]; omega
      · have a1 : decide ((i : Int) < (cap : Int)) = false := by simp; omega
        have a1' : ¬ (i : Int) < (cap : Int) := by omega
        go_wp2_with fail
        go_end0
        exact ⟨rfl, ho.mono (fun k _ hk => by rw [hk]; rfl)⟩
set_option maxRecDepth 100000 in
set_option maxHeartbeats 1000000 in
theorem tlsameB_any {w : World} (v u : Value) (x y : List Nat) (hx : BytesAt w v x.length (dF x)) (hy : BytesAt w u y.length (dF y)) (hlen : x.length ≤ 9223372036854775807) :
    Calls Tryz.prog 61 #[v, u] w fun e w' => e = .returned (.bool (decide (x = y))) ∧ Only (fun _ => False) w w' := by
  obtain ⟨va, vc, rfl, hxc⟩ := hx
  obtain ⟨ua, uc, rfl, hyc⟩ := hy
  by_cases hl : x.length = y.length
  · have hext := fun (h : ∀ j, j < x.length → dF x j = dF y j) => dF_ext hl h
    have Hext := hide hext
    rw [← hl] at hyc ⊢
    clear hext
    generalize hnx : x.length = n at *
    have n1 : ((n : Int) != (n : Int)) = false := by simp
    have Hnx := hide hnx
    clear hnx
    go_enter Tryz.func61, Tryz.ntmps61
    go_wp2_with fail
    go_loopw [5] (fun iv wr => ∃ i : Nat, i ≤ n ∧ iv = .int .i64 i ∧ (∀ j, j < i → dF x j = dF y j) ∧ Only (fun _ => False) w wr) (fun iv _ => n - (intOf iv).toNat)
    case atStart => exact ⟨0, by omega, rfl, fun j hj => by omega, Only.refl _ _⟩
    case round =>
      obtain ⟨i, hi, rfl, ha, ho⟩ := hrel
      have Ha := hide ha
      clear ha
      by_cases hin : i < n
      · obtain ⟨gx, rfl, hcx⟩ := hxc (by omega)
        obtain ⟨gy, rfl, hcy⟩ := hyc (by omega)
        have gxl : gx < w.heap.size := World.block_lt_of_cell? w _ (hcx 0 (by omega))
        have gyl : gy < w.heap.size := World.block_lt_of_cell? w _ (hcy 0 (by omega))
        have q1 : wr.cell? ⟨gx, i, none⟩ = some (.int .u8 (dF x i : Int)) := by rw [World.cell?_of_block (ho.block gx gxl (fun h => h))]; exact hcx i hin
        have q2 : wr.cell? ⟨gy, i, none⟩ = some (.int .u8 (dF y i : Int)) := by rw [World.cell?_of_block (ho.block gy gyl (fun h => h))]; exact hcy i hin
        have a1 : decide ((i : Int) < (n : Int)) = true := by simp; omega
        have a2 : (i : Int) < (n : Int) := by omega
        generalize hxx : dF x i = xx at *
        generalize hyy : dF y i = yy at *
        have Hx := hide hxx
        have Hy := hide hyy
        clear hxx hyy hcx hcy hxc hyc
        by_cases hxy : xx = yy
        · subst hxy
          have b1 : ((xx : Int) != (xx : Int)) = false := by simp
          go_wp2_with fail
          go_quiet (fail)
          go_wp2_with fail
          go_roundw
          case rel =>
            refine ⟨i + 1, by omega, by go_num, fun j hj => ?_, ho.drewO _⟩
            by_cases e : j = i
            · subst e; rw [unhide Hx, unhide Hy]
            · exact unhide Ha j (by omega)
          case measure => simp [intOf]; omega
        · have b1 : ((xx : Int) != (yy : Int)) = true := by simp; omega
          have hne : decide (x = y) = false := by
            simp
            intro e
            have h1 := unhide Hx
            rw [e, unhide Hy] at h1
            exact hxy h1.symm
          have Hne := hide hne
          clear hne
          go_wp2_with fail
          go_quiet (fail)
          go_wp2_with fail
          go_ret
          rw [unhide Hne]
          exact ⟨rfl, ho.drewO _⟩
      · obtain rfl : i = n := by omega
        have heq : decide (x = y) = true := by simpa using (unhide Hext) (unhide Ha)
        have Heq := hide heq
        have a1 : decide ((i : Int) < (i : Int)) = false := by simp
        have a1' : ¬ i < i := by omega
        clear heq
        go_wp2_with fail
        go_ret
        rw [unhide Heq]
        exact ⟨rfl, ho⟩
  · have hne : decide (x = y) = false := by
      simp
      intro e; rw [e] at hl; exact hl rfl
    rw [hne]
    generalize x.length = n at *
    generalize y.length = k at *
    have n1 : ((n : Int) != (k : Int)) = true := by simp; omega
    go_enter Tryz.func61, Tryz.ntmps61
    go_wp2_with fail
    go_ret
    exact ⟨rfl, Only.refl _ _⟩
end Go.Proofs.Qxb6500421aGreat
