/-
  OWN WORK. THE TABLE OF SUFFIX LENGTHS: blank, suffixes.
-/
import Derived.Test.Qxb6500416aDNum
namespace Go.Proofs.Qxb6500416a
open Go.RowKit Go.PlainAid
set_option linter.unusedSimpArgs false
set_option linter.unusedVariables false

theorem dzeros_tab (n : Nat) : ints (dzeros n) = tabV n (fun _ => .int .i64 ((0 : Nat) : Int)) := by
  apply Array.ext'
  unfold tabV ints dzeros
  apply List.ext_getElem (by simp)
  intro j h1 h2
  simp
set_option maxRecDepth 100000 in
set_option maxHeartbeats 1000000 in
theorem dblank_any (n k : Nat) (hn : n ≤ 2000) (hk : k ≤ 2000) (w : World) :
    Calls Try.prog 64 #[.int .i64 n, .int .i64 k] w fun e w' => e = .returned (.pointer (some ⟨w.heap.size, 0, none⟩)) ∧ TbAt w' w.heap.size (w.heap.size + 1) n k (fun _ => 0) ∧ Only (fun _ => False) w w' := by
  obtain ⟨N, hN⟩ : ∃ N, N = (n + 1) * (k + 1) := ⟨_, rfl⟩
  have hbig : (n + 1) * (k + 1) ≤ 2001 * 2001 := Nat.mul_le_mul (by omega) (by omega)
  have hmul : ((n : Int) + 1) * ((k : Int) + 1) = (N : Int) := by rw [hN]; push_cast; rfl
  have hm : ∀ w, (Instr.makeSlice 50 (.int .i64 (N : Int)) (.int .i64 (N : Int))).run Try.prog w = .ok (.slice (some ⟨w.heap.size, 0, none⟩) N N) (w.alloc (.cells (ints (dzeros N)) 3)) := fun w => drun_make_ints w N (by omega)
  have hA := Has.new w #[.int .i64 ((k : Int) + 1), .slice (some ⟨w.heap.size + 1, 0, none⟩) N N] 120
  have hB := hA.alloc (.cells (ints (dzeros N)) 3)
  have hG := Has.new' (w.alloc (.cells #[.int .i64 ((k : Int) + 1), .slice (some ⟨w.heap.size + 1, 0, none⟩) N N] 120)) (ints (dzeros N)) 3 (w.heap.size + 1) (by simp)
  have ho : Only (fun _ => False) w ((w.alloc (.cells #[.int .i64 ((k : Int) + 1), .slice (some ⟨w.heap.size + 1, 0, none⟩) N N] 120)).alloc (.cells (ints (dzeros N)) 3)) := ((Only.refl _ w).alloc _).alloc _
  have hR : TbAt ((w.alloc (.cells #[.int .i64 ((k : Int) + 1), .slice (some ⟨w.heap.size + 1, 0, none⟩) N N] 120)).alloc (.cells (ints (dzeros N)) 3)) w.heap.size (w.heap.size + 1) n k (fun _ => 0) := by
    refine ⟨?_, ?_, by omega⟩
    · rw [← hN]
      exact hB
    · rw [← hN, ← dzeros_tab]
      exact hG
  have HR := hide (And.intro hR ho)
  have hNb : N ≤ 4004001 := by omega
  clear hN hbig hA hB hG ho hR
  go_enter Try.func64, Try.ntmps64
  go_wp2_with fail
  go_ret
  exact ⟨rfl, unhide HR⟩
/-- A row of ints somewhere in an array. -/
def IntsS (w : World) (v : Value) (l : List Int) : Prop := ∃ a cap, v = .slice a l.length cap ∧ (0 < l.length → ∃ g o, a = some ⟨g, o, none⟩ ∧ ∀ i (h : i < l.length), w.cell? ⟨g, o + i, none⟩ = some (.int .i64 l[i]))
theorem IntsS.at {w W : World} {a : Option Addr} {l : List Int} (hc : 0 < l.length → ∃ g o, a = some ⟨g, o, none⟩ ∧ ∀ i (h : i < l.length), w.cell? ⟨g, o + i, none⟩ = some (.int .i64 l[i])) (ho : Only (fun _ => False) w W) (j : Nat) (hj : j < l.length) :
    ∃ g o, a = some ⟨g, o, none⟩ ∧ g < W.heap.size ∧ W.cell? ⟨g, o + j, none⟩ = some (.int .i64 l[j]) := by
  obtain ⟨g, o, rfl, h⟩ := hc (by omega)
  have c0 := h j hj
  have hgl : g < w.heap.size := World.block_lt_of_cell? w _ c0
  have hbk := ho.block g hgl (fun h => h)
  rw [← World.cell?_of_block hbk] at c0
  exact ⟨g, o, rfl, Nat.lt_of_lt_of_le hgl ho.size, c0⟩
section
variable {w : World} {t g n k : Nat} {T : Nat → Nat → Nat}
theorem tabAt_n (h : TbAt w t g n k (flatF T (k + 1))) (i j : Nat) (ii jj : Int) (ei : ii = (i : Int)) (ej : jj = (j : Int)) (hi : i ≤ n) (hj : j ≤ k) (hn : n ≤ 2000) (hk : k ≤ 2000) :
    Calls Try.prog 56 #[.pointer (some ⟨t, 0, none⟩), .int .i64 ii, .int .i64 jj] w fun e w' => e = .returned (.int .i64 (T i j : Int)) ∧ Only (fun _ => False) w w' := by
  subst ei
  subst ej
  have := tabAt_any h i j hi hj hn hk
  rw [flatF_at _ _ _ _ hj] at this
  exact this
theorem tabSet_n (h : TbAt w t g n k (flatF T (k + 1))) (i j v : Nat) (ii jj vv : Int) (ei : ii = (i : Int)) (ej : jj = (j : Int)) (ev : vv = (v : Int)) (hi : i ≤ n) (hj : j ≤ k) (hn : n ≤ 2000) (hk : k ≤ 2000) :
    Calls Try.prog 65 #[.pointer (some ⟨t, 0, none⟩), .int .i64 ii, .int .i64 jj, .int .i64 vv] w fun e w' => e = .returned (.tuple #[]) ∧ TbAt w' t g n k (flatF (upd2 T i j v) (k + 1)) ∧ Only (fun x => x = g) w w' := by
  subst ei
  subst ej
  subst ev
  have := tabSet_any h i j v hi hj hn hk
  rw [flatF_set _ _ _ _ _ hj] at this
  exact this
end
/-- The table in the midst of its filling. -/
structure SfI (w : World) (X Y : List Int) (t g i j : Nat) (T : Nat → Nat → Nat) (wr : World) : Prop where
  tb : TbAt wr t g X.length Y.length (flatF T (Y.length + 1))
  dn : Done X Y T i j
  ho : Only (fun _ => False) w wr
  tl : w.heap.size ≤ t
  gl : w.heap.size ≤ g
theorem SfI.quiet {w : World} {X Y : List Int} {t g i j : Nat} {T : Nat → Nat → Nat} {wr w' : World} (h : SfI w X Y t g i j T wr) (ho : Only (fun _ => False) wr w') : SfI w X Y t g i j T w' :=
  ⟨h.tb.keep ho (fun h => h) (fun h => h), h.dn, h.ho.trans ho (fun _ _ h => h), h.tl, h.gl⟩
theorem SfI.put {w : World} {X Y : List Int} {t g i j v : Nat} {T : Nat → Nat → Nat} {wr w' : World} (h : SfI w X Y t g i (j + 1) T wr) (hi : i < X.length) (hj : j < Y.length) (hv : v = lcs (X.drop i) (Y.drop j)) (htb : TbAt w' t g X.length Y.length (flatF (upd2 T i j v) (Y.length + 1))) (ho : Only (fun x => x = g) wr w') : SfI w X Y t g i j (upd2 T i j v) w' :=
  ⟨htb, h.dn.set hi hj hv, h.ho.trans ho (fun k hk e => by have := h.gl; omega), h.tl, h.gl⟩
set_option maxRecDepth 100000 in
set_option maxHeartbeats 4000000 in
theorem dsuffixes_any {w : World} (v u : Value) (X Y : List Int) (hX : IntsS w v X) (hY : IntsS w u Y) (hx : X.length ≤ 2000) (hy : Y.length ≤ 2000) :
    Calls Try.prog 55 #[v, u] w fun e w' => ∃ t g T, e = .returned (.pointer (some ⟨t, 0, none⟩)) ∧ SfI w X Y t g 0 0 T w' := by
  obtain ⟨a, ca, rfl, hca⟩ := hX
  obtain ⟨b, cb, rfl, hcb⟩ := hY
  have C0 := hide (dblank_any X.length Y.length hx hy w)
  have HA := hide hca
  have HB := hide hcb
  clear hca hcb
  go_enter Try.func55, Try.ntmps55
  go_wp2_with fail
  refine (unhide C0).mono ?_
  rintro e w0 ⟨rfl, htb, ho0⟩
  have hs0 : SfI w X Y w.heap.size (w.heap.size + 1) X.length 0 (fun _ _ => 0) w0 := ⟨htb, Done.start X Y _ (Nat.le_refl _), ho0, by omega, by omega⟩
  have HS0 := hide hs0
  obtain ⟨t, ht⟩ : ∃ t, t = w.heap.size := ⟨_, rfl⟩
  obtain ⟨g, hg⟩ : ∃ g, g = w.heap.size + 1 := ⟨_, rfl⟩
  rw [← hg, ← ht] at HS0
  rw [← ht]
  clear htb ho0 hs0 C0 ht hg
  go_wp2_with fail
  go_loopw [6] (fun iv wr => ∃ (i : Nat) (z : Int) (T : Nat → Nat → Nat), iv = .int .i64 z ∧ z = (i : Int) - 1 ∧ i ≤ X.length ∧ SfI w X Y t g i 0 T wr) (fun iv _ => (intOf iv + 1).toNat)
  case atStart => exact ⟨X.length, _, _, rfl, rfl, by omega, unhide HS0⟩
  case round =>
    clear HS0
    obtain ⟨i, z, T, rfl, hz, hi, hI⟩ := hrel
    cases i with
    | zero =>
      obtain rfl : z = -1 := by omega
      have HI := hide hI
      clear hI hz
      go_wp2_with fail
      go_ret
      exact ⟨t, g, T, rfl, unhide HI⟩
    | succ i =>
      obtain rfl : z = (i : Int) := by omega
      have hil : i < X.length := by omega
      have a1 : decide ((0 : Int) ≤ (i : Int)) = true := by simp
      have a2 : (i : Int) < (X.length : Int) := by omega
      have hI0 : SfI w X Y t g i Y.length T wr := ⟨hI.tb, hI.dn.row, hI.ho, hI.tl, hI.gl⟩
      have HI0 := hide hI0
      clear hI hI0 hz
      go_wp2_with fail
      go_loopw [7] (fun jv wr => ∃ (j : Nat) (z : Int) (T : Nat → Nat → Nat), jv = .int .i64 z ∧ z = (j : Int) - 1 ∧ j ≤ Y.length ∧ SfI w X Y t g i j T wr) (fun jv _ => (intOf jv + 1).toNat)
      case atStart => exact ⟨Y.length, _, _, rfl, rfl, by omega, unhide HI0⟩
      case round =>
        clear HI0
        obtain ⟨j, z, T, rfl, hz, hj, hI⟩ := hrel
        cases j with
        | zero =>
          obtain rfl : z = -1 := by omega
          have HI := hide hI
          clear hI hz
          go_wp2_with fail
          go_roundw
          case rel => exact ⟨i, _, T, rfl, by omega, by omega, unhide HI⟩
          case measure => simp [intOf]; try omega
        | succ j =>
          obtain rfl : z = (j : Int) := by omega
          have hjl : j < Y.length := by omega
          have b1 : decide ((0 : Int) ≤ (j : Int)) = true := by simp
          have b2 : (j : Int) < (Y.length : Int) := by omega
          obtain ⟨gx, ox, rfl, hgx, c0⟩ := IntsS.at (unhide HA) hI.ho i hil
          obtain ⟨gy, oy, rfl, hgy, d0⟩ := IntsS.at (unhide HB) hI.ho j hjl
          have HI := hide hI
          clear hz
          by_cases he : X[i] = Y[j]
          · have e1 : (X[i] == Y[j]) = true := by simpa using he
            have hv := lcs_eqs hil hjl he
            have hlb := lcs_le _ (X.drop (i + 1)) (Y.drop (j + 1)) (Nat.le_refl _)
            rw [List.length_drop] at hlb
            have hT := hI.dn.get (a := i + 1) (b := j + 1) (by omega) (by omega) (by omega)
            have C1 := hide (fun W (hW : Only (fun _ => False) wr W) ii jj ei ej => tabAt_n (hI.quiet hW).tb (i + 1) (j + 1) ii jj ei ej (by omega) (by omega) hx hy)
            rw [hT] at C1
            generalize lcs (X.drop (i + 1)) (Y.drop (j + 1)) = v at *
            have C2 := hide (fun W (hW : Only (fun _ => False) wr W) ii jj vv ei ej ev => tabSet_n (hI.quiet hW).tb i j (v + 1) ii jj vv ei ej ev (by omega) (by omega) hx hy)
            have HP := hide (fun W W' (hW : Only (fun _ => False) wr W) htb ho => (hI.quiet hW).put (w' := W') hil hjl hv.symm htb ho)
            generalize X[i] = x at *
            generalize Y[j] = y at *
            clear hI he hv hT HI
            go_wp2_with fail
            go_quiet (fail)
            have hoq := (Only.refl (fun _ => False) wr).drewO nq
            generalize wr.drewN nq = W1 at *
            go_wp2_with fail
            refine (unhide C1 W1 hoq _ _ (by push_cast; rfl) (by push_cast; rfl)).mono ?_
            rintro e w2 ⟨rfl, ho2⟩
            have hoq2 := hoq.trans ho2 (fun _ _ h => h)
            go_wp2_with fail
            refine (unhide C2 w2 hoq2 _ _ _ rfl rfl (by push_cast; rfl)).mono ?_
            rintro e w3 ⟨rfl, htb, ho3⟩
            have H3 := hide (unhide HP w2 w3 hoq2 htb ho3)
            clear htb ho3 HP C1 C2
            go_wp2_with fail
            go_roundw
            case rel => exact ⟨j, _, _, rfl, rfl, by omega, unhide H3⟩
            case measure => simp [intOf]; try omega
          · have e1 : (X[i] == Y[j]) = false := by simpa using he
            have hv := lcs_nes hil hjl he
            have hlb1 := lcs_le _ (X.drop (i + 1)) (Y.drop j) (Nat.le_refl _)
            have hlb2 := lcs_le _ (X.drop i) (Y.drop (j + 1)) (Nat.le_refl _)
            rw [List.length_drop] at hlb1 hlb2
            have hT1 := hI.dn.get (a := i + 1) (b := j) (by omega) (by omega) (by omega)
            have hT2 := hI.dn.get (a := i) (b := j + 1) (by omega) (by omega) (by omega)
            have C1 := hide (fun W (hW : Only (fun _ => False) wr W) ii jj ei ej => tabAt_n (hI.quiet hW).tb (i + 1) j ii jj ei ej (by omega) (by omega) hx hy)
            rw [hT1] at C1
            have C1b := hide (fun W (hW : Only (fun _ => False) wr W) ii jj ei ej => tabAt_n (hI.quiet hW).tb i (j + 1) ii jj ei ej (by omega) (by omega) hx hy)
            rw [hT2] at C1b
            generalize lcs (X.drop (i + 1)) (Y.drop j) = v1 at *
            generalize lcs (X.drop i) (Y.drop (j + 1)) = v2 at *
            have C2 := hide (fun (v : Nat) W (hW : Only (fun _ => False) wr W) ii jj vv ei ej ev => tabSet_n (hI.quiet hW).tb i j v ii jj vv ei ej ev (by omega) (by omega) hx hy)
            have HP := hide (fun (v : Nat) (ev : v = max v1 v2) W W' (hW : Only (fun _ => False) wr W) htb ho => (hI.quiet hW).put (w' := W') (v := v) hil hjl (ev.trans hv.symm) htb ho)
            generalize X[i] = x at *
            generalize Y[j] = y at *
            clear hI he hv hT1 hT2 HI
            go_wp2_with fail
            go_quiet (fail)
            have hoq := (Only.refl (fun _ => False) wr).drewO nq
            generalize wr.drewN nq = W1 at *
            go_wp2_with fail
            refine (unhide C1 W1 hoq _ _ (by push_cast; rfl) rfl).mono ?_
            rintro e w2 ⟨rfl, ho2⟩
            have hoq2 := hoq.trans ho2 (fun _ _ h => h)
            go_wp2_with fail
            refine (unhide C1b w2 hoq2 _ _ rfl (by push_cast; rfl)).mono ?_
            rintro e w3 ⟨rfl, ho3⟩
            have hoq3 := hoq2.trans ho3 (fun _ _ h => h)
            by_cases hgt : v1 < v2
            · have g1 : decide ((v1 : Int) < (v2 : Int)) = true := by simp; omega
              have g2 : (v1 : Int) < (v2 : Int) := by omega
              have HQ := hide (unhide HP v2 (by omega))
              go_wp2_with fail
              refine (unhide C2 v2 w3 hoq3 _ _ _ rfl rfl rfl).mono ?_
              rintro e w4 ⟨rfl, htb, ho4⟩
              have H3 := hide (unhide HQ w3 w4 hoq3 htb ho4)
              clear htb ho4 HP HQ C1 C1b C2
              go_wp2_with fail
              go_roundw
              case rel => exact ⟨j, _, _, rfl, rfl, by omega, unhide H3⟩
              case measure => simp [intOf]; try omega
            · have g1 : decide ((v1 : Int) < (v2 : Int)) = false := by simp; omega
              have g2 : ¬ (v1 : Int) < (v2 : Int) := by omega
              have HQ := hide (unhide HP v1 (by omega))
              go_wp2_with fail
              refine (unhide C2 v1 w3 hoq3 _ _ _ rfl rfl rfl).mono ?_
              rintro e w4 ⟨rfl, htb, ho4⟩
              have H3 := hide (unhide HQ w3 w4 hoq3 htb ho4)
              clear htb ho4 HP HQ C1 C1b C2
              go_wp2_with fail
              go_roundw
              case rel => exact ⟨j, _, _, rfl, rfl, by omega, unhide H3⟩
              case measure => simp [intOf]; try omega
end Go.Proofs.Qxb6500416a
