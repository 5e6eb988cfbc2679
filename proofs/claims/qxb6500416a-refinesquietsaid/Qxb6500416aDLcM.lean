/-
  OWN WORK. THE DEFINITIONS: Lcs.
-/
import Derived.Test.Qxb6500416aDFit
namespace Go.Proofs.Qxb6500416a
open Go.RowKit Go.PlainAid
set_option linter.unusedSimpArgs false
set_option linter.unusedVariables false

theorem Try.infoInts : (Try.prog.info? 50).map (fun i => (i.zero, i.size, i.bytes)) = some (some (.slice none 0 0), 1, 24) := by kernel_rfl
theorem drun_make_intss (w : World) (n : Nat) (hn : n ≤ 1000000) :
    (Instr.makeSlice 121 (.int .i64 n) (.int .i64 n)).run Try.prog w = .ok (.slice (some ⟨w.heap.size, 0, none⟩) n n) (w.alloc (.cells (tabV n (fun _ => .slice none 0 0)) 50)) := by
  obtain ⟨i, hi, hz, hs, hb⟩ := info_parts Try.infoInts
  have := run_make (P := Try.prog) w 121 50 i _ Try.underlying121 hi hz .i64 .i64 (n : Int) (n : Int) (by omega) (by omega) (by rw [hb]; omega) (by omega)
  rw [this]
  have e : tabV n (fun _ => Value.slice none 0 0) = Array.replicate n (Value.slice none 0 0) := by
    apply Array.ext'
    unfold tabV
    apply List.ext_getElem (by simp)
    intro j h1 h2
    simp
  simp [hs, Value.cells, madeCells_oneD, e]
def lrow (i : Nat) (b : Nat → Nat) (k1 : Nat) (a : Nat) : Value := if a < i then .slice (some ⟨b a, 0, none⟩) k1 k1 else .slice none 0 0
def zrow (k1 : Nat) : Array Value := tabV k1 (fun _ => .int .i64 ((0 : Nat) : Int))
def trow (T : Nat → Nat → Nat) (i k1 : Nat) : Array Value := tabV k1 (fun j => .int .i64 (T i j : Int))
/-- The rows as they are made. -/
structure LcI (w : World) (gt n1 k1 i : Nat) (b : Nat → Nat) (wr : World) : Prop where
  rows : Has wr gt (tabV n1 (lrow i b k1)) 50
  cs : ∀ a, a < i → Has wr (b a) (zrow k1) 3
  lo : ∀ a, a < i → w.heap.size ≤ b a
  inj : ∀ a c, a < i → c < i → b a = b c → a = c
  gl : w.heap.size ≤ gt
  ho : Only (fun _ => False) w wr
theorem LcI.step {w : World} {gt n1 k1 i : Nat} {b : Nat → Nat} {wr : World} (h : LcI w gt n1 k1 i b wr) (hi : i < n1) :
    LcI w gt n1 k1 (i + 1) (updT b i wr.heap.size) ((wr.alloc (.cells (zrow k1) 3)).setCell ⟨gt, i, none⟩ (.slice (some ⟨wr.heap.size, 0, none⟩) k1 k1)) := by
  have hs := h.ho.size
  have hgl := h.rows.lt
  have oS := donly1 (w := wr.alloc (.cells (zrow k1) 3)) (p := gt) i (.slice (some ⟨wr.heap.size, 0, none⟩) k1 k1)
  refine ⟨?_, ?_, ?_, ?_, h.gl, ?_⟩
  · have := (h.rows.alloc (.cells (zrow k1) 3)).setCell i (.slice (some ⟨wr.heap.size, 0, none⟩) k1 k1)
    rw [tabV_set] at this
    rw [tabV_congr n1 (g := fun j => if j = i then .slice (some ⟨wr.heap.size, 0, none⟩) k1 k1 else lrow i b k1 j)]
    · exact this
    · intro j hj
      unfold lrow
      by_cases e : j = i
      · rw [if_pos e, if_pos (by omega), e, updT_same]
      · rw [if_neg e, updT_other _ _ _ _ e]
        by_cases hl : j < i
        · rw [if_pos hl, if_pos (by omega)]
        · rw [if_neg hl, if_neg (by omega)]
  · intro a ha
    by_cases e : a = i
    · rw [e, updT_same]
      exact (Has.new wr _ _).keep oS (fun ee => by omega)
    · rw [updT_other _ _ _ _ e]
      have := h.cs a (by omega)
      exact (this.alloc _).keep oS (fun ee => this.ne h.rows (by decide) ee)
  · intro a ha
    by_cases e : a = i
    · rw [e, updT_same]; exact hs
    · rw [updT_other _ _ _ _ e]; exact h.lo a (by omega)
  · intro a c ha hc he
    by_cases ea : a = i
    · by_cases ec : c = i
      · omega
      · rw [ea, updT_same, updT_other _ _ _ _ ec] at he
        have := (h.cs c (by omega)).lt
        omega
    · by_cases ec : c = i
      · rw [ec, updT_same, updT_other _ _ _ _ ea] at he
        have := (h.cs a (by omega)).lt
        omega
      · rw [updT_other _ _ _ _ ea, updT_other _ _ _ _ ec] at he
        exact h.inj a c (by omega) (by omega) he
  · exact (h.ho.alloc _).trans oS (fun y hy e => by have := h.gl; omega)
/-- The table as it is filled. -/
structure LcAt (w : World) (gt n k : Nat) (b : Nat → Nat) (T : Nat → Nat → Nat) (wr : World) : Prop where
  rows : Has wr gt (tabV (n + 1) (lrow (n + 1) b (k + 1))) 50
  cs : ∀ a, a ≤ n → Has wr (b a) (trow T a (k + 1)) 3
  lo : ∀ a, a ≤ n → w.heap.size ≤ b a
  inj : ∀ a c, a ≤ n → c ≤ n → b a = b c → a = c
  gl : w.heap.size ≤ gt
  ho : Only (fun _ => False) w wr
section
variable {w : World} {gt n k : Nat} {b : Nat → Nat} {T : Nat → Nat → Nat} {wr : World}
theorem LcAt.row (h : LcAt w gt n k b T wr) (i : Nat) (hi : i ≤ n) : wr.cell? ⟨gt, i, none⟩ = some (.slice (some ⟨b i, 0, none⟩) (k + 1) (k + 1)) := by
  rw [h.rows.cell, tabV_get _ _ _ (by omega)]
  unfold lrow
  rw [if_pos (by omega)]
theorem LcAt.get (h : LcAt w gt n k b T wr) (i j : Nat) (hi : i ≤ n) (hj : j ≤ k) : wr.cell? ⟨b i, j, none⟩ = some (.int .i64 (T i j : Int)) := by
  rw [(h.cs i hi).cell]
  unfold trow
  rw [tabV_get _ _ _ (by omega)]
theorem LcAt.keep {S : Nat → Prop} {w' : World} (h : LcAt w gt n k b T wr) (ho : Only S wr w') (hS : ∀ y, w.heap.size ≤ y → ¬ S y) (hS' : ∀ y, ¬ S y ∨ w.heap.size ≤ y) : LcAt w gt n k b T w' :=
  ⟨h.rows.keep ho (hS gt h.gl), fun a ha => (h.cs a ha).keep ho (hS _ (h.lo a ha)), h.lo, h.inj, h.gl, h.ho.trans ho (fun y hy e => by rcases hS' y with h | h; exact h e; omega)⟩
theorem LcAt.quiet {w' : World} (h : LcAt w gt n k b T wr) (ho : Only (fun _ => False) wr w') : LcAt w gt n k b T w' := h.keep ho (fun _ _ h => h) (fun _ => .inl (fun h => h))
theorem LcAt.set (h : LcAt w gt n k b T wr) (i j v : Nat) (hi : i ≤ n) (hj : j ≤ k) : LcAt w gt n k b (upd2 T i j v) (wr.setCell ⟨b i, j, none⟩ (.int .i64 (v : Int))) := by
  have oS := donly1 (w := wr) (p := b i) j (.int .i64 (v : Int))
  refine ⟨h.rows.keep oS (fun e => (h.cs i hi).ne h.rows (by decide) e.symm), ?_, h.lo, h.inj, h.gl, h.ho.trans oS (fun y hy e => by have := h.lo i hi; omega)⟩
  intro a ha
  by_cases e : a = i
  · subst e
    have := (h.cs a ha).setCell j (.int .i64 (v : Int))
    unfold trow at this ⊢
    rw [tabV_set] at this
    rw [tabV_congr (k + 1) (g := fun c => if c = j then Value.int .i64 (v : Int) else .int .i64 (T a c : Int))]
    · exact this
    · intro c hc
      unfold upd2
      by_cases ec : c = j
      · rw [if_pos ec, if_pos ⟨rfl, ec⟩]
      · rw [if_neg ec, if_neg (fun h => ec h.2)]
  · have := (h.cs a ha).keep oS (fun ee => e (h.inj a i ha hi ee))
    have e2 : trow (upd2 T i j v) a (k + 1) = trow T a (k + 1) := by
      unfold trow upd2
      apply tabV_congr
      intro c hc
      rw [if_neg (fun h => e h.1)]
    rw [e2]
    exact this
end
theorem LcI.done {w : World} {gt n k : Nat} {b : Nat → Nat} {wr : World} (h : LcI w gt (n + 1) (k + 1) (n + 1) b wr) : LcAt w gt n k b (fun _ _ => 0) wr :=
  ⟨h.rows, fun a ha => h.cs a (by omega), fun a ha => h.lo a (by omega), fun a c ha hc => h.inj a c (by omega) (by omega), h.gl, h.ho⟩
set_option maxRecDepth 100000 in
set_option maxHeartbeats 8000000 in
theorem lcs_any {w : World} (v u : Value) (A B : List Str) (hA : LnIn w v A) (hB : LnIn w u B) (ha : A.length ≤ 2000) (hb : B.length ≤ 2000) :
    Calls Try.prog 66 #[v, u] w fun e w' => ∃ gt b T, e = .returned (.slice (some ⟨gt, 0, none⟩) (A.length + 1) (A.length + 1)) ∧ LcAt w gt A.length B.length b T w' ∧ Done A B T 0 0 := by
  obtain ⟨aa, ca, rfl, hca⟩ := hA.parts
  obtain ⟨ba, cb, rfl, hcb⟩ := hB.parts
  have HA := hide hca
  have HB := hide hcb
  have hm : (Instr.makeSlice 121 (.int .i64 ((A.length : Int) + 1)) (.int .i64 ((A.length : Int) + 1))).run Try.prog w = .ok (.slice (some ⟨w.heap.size, 0, none⟩) (A.length + 1) (A.length + 1)) (w.alloc (.cells (tabV (A.length + 1) (fun _ => .slice none 0 0)) 50)) := by
    have := drun_make_intss w (A.length + 1) (by omega)
    push_cast at this
    exact this
  have hz : ∀ W : World, (Instr.makeSlice 50 (.int .i64 ((B.length : Int) + 1)) (.int .i64 ((B.length : Int) + 1))).run Try.prog W = .ok (.slice (some ⟨W.heap.size, 0, none⟩) (B.length + 1) (B.length + 1)) (W.alloc (.cells (zrow (B.length + 1)) 3)) := fun W => by
    have := drun_make_ints W (B.length + 1) (by omega)
    push_cast at this
    rw [dzeros_tab] at this
    exact this
  have hi0 : LcI w w.heap.size (A.length + 1) (B.length + 1) 0 (fun _ => 0) (w.alloc (.cells (tabV (A.length + 1) (fun _ => .slice none 0 0)) 50)) := by
    refine ⟨?_, fun a h => by omega, fun a h => by omega, fun a c h => by omega, Nat.le_refl _, (Only.refl _ _).alloc _⟩
    have : tabV (A.length + 1) (lrow 0 (fun _ => 0) (B.length + 1)) = tabV (A.length + 1) (fun _ => .slice none 0 0) := tabV_congr _ (fun i hi => by unfold lrow; rw [if_neg (by omega)])
    rw [this]
    exact Has.new w _ _
  have HI0 := hide hi0
  clear hca hcb hA hB hi0
  go_enter Try.func66, Try.ntmps66
  go_wp2_with fail
  obtain ⟨gt, hgt⟩ : ∃ gt, gt = w.heap.size := ⟨_, rfl⟩
  rw [← hgt]
  rw [← hgt] at HI0
  generalize w.alloc (.cells (tabV (A.length + 1) (fun _ => .slice none 0 0)) 50) = W0 at *
  clear hm hgt
  go_loopw [6] (fun iv wr => ∃ (i : Nat) (b : Nat → Nat), iv = .int .i64 i ∧ i ≤ A.length + 1 ∧ LcI w gt (A.length + 1) (B.length + 1) i b wr) (fun iv _ => (A.length + 1) - (intOf iv).toNat)
  case atStart => exact ⟨0, _, rfl, by omega, unhide HI0⟩
  case round =>
    clear HI0
    obtain ⟨i, b, rfl, hi, hI⟩ := hrel
    by_cases hil : i ≤ A.length
    · have a1 : decide ((i : Int) ≤ (A.length : Int)) = true := decide_eq_true (by omega)
      have a2 : (i : Int) < (A.length : Int) + 1 := by omega
      have hr := (hI.rows.alloc (.cells (zrow (B.length + 1)) 3))
      have c0 := hr.cell i
      rw [tabV_get _ _ _ (by omega)] at c0
      have f0 := hr.free i
      have hgl := hI.rows.lt
      have hN := hI.step (by omega)
      rw [World.setCell_alloc_past _ _ _ _ hgl] at hN
      have HN := hide hN
      clear hN
      generalize lrow i b (B.length + 1) i = lv at *
      clear hI hr
      go_wp2_with fail
      go_roundw
      case rel => exact ⟨i + 1, _, by go_num, by omega, unhide HN⟩
      case measure => simp [intOf]; omega
    · have a1 : decide ((i : Int) ≤ (A.length : Int)) = false := decide_eq_false (by omega)
      have ei : i = A.length + 1 := by omega
      subst ei
      have H1 := hide (And.intro hI.done (Done.start A B A.length (Nat.le_refl _)))
      clear hI hi hil hz
      go_wp2_with fail
      go_loopw [7] (fun iv wr => ∃ (i : Nat) (z : Int) (T : Nat → Nat → Nat), iv = .int .i64 z ∧ z = (i : Int) - 1 ∧ i ≤ A.length ∧ LcAt w gt A.length B.length b T wr ∧ Done A B T i 0) (fun iv _ => (intOf iv + 1).toNat)
      case atStart => exact ⟨A.length, _, _, rfl, rfl, by omega, unhide H1⟩
      case round =>
        clear H1
        obtain ⟨i, z, T, rfl, hz, hi, hI, hD⟩ := hrel
        cases i with
        | zero =>
          obtain rfl : z = -1 := by omega
          have HI := hide (And.intro hI hD)
          clear hI hD hz
          go_wp2_with fail
          go_ret
          exact ⟨gt, b, T, rfl, unhide HI⟩
        | succ i =>
          obtain rfl : z = (i : Int) := by omega
          have hil : i < A.length := by omega
          have a1 : decide ((0 : Int) ≤ (i : Int)) = true := decide_eq_true (by omega)
          have a2 : (i : Int) < (A.length : Int) := by omega
          have a3 : (i : Int) + 1 < (A.length : Int) + 1 := by omega
          have a4 : (i : Int) < (A.length : Int) + 1 := by omega
          have HI0 := hide (And.intro hI hD.row)
          clear hI hD hz
          go_wp2_with fail
          go_loopw [8] (fun jv wr => ∃ (j : Nat) (z : Int) (T : Nat → Nat → Nat), jv = .int .i64 z ∧ z = (j : Int) - 1 ∧ j ≤ B.length ∧ LcAt w gt A.length B.length b T wr ∧ Done A B T i j) (fun jv _ => (intOf jv + 1).toNat)
          case atStart => exact ⟨B.length, _, _, rfl, rfl, by omega, unhide HI0⟩
          case round =>
            clear HI0
            obtain ⟨j, z, T, rfl, hz, hj, hI, hD⟩ := hrel
            cases j with
            | zero =>
              obtain rfl : z = -1 := by omega
              have HI := hide (And.intro hI hD)
              clear hI hD hz
              go_wp2_with fail
              go_roundw
              case rel => exact ⟨i, _, T, rfl, by omega, by omega, unhide HI⟩
              case measure => simp [intOf]; try omega
            | succ j =>
              obtain rfl : z = (j : Int) := by omega
              have hjl : j < B.length := by omega
              have b1 : decide ((0 : Int) ≤ (j : Int)) = true := decide_eq_true (by omega)
              have b2 : (j : Int) < (B.length : Int) := by omega
              have b3 : (j : Int) + 1 < (B.length : Int) + 1 := by omega
              have b4 : (j : Int) < (B.length : Int) + 1 := by omega
              obtain ⟨ga, rfl, hga, x0⟩ := LnIn.get (unhide HA) hI.ho i hil
              obtain ⟨gb, rfl, hgb, y0⟩ := LnIn.get (unhide HB) hI.ho j hjl
              have r0 := hI.row i (by omega)
              have r1 := hI.row (i + 1) (by omega)
              have t1 := hI.get (i + 1) (j + 1) (by omega) (by omega)
              have t2 := hI.get (i + 1) j (by omega) (by omega)
              have t3 := hI.get i (j + 1) (by omega) (by omega)
              have t0 := hI.get i j (by omega) (by omega)
              have f0 := (hI.cs i (by omega)).free j
              have gl0 := hI.rows.lt
              have gl1 := (hI.cs i (by omega)).lt
              have gl2 := (hI.cs (i + 1) (by omega)).lt
              have v1 := hD.get (a := i + 1) (b := j + 1) (by omega) (by omega) (by omega)
              have v2 := hD.get (a := i + 1) (b := j) (by omega) (by omega) (by omega)
              have v3 := hD.get (a := i) (b := j + 1) (by omega) (by omega) (by omega)
              rw [v1] at t1
              rw [v2] at t2
              rw [v3] at t3
              have l1 := lcs_le _ (A.drop (i + 1)) (B.drop (j + 1)) (Nat.le_refl _)
              have l2 := lcs_le _ (A.drop (i + 1)) (B.drop j) (Nat.le_refl _)
              have l3 := lcs_le _ (A.drop i) (B.drop (j + 1)) (Nat.le_refl _)
              rw [List.length_drop] at l1 l2 l3
              have HQ := hide (fun (W : World) (hW : Only (fun _ => False) wr W) (x : Nat) (hx : x = lcs (A.drop i) (B.drop j)) => And.intro ((hI.quiet hW).set i j x (by omega) (by omega)) (hD.set hil hjl hx))
              have oD := fun q => (Only.refl (fun _ => False) wr).drewO q
              clear hz v1 v2 v3
              by_cases he : A[i] = B[j]
              · have e1 : ((sb A[i]).toList == (sb B[j]).toList) = true := by rw [he]; simp
                have hv := lcs_eqs hil hjl he
                have Hv := hide hv
                generalize sb A[i] = x at *
                generalize sb B[j] = y at *
                generalize lcs (A.drop (i + 1)) (B.drop (j + 1)) = q1 at *
                generalize T i j = q0 at *
                clear hI hD he hv t2 t3 l2 l3
                go_wp2_with fail
                go_quiet (fail)
                go_upto_region 13 with fail
                go_region
                all_goals
                  go_wp2_with fail
                  go_roundw
                  case rel => exact ⟨j, _, _, rfl, rfl, by omega, unhide HQ _ (oD _) (q1 + 1) (unhide Hv).symm⟩
                  case measure => simp [intOf]; try omega
              · have e1 : ((sb A[i]).toList == (sb B[j]).toList) = false := by rw [beqB, ls_sb, ls_sb, decide_eq_false he]
                have hv := lcs_nes hil hjl he
                have Hv := hide hv
                generalize sb A[i] = x at *
                generalize sb B[j] = y at *
                generalize lcs (A.drop (i + 1)) (B.drop j) = q2 at *
                generalize lcs (A.drop i) (B.drop (j + 1)) = q3 at *
                generalize T i j = q0 at *
                clear hI hD he hv t1 l1
                by_cases hge : q3 ≤ q2
                · skip
                  have g1 : decide ((q3 : Int) ≤ (q2 : Int)) = true := decide_eq_true (by omega)
                  go_wp2_with fail
                  go_quiet (fail)
                  go_upto_region 14 with fail
                  go_quiet (fail)
                  go_upto_region 15 with fail
                  go_region
                  all_goals
                    go_wp2_with fail
                    go_roundw
                    case rel => exact ⟨j, _, _, rfl, rfl, by omega, unhide HQ _ (by first | exact oD _ | exact (oD _).drewO _) q2 (by rw [unhide Hv]; omega)⟩
                    case measure => simp [intOf]; try omega
                · skip
                  have g1 : decide ((q3 : Int) ≤ (q2 : Int)) = false := decide_eq_false (by omega)
                  go_wp2_with fail
                  go_quiet (fail)
                  go_upto_region 14 with fail
                  go_quiet (fail)
                  go_upto_region 16 with fail
                  go_region
                  all_goals
                    go_wp2_with fail
                    go_roundw
                    case rel => exact ⟨j, _, _, rfl, rfl, by omega, unhide HQ _ (by first | exact oD _ | exact (oD _).drewO _) q3 (by rw [unhide Hv]; omega)⟩
                    case measure => simp [intOf]; try omega
end Go.Proofs.Qxb6500416a
