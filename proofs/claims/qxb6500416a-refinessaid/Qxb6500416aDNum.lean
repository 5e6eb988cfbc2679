/-
  OWN WORK. THE POOL OF LINES: numbers, same.
-/
import Derived.Test.Qxb6500416aDMtP
namespace Go.Proofs.Qxb6500416a
open Go.RowKit Go.PlainAid
set_option linter.unusedSimpArgs false
set_option linter.unusedVariables false

def dzeros (n : Nat) : List Int := List.replicate n 0
theorem dzeros_len (n : Nat) : (dzeros n).length = n := by simp [dzeros]
theorem madeCells_oneD (v : Value) (n : Nat) : madeCells #[v] n = Array.replicate n v := by
  apply Array.ext
  · simp [madeCells]
  · intro i h1 h2
    simp [madeCells, Nat.mod_one]
theorem drun_make_ints (w : World) (n : Nat) (hn : n ≤ 10000000) :
    (Instr.makeSlice 50 (.int .i64 n) (.int .i64 n)).run Try.prog w = .ok (.slice (some ⟨w.heap.size, 0, none⟩) n n) (w.alloc (.cells (ints (dzeros n)) 3)) := by
  obtain ⟨i, hi, hz, hs, hb⟩ := info_parts Try.dinfoInt
  have := run_make (P := Try.prog) w 50 3 i _ Try.underlying50 hi hz .i64 .i64 (n : Int) (n : Int) (by omega) (by omega) (by rw [hb]; omega) (by omega)
  rw [this]
  simp [hs, Value.cells, madeCells_oneD, ints, dzeros]
/-- A row of ints that nobody else has. -/
def IntsR (w : World) (g : Nat) (l : List Int) : Prop := Has w g (ints l) 3
theorem IntsR.cell {w : World} {g : Nat} {l : List Int} (h : IntsR w g l) (i : Nat) (hi : i < l.length) : w.cell? ⟨g, i, none⟩ = some (.int .i64 l[i]) := by
  rw [Has.cell h, ints_get _ _ hi]
theorem IntsR.keep {S : Nat → Prop} {w w' : World} {g : Nat} {l : List Int} (h : IntsR w g l) (ho : Only S w w') (hg : ¬ S g) : IntsR w' g l := Has.keep h ho hg
theorem IntsR.set {w : World} {g : Nat} {l : List Int} (h : IntsR w g l) (i : Nat) (x : Int) : IntsR (w.setCell ⟨g, i, none⟩ (.int .i64 x)) g (l.set i x) := by
  have := Has.setCell h i (.int .i64 x)
  rw [ints_set'] at this
  exact this
/-- How far the lines have been numbered. -/
structure NmI (w : World) (e g : Nat) (L : List Str) (F : Nat → Prop) (l : List Str) (i : Nat) (X : List Int) (wr : World) : Prop where
  row : IntsR wr g X
  len : X.length = l.length
  eq : X.take i = numsL (addsL L (l.take i)) (l.take i)
  ep : ∃ F', EP wr e (addsL L (l.take i)) F' ∧ (∀ k, F' k → F k ∨ (w.heap.size ≤ k ∧ k ≠ g))
  ho : Only F w wr
theorem NmI.step {w : World} {e g : Nat} {L : List Str} {F : Nat → Prop} {l : List Str} {i : Nat} {X : List Int} {wr w' : World} {F' : Nat → Prop} (hi : i < l.length) (hX : IntsR wr g X) (hl : X.length = l.length) (he : X.take i = numsL (addsL L (l.take i)) (l.take i))
    (hF' : ∀ k, F' k → F k ∨ (w.heap.size ≤ k ∧ k ≠ g)) (ho : Only F w wr) (hg : w.heap.size ≤ g) (hE : EP w' e (addL (addsL L (l.take i)) l[i]) (Ext F' wr w')) (ho' : Only F' wr w') (hgF : ¬ F g) :
    NmI w e g L F l (i + 1) (X.set i (numL (addsL L (l.take i)) l[i] : Int)) (w'.setCell ⟨g, i, none⟩ (.int .i64 (numL (addsL L (l.take i)) l[i] : Int))) := by
  have hng : ¬ F' g := fun h => by
    rcases hF' g h with h | h
    · exact hgF h
    · exact h.2 rfl
  have hX' : IntsR w' g X := Has.keep hX ho' hng
  have oS := donly1 (w := w') (p := g) i (.int .i64 (numL (addsL L (l.take i)) l[i] : Int))
  have hgw := Has.lt hX
  have et : l.take (i + 1) = l.take i ++ [l[i]] := List.take_succ_eq_append_getElem hi
  refine ⟨hX'.set i _, by simpa using hl, ?_, ⟨Ext F' wr w', ?_, ?_⟩, ?_⟩
  · rw [take_set _ _ _ (by omega), he, et, addsL_snoc]
    unfold numsL
    rw [List.map_append, List.map_cons, List.map_nil]
    congr 1
    · apply List.map_congr_left
      intro t ht
      rw [addL_num _ _ _ (addsL_mem _ L t ht)]
    · by_cases hm : l[i] ∈ addsL L (l.take i)
      · rw [addL_num _ _ _ hm]
      · obtain ⟨e1, e2⟩ := numL_new hm
        rw [e1, e2]
        have : numL (addsL L (l.take i) ++ [l[i]]) l[i] = (addsL L (l.take i)).length := by
          refine numL_get (k := (addsL L (l.take i)).length) ?_ (by simp) (by simp)
          have := hE.nd
          rw [e2] at this
          exact this
        rw [this]
  · rw [et, addsL_snoc]
    exact hE.keep oS (fun k hk ek => by
      subst ek
      rcases hk with hk | hk
      · exact hng hk
      · omega)
  · intro k hk
    have hs := ho.size
    rcases hk with hk | hk
    · exact hF' k hk
    · exact .inr ⟨by omega, by omega⟩
  · refine (ho.trans ho' (fun k hk h => ?_)).trans oS (fun k hk ek => by omega)
    rcases hF' k h with h | h
    · exact h
    · omega
section
variable {w : World} {e : Nat} {L : List Str} {F : Nat → Prop}
set_option maxRecDepth 100000 in
set_option maxHeartbeats 4000000 in
theorem dnumbers_any (h : EP w e L F) (v : Value) (l : List Str) (hv : LnIn w v l) (hF : ∀ y, v.ownBlock = some y → ¬ F y) (hl : l.length ≤ 2000) (hsz : ∀ s ∈ l, s.length ≤ 100000) (hL : L.length ≤ 50000) :
    Calls Try.prog 39 #[.pointer (some ⟨e, 0, none⟩), v] w fun x w' => ∃ g, x = .returned (.slice (some ⟨g, 0, none⟩) l.length l.length) ∧ IntsR w' g (numsL (addsL L l) l) ∧ (∃ F', EP w' e (addsL L l) F' ∧ (∀ k, F' k → F k ∨ (w.heap.size ≤ k ∧ k ≠ g))) ∧ Only F w w' ∧ w.heap.size ≤ g := by
  obtain ⟨a, cap, rfl, hc⟩ := hv.parts
  have hm := drun_make_ints w l.length (by omega)
  have hi0 : NmI w e w.heap.size L F l 0 (dzeros l.length) (w.alloc (.cells (ints (dzeros l.length)) 3)) := by
    refine ⟨Has.new _ _ _, dzeros_len _, by simp [numsL], ⟨F, ?_, fun k hk => .inl hk⟩, (Only.refl _ _).alloc _⟩
    exact h.keep ((Only.refl (fun _ => False) w).alloc _) (fun _ _ h => h)
  have hgF : ¬ F w.heap.size := fun hh => by have := h.inn _ hh; omega
  have HI0 := hide hi0
  have Hc := hide hc
  have HF := hide hF
  have Hsz := hide hsz
  clear hi0 hc hF h hsz hv
  go_enter Try.func39, Try.ntmps39
  go_wp2_with fail
  go_loopw [6] (fun iv wr => ∃ (i : Nat) (X : List Int), iv = .int .i64 i ∧ i ≤ l.length ∧ NmI w e w.heap.size L F l i X wr) (fun iv _ => l.length - (intOf iv).toNat)
  case atStart => exact ⟨0, _, rfl, by omega, unhide HI0⟩
  case round =>
    clear HI0
    obtain ⟨i, X, rfl, hi, hI⟩ := hrel
    by_cases hil : i < l.length
    · obtain ⟨g, rfl, hcell⟩ := unhide Hc (by omega)
      have c0 := hcell i hil
      have hgl : g < w.heap.size := World.block_lt_of_cell? w _ c0
      obtain ⟨hrow, hlen, heq, ⟨F', hep, hF'⟩, ho⟩ := hI
      have hbk := ho.block g hgl (unhide HF g rfl)
      rw [← World.cell?_of_block hbk] at c0
      have hs := ho.size
      have hgw : g < wr.heap.size := by omega
      have a1 : decide ((i : Int) < (l.length : Int)) = true := by simp; omega
      have a2 : (i : Int) < (l.length : Int) := by omega
      have hLl := addsL_len (l.take i) L
      rw [List.length_take] at hLl
      have C1 := hide (dintern_any hep l[i] (unhide Hsz _ (List.getElem_mem hil)) (by omega))
      have HS := hide (fun w' hE ho' => NmI.step (e := e) (w' := w') hil hrow hlen heq hF' ho (Nat.le_refl _) hE ho' hgF)
      have hng : ¬ F' w.heap.size := fun h => by
        rcases hF' _ h with h | h
        · exact hgF h
        · exact h.2 rfl
      have hrl := Has.lt hrow
      have Hrow := hide hrow
      clear hrow heq hep hF' hcell hbk ho
      generalize numL (addsL L (l.take i)) l[i] = nm at *
      generalize l[i] = s at *
      go_wp2_with fail
      refine (unhide C1).mono ?_
      rintro x w1 ⟨rfl, hE, ho1⟩
      have hrow1 : IntsR w1 w.heap.size X := Has.keep (unhide Hrow) ho1 hng
      have r0 := hrow1.cell i (by omega)
      have r1 := Has.free hrow1 i
      have hlt1 := Has.lt hrow1
      have HR := hide (unhide HS w1 hE ho1)
      clear hrow1 hE ho1 Hrow HS C1
      go_wp2_with fail
      go_roundw
      case rel => exact ⟨i + 1, _, by go_num, by omega, unhide HR⟩
      case measure => simp [intOf]; omega
    · have a1 : decide ((i : Int) < (l.length : Int)) = false := by simp; omega
      have a1' : ¬ (i : Int) < (l.length : Int) := by omega
      have ei : i = l.length := by omega
      subst ei
      obtain ⟨hrow, hlen, heq, hep, ho⟩ := hI
      rw [List.take_length] at heq hep
      rw [List.take_of_length_le (by omega)] at heq
      have HR := hide (And.intro hrow (And.intro heq (And.intro hep ho)))
      clear hrow heq hep ho
      go_wp2_with fail
      go_ret
      obtain ⟨hrow, heq, hep, ho⟩ := unhide HR
      rw [heq] at hrow
      exact ⟨_, rfl, hrow, hep, ho, Nat.le_refl _⟩
end
set_option maxRecDepth 100000 in
set_option maxHeartbeats 4000000 in
theorem dsame_any {w : World} {g g' : Nat} {X Y : List Int} (hX : IntsR w g X) (hY : IntsR w g' Y) (cx cy a b c d : Nat) (hx : X.length ≤ 100000) (hy : Y.length ≤ 100000) (h1 : a ≤ b) (h2 : b ≤ X.length) (h3 : c ≤ d) (h4 : d ≤ Y.length) :
    Calls Try.prog 59 #[.slice (some ⟨g, 0, none⟩) X.length cx, .int .i64 a, .int .i64 b, .slice (some ⟨g', 0, none⟩) Y.length cy, .int .i64 c, .int .i64 d] w fun e w' => e = .returned (.bool (decide (cutL X a b = cutL Y c d))) ∧ Only (fun _ => False) w w' := by
  have lx := cutL_len X a b h1 h2
  have ly := cutL_len Y c d h3 h4
  have hgl := Has.lt hX
  have hgl' := Has.lt hY
  have HX := hide hX
  have HY := hide hY
  clear hX hY
  by_cases hlen : b - a = d - c
  · have e0 : ((b : Int) - (a : Int) != (d : Int) - (c : Int)) = false := by simp; omega
    have Hlen := hide hlen
    have Hlx := hide lx
    have Hly := hide ly
    clear hlen lx ly
    go_enter Try.func59, Try.ntmps59
    go_wp2_with fail
    go_loopw [13] (fun iv wr => ∃ i : Nat, i ≤ b - a ∧ iv = .int .i64 i ∧ (cutL X a b).take i = (cutL Y c d).take i ∧ Only (fun _ => False) w wr) (fun iv _ => (b - a) - (intOf iv).toNat)
    case atStart => exact ⟨0, by omega, rfl, by simp, Only.refl _ _⟩
    case round =>
      obtain ⟨i, hi, rfl, htk, ho⟩ := hrel
      have hs := ho.size
      by_cases hil : i < b - a
      · have hlen := unhide Hlen
        have lx := unhide Hlx
        have ly := unhide Hly
        have c0 := ((unhide HX).keep ho (fun h => h)).cell (a + i) (by omega)
        have d0 := ((unhide HY).keep ho (fun h => h)).cell (c + i) (by omega)
        have hgw : g < wr.heap.size := by omega
        have hgw' : g' < wr.heap.size := by omega
        have a1 : decide ((i : Int) < (b : Int) - (a : Int)) = true := by simp; omega
        have i1 : (a : Int) + (i : Int) < (X.length : Int) := by omega
        have i2 : (c : Int) + (i : Int) < (Y.length : Int) := by omega
        have gx := cutL_get X a b i (by omega) (by omega)
        have gy := cutL_get Y c d i (by omega) (by omega)
        by_cases he : X[a + i]'(by omega) = Y[c + i]'(by omega)
        · have e1 : (X[a + i]'(by omega) != Y[c + i]'(by omega)) = false := by simp [he]
          have ht2 : (cutL X a b).take (i + 1) = (cutL Y c d).take (i + 1) := by
            rw [List.take_succ_eq_append_getElem (by omega), List.take_succ_eq_append_getElem (by omega), htk, gx, gy, he]
          have Ht2 := hide ht2
          have HO := hide ho
          generalize X[a + i]'(by omega) = x at *
          generalize Y[c + i]'(by omega) = y at *
          clear he htk ht2 ho gx gy hlen lx ly
          go_wp2_with fail
          go_quiet (fail)
          have ho4 := (unhide HO).drewO nq
          go_wp2_with fail
          go_roundw
          case rel => exact ⟨i + 1, by omega, by go_num, unhide Ht2, ho4⟩
          case measure => simp [intOf]; omega
        · have e1 : (X[a + i]'(by omega) != Y[c + i]'(by omega)) = true := by simpa using he
          have hne : cutL X a b ≠ cutL Y c d := by
            intro e
            apply he
            rw [← gx, ← gy]
            simp only [e]
          have Hne := hide hne
          have HO := hide ho
          generalize X[a + i]'(by omega) = x at *
          generalize Y[c + i]'(by omega) = y at *
          clear he htk hne ho gx gy hlen lx ly
          go_wp2_with fail
          go_quiet (fail)
          have ho4 := (unhide HO).drewO nq
          go_wp2_with fail
          go_ret
          exact ⟨by rw [decide_eq_false (unhide Hne)]; rfl, ho4⟩
      · have a1 : decide ((i : Int) < (b : Int) - (a : Int)) = false := by simp; omega
        have hE : cutL X a b = cutL Y c d := by
          have lx := unhide Hlx
          have ly := unhide Hly
          have hlen := unhide Hlen
          rw [List.take_of_length_le (by omega), List.take_of_length_le (by omega)] at htk
          exact htk
        have HE := hide hE
        clear hE htk
        go_wp2_with fail
        go_ret
        exact ⟨by rw [decide_eq_true (unhide HE)]; rfl, ho⟩
  · have e0 : ((b : Int) - (a : Int) != (d : Int) - (c : Int)) = true := by simp; omega
    have Hne : Hid (cutL X a b ≠ cutL Y c d) := hide (fun e => hlen (by rw [← lx, ← ly, e]))
    clear hlen lx ly
    go_enter Try.func59, Try.ntmps59
    go_wp2_with fail
    go_ret
    exact ⟨by rw [decide_eq_false (unhide Hne)]; rfl, Only.refl _ _⟩
end Go.Proofs.Qxb6500416a
