/-
  OWN WORK. THE PAGER's FRAMES: find, place, touch, retire.
-/
import Derived.Test.Qxb6500412aGreatPgMem
namespace Go.Proofs.Qxb6500412aGreat
open Go.RowKit
set_option linter.unusedSimpArgs false
set_option linter.unusedVariables false

def fidx : Option Nat → Int
  | some i => (i : Int)
  | Option.none => -1

theorem frameOf_eq {fr : List Frame} {n : Int} (k : Nat) (hk : k < fr.length) (hv : fr[k].valid = true) (hp : (fr[k].page : Int) = n) (hb : ∀ j, (h : j < k) → ¬ (fr[j].valid = true ∧ (fr[j].page : Int) = n)) : frameOf fr n = some k := by
  unfold frameOf
  rw [List.findIdx?_eq_some_iff_getElem]
  refine ⟨hk, by simp [hv, hp], fun j hj => ?_⟩
  have := hb j hj
  simpa using this
theorem frameOf_miss {fr : List Frame} {n : Int} (hb : ∀ j, (h : j < fr.length) → ¬ (fr[j].valid = true ∧ (fr[j].page : Int) = n)) : frameOf fr n = Option.none := by
  unfold frameOf
  rw [List.findIdx?_eq_none_iff]
  intro f hf
  obtain ⟨j, hj, rfl⟩ := List.mem_iff_getElem.1 hf
  have := hb j hj
  simpa using this

set_option maxRecDepth 100000 in
theorem pfind_any {w : World} {p l : Nat} {op : Bool} {fr : List Frame} {ord : List Nat} (h : PAt w p l op fr ord) (n : Int) :
    Calls Tryz.prog 203 #[.pointer (some ⟨p, 0, Option.none⟩), .int .i64 n] w fun e w' => e = .returned (.int .i64 (fidx (frameOf fr n))) ∧ w = w' := by
  obtain ⟨h1, lf, lo⟩ := h
  go_enter Tryz.func203, Tryz.ntmps203
  go_wp2_with fail
  go_loop [5] (fun v => ∃ k : Nat, k ≤ 5 ∧ v = .int .i64 k ∧ ∀ j, (h : j < fr.length) → j < k → ¬ (fr[j].valid = true ∧ (fr[j].page : Int) = n)) (fun v => (5 - intOf v).toNat)
  case atStart => exact ⟨0, by omega, rfl, fun j _ hj => by omega⟩
  case round =>
    obtain ⟨k, hk, rfl, hb⟩ := hrel
    have Hb := hide hb
    clear hb
    by_cases hk5 : k < 5
    · have q0 := h1.cell (2 + k * 4)
      rw [pcells_fr0 k lf hk5] at q0
      have q1 := h1.cell (2 + k * 4 + 1)
      rw [pcells_fr k 1 lf hk5 (by omega)] at q1
      simp only [Frame.cells, List.getElem?_cons_succ, List.getElem?_cons_zero] at q1
      generalize hf : fr[k]'(by omega) = f at *
      have Hf := hide hf
      clear hf
      obtain ⟨fp, fv, fd, fx⟩ := f
      simp only at q0 q1
      cases fv with
      | false =>
        go_wp2_with fail
        go_round
        case rel =>
          refine ⟨k + 1, by omega, by go_num, fun j hj hjk => ?_⟩
          by_cases e : j = k
          · subst e; rw [unhide Hf]; simp
          · exact unhide Hb j hj (by omega)
        case measure => simp [intOf]; omega
      | true =>
        by_cases hp : (fp : Int) = n
        · subst hp
          go_wp2_with fail
          go_ret
          have := frameOf_eq (fr := fr) (n := fp) k (by omega) (by rw [unhide Hf]) (by rw [unhide Hf]) (fun j hj => unhide Hb j (by omega) hj)
          rw [this]
          exact ⟨rfl, rfl⟩
        · have hp' : ((fp : Int) == n) = false := by simpa using hp
          go_wp2_with fail
          go_round
          case rel =>
            refine ⟨k + 1, by omega, by go_num, fun j hj hjk => ?_⟩
            by_cases e : j = k
            · subst e; rw [unhide Hf]; simpa using hp
            · exact unhide Hb j hj (by omega)
          case measure => simp [intOf]; omega
    · obtain rfl : k = 5 := by omega
      go_wp2_with fail
      go_ret
      rw [frameOf_miss (fun j hj => unhide Hb j hj (by omega))]
      exact ⟨rfl, rfl⟩

/-- Where frame f stands in the order (the last place if it stands nowhere ahead of it). -/
def placeOf (ord : List Nat) (f : Nat) : Nat := min ((ord.take 4).findIdx (fun o => o == f)) 4

set_option maxRecDepth 100000 in
theorem pplace_any {w : World} {p l : Nat} {op : Bool} {fr : List Frame} {ord : List Nat} (h : PAt w p l op fr ord) (f : Nat) :
    Calls Tryz.prog 286 #[.pointer (some ⟨p, 0, Option.none⟩), .int .i64 f] w fun e w' => e = .returned (.int .i64 (placeOf ord f)) ∧ w = w' := by
  obtain ⟨h1, lf, lo⟩ := h
  go_enter Tryz.func286, Tryz.ntmps286
  go_wp2_with fail
  go_loop [5] (fun v => ∃ k : Nat, k ≤ 4 ∧ v = .int .i64 k ∧ ∀ j, (h : j < ord.length) → j < k → ord[j] ≠ f) (fun v => (5 - intOf v).toNat)
  case atStart => exact ⟨0, by omega, rfl, fun j _ hj => by omega⟩
  case round =>
    obtain ⟨k, hk, rfl, hb⟩ := hrel
    have Hb := hide hb
    clear hb
    by_cases hk4 : k < 4
    · have q0 := h1.cell (22 + k)
      rw [pcells_ord k lf lo (by omega)] at q0
      generalize ho : ord[k]'(by omega) = o at *
      have Ho := hide ho
      clear ho
      by_cases hp : o = f
      · subst hp
        go_wp2_with fail
        go_ret
        refine ⟨?_, rfl⟩
        have : placeOf ord o = k := by
          unfold placeOf
          have : (ord.take 4).findIdx (fun x => x == o) = k := by
            rw [List.findIdx_eq (by simp; omega)]
            refine ⟨by simp [unhide Ho], fun j hj => ?_⟩
            have := unhide Hb j (by omega) hj
            simpa using this
          rw [this]; omega
        rw [this]
        rfl
      · have hp' : ((o : Int) != (f : Int)) = true := by simp; omega
        go_wp2_with fail
        go_round
        case rel =>
          refine ⟨k + 1, by omega, by go_num, fun j hj hjk => ?_⟩
          by_cases e : j = k
          · subst e; rw [unhide Ho]; exact hp
          · exact unhide Hb j hj (by omega)
        case measure => simp [intOf]; omega
    · obtain rfl : k = 4 := by omega
      go_wp2_with fail
      go_ret
      refine ⟨?_, rfl⟩
      have : placeOf ord f = 4 := by
        unfold placeOf
        have : (ord.take 4).findIdx (fun x => x == f) = (ord.take 4).length := by
          rw [List.findIdx_eq_length]
          intro x hx
          obtain ⟨j, hj, rfl⟩ := List.mem_iff_getElem.1 hx
          simp at hj
          have := unhide Hb j (by omega) (by omega)
          simpa using this
        rw [this]; simp; omega
      rw [this]; rfl

/-- Five places. -/
def tab (g : Nat → Nat) : List Nat := (List.range 5).map g
@[simp] theorem tab_length (g : Nat → Nat) : (tab g).length = 5 := by simp [tab]
theorem tab_get (g : Nat → Nat) (i : Nat) (h : i < (tab g).length) : (tab g)[i] = g i := by simp [tab]
theorem tab_set (g : Nat → Nat) (j v : Nat) (hj : j < 5) : (tab g).set j v = tab (fun t => if t = j then v else g t) := by
  apply List.ext_getElem (by simp)
  intro i h1 h2
  rw [List.getElem_set, tab_get, tab_get]
  by_cases e : j = i
  · subst e; simp
  · have e' : ¬ i = j := fun h => e h.symm
    rw [if_neg e, if_neg e']
theorem tab_self {ord : List Nat} (ho : ord.length = 5) : ord = tab (fun t => ord.getD t 0) := by
  apply List.ext_getElem (by simp [ho])
  intro i h1 h2
  rw [tab_get]
  simp [List.getD_eq_getElem?_getD, h1]
theorem tab_congr {g h : Nat → Nat} (e : ∀ t, t < 5 → g t = h t) : tab g = tab h := by
  apply List.ext_getElem (by simp)
  intro i h1 h2
  rw [tab_get, tab_get]
  exact e i (by simpa using h1)

def toFront (ord : List Nat) (f : Nat) : List Nat := tab (fun t => if t = 0 then f else if t ≤ placeOf ord f then ord.getD (t - 1) 0 else ord.getD t 0)
def toBack (ord : List Nat) (f : Nat) : List Nat := tab (fun t => if t = 4 then f else if placeOf ord f ≤ t then ord.getD (t + 1) 0 else ord.getD t 0)
theorem placeOf_le (ord : List Nat) (f : Nat) : placeOf ord f ≤ 4 := by unfold placeOf; omega

theorem PAt.setOrd {w : World} {p l : Nat} {op : Bool} {fr : List Frame} {ord : List Nat} (h : PAt w p l op fr ord) (i o : Nat) (hi : i < 5) : PAt (w.setCell ⟨p, 22 + i, Option.none⟩ (.int .i64 (o : Int))) p l op fr (ord.set i o) := by
  refine ⟨?_, h.lf, by simpa using h.lo⟩
  have := h.has.setCell (22 + i) (.int .i64 (o : Int))
  rw [pcells_setOrd i o h.lf h.lo hi] at this
  exact this

theorem PAt.drew {w : World} {p l : Nat} {op : Bool} {fr : List Frame} {ord : List Nat} (h : PAt w p l op fr ord) : PAt w.drew p l op fr ord := ⟨h.has.drew, h.lf, h.lo⟩

theorem PAt.only1 {w : World} {p : Nat} (off : Nat) (u : Value) : Only (fun k => k = p) w (w.setCell ⟨p, off, Option.none⟩ u) := (Only.refl (fun k => k = p) w).setCell (p := ⟨p, off, Option.none⟩) (fun _ => rfl) _

set_option maxRecDepth 100000 in
set_option maxHeartbeats 1000000 in
theorem ptouch_any {w : World} {p l : Nat} {op : Bool} {fr : List Frame} {ord : List Nat} (h : PAt w p l op fr ord) (f : Nat) (hf : f < 5) :
    Calls Tryz.prog 206 #[.pointer (some ⟨p, 0, Option.none⟩), .int .i64 f] w fun e w' => e = .returned (.tuple #[]) ∧ PAt w' p l op fr (toFront ord f) ∧ Only (fun k => k = p) w w' := by
  have C1 := hide (pplace_any h f)
  have hpl := placeOf_le ord f
  have Hdef : toFront ord f = tab (fun t => if t = 0 then f else if t ≤ placeOf ord f then ord.getD (t - 1) 0 else ord.getD t 0) := rfl
  rw [Hdef]
  generalize placeOf ord f = i at *
  go_enter Tryz.func206, Tryz.ntmps206
  go_wp2_with fail
  refine (unhide C1).mono ?_
  rintro e w1 ⟨rfl, rfl⟩
  go_wp2_with fail
  go_loopw [4] (fun v wr => ∃ j : Nat, j ≤ i ∧ v = .int .i64 j ∧ PAt wr p l op fr (tab (fun t => if j < t ∧ t ≤ i then ord.getD (t - 1) 0 else ord.getD t 0)) ∧ Only (fun k => k = p) w wr) (fun v _ => (intOf v).toNat)
  case atStart =>
    refine ⟨i, by omega, rfl, ?_, Only.refl _ w⟩
    have : tab (fun t => if i < t ∧ t ≤ i then ord.getD (t - 1) 0 else ord.getD t 0) = ord := by
      rw [tab_congr (h := fun t => ord.getD t 0) (fun t ht => by rw [if_neg (by omega)]), ← tab_self h.lo]
    rw [this]; exact h
  case round =>
    obtain ⟨j, hj, rfl, hp, ho⟩ := hrel
    cases j with
    | zero =>
      have q := hp.has.cell 22
      rw [show (22 : Nat) = 22 + 0 from rfl, pcells_ord 0 hp.lf hp.lo (by omega)] at q
      have z := hp.has.free 22
      have hs := hp.setOrd 0 f (by omega)
      rw [tab_set _ 0 f (by omega)] at hs
      have o2 := ho.trans (PAt.only1 (p := p) 22 (.int .i64 (f : Int))) (fun _ _ h => h)
      have Hs := hide hs
      simp only [Nat.add_zero] at q
      generalize (tab (fun t => if 0 < t ∧ t ≤ i then ord.getD (t - 1) 0 else ord.getD t 0))[0] = o0 at q
      clear hs hp
      go_wp2_with fail
      go_end0
      refine ⟨rfl, ?_, o2⟩
      have := unhide Hs
      rw [tab_congr (h := fun t => if t = 0 then f else if t ≤ i then ord.getD (t - 1) 0 else ord.getD t 0) (fun t ht => by
        by_cases h0 : t = 0
        · rw [if_pos h0, if_pos h0]
        · rw [if_neg h0, if_neg h0]
          by_cases hi : t ≤ i
          · rw [if_pos ⟨by omega, hi⟩, if_pos hi]
          · rw [if_neg (by omega), if_neg hi])] at this
      exact this
    | succ j =>
      have q := hp.has.cell (22 + j)
      rw [pcells_ord j hp.lf hp.lo (by omega), tab_get] at q
      have q2 := hp.has.cell (22 + (j + 1))
      rw [pcells_ord (j + 1) hp.lf hp.lo (by omega), tab_get] at q2
      have z := hp.has.free (22 + (j + 1))
      simp only [show ¬ (j + 1 < j ∧ j ≤ i) from by omega, if_false, show ¬ (j + 1 < j + 1 ∧ j + 1 ≤ i) from by omega] at q q2
      have hs := hp.setOrd (j + 1) (ord.getD j 0) (by omega)
      rw [tab_set _ (j + 1) _ (by omega)] at hs
      have o2 := ho.trans (PAt.only1 (p := p) (22 + (j + 1)) (.int .i64 ((ord.getD j 0 : Nat) : Int))) (fun _ _ h => h)
      rw [tab_congr (h := fun t => if j < t ∧ t ≤ i then ord.getD (t - 1) 0 else ord.getD t 0) (fun t ht => by
        by_cases h0 : t = j + 1
        · subst h0; rw [if_pos rfl, if_pos ⟨by omega, hj⟩]; rfl
        · rw [if_neg h0]
          by_cases hi : j < t ∧ t ≤ i
          · rw [if_pos hi, if_pos ⟨by omega, hi.2⟩]
          · rw [if_neg hi, if_neg (by omega)])] at hs
      have Hs := hide hs
      clear hs hp
      generalize ord.getD j 0 = oj at *
      generalize ord.getD (j + 1) 0 = oj1 at *
      have hjj : (j : Int) + 1 - 1 = (j : Int) := by omega
      go_wp2_with fail
      go_region
      go_wp2_with fail
      exact ⟨⟨j, by omega, rfl, (unhide Hs).drew, o2.drew⟩, by simp [intOf]⟩

theorem set4 {fr : List Frame} {ord : List Nat} {l : Nat} {op : Bool} (f : Nat) (g : Frame) (hf : f < 5) (lf : fr.length = 5) :
    ((((pcells l op fr ord).setIfInBounds (2 + f * 4) (.int .i64 (g.page : Int))).setIfInBounds (2 + f * 4 + 1) (.bool g.valid)).setIfInBounds (2 + f * 4 + 2) (.bool g.dirty)).setIfInBounds (2 + f * 4 + 3) (.string g.data) = pcells l op (fr.set f g) ord := by
  unfold pcells
  apply Array.ext'
  simp only [Array.toList_setIfInBounds]
  rw [show 2 + f * 4 + 3 = (f * 4 + 3) + 1 + 1 by omega, show 2 + f * 4 + 2 = (f * 4 + 2) + 1 + 1 by omega, show 2 + f * 4 + 1 = (f * 4 + 1) + 1 + 1 by omega, show 2 + f * 4 = (f * 4 + 0) + 1 + 1 by omega]
  simp only [List.set_cons_succ]
  rw [List.set_append_left _ _ (by rw [frCells_length]; omega), List.set_append_left _ _ (by rw [List.length_set, frCells_length]; omega), List.set_append_left _ _ (by simp only [List.length_set]; rw [frCells_length]; omega), List.set_append_left _ _ (by simp only [List.length_set]; rw [frCells_length]; omega)]
  have e0 : (frCells fr).set (f * 4) (.int .i64 (g.page : Int)) = frCells (fr.set f ⟨g.page, fr[f].valid, fr[f].dirty, fr[f].data⟩) := frCells_set fr f 0 ⟨g.page, fr[f].valid, fr[f].dirty, fr[f].data⟩ _ (by omega) (by omega) rfl
  rw [e0]
  rw [frCells_set _ f 1 ⟨g.page, g.valid, fr[f].dirty, fr[f].data⟩ _ (by simp; omega) (by omega) (by simp [Frame.cells])]
  rw [frCells_set _ f 2 ⟨g.page, g.valid, g.dirty, fr[f].data⟩ _ (by simp; omega) (by omega) (by simp [Frame.cells])]
  rw [frCells_set _ f 3 g _ (by simp; omega) (by omega) (by simp [Frame.cells])]
  simp

def storeFr (w : World) (p f : Nat) (g : Frame) : World :=
  (((w.setCell ⟨p, 2 + f * 4, Option.none⟩ (.int .i64 (g.page : Int))).setCell ⟨p, 2 + f * 4 + 1, Option.none⟩ (.bool g.valid)).setCell ⟨p, 2 + f * 4 + 2, Option.none⟩ (.bool g.dirty)).setCell ⟨p, 2 + f * 4 + 3, Option.none⟩ (.string g.data)

theorem PAt.storeFr {w : World} {p l : Nat} {op : Bool} {fr : List Frame} {ord : List Nat} (h : PAt w p l op fr ord) (f : Nat) (g : Frame) (hf : f < 5) : PAt (storeFr w p f g) p l op (fr.set f g) ord := by
  refine ⟨?_, by simpa using h.lf, h.lo⟩
  have := (((h.has.setCell (2 + f * 4) (.int .i64 (g.page : Int))).setCell (2 + f * 4 + 1) (.bool g.valid)).setCell (2 + f * 4 + 2) (.bool g.dirty)).setCell (2 + f * 4 + 3) (.string g.data)
  rw [set4 f g hf h.lf] at this
  exact this
theorem onlyFr (w : World) (p f : Nat) (g : Frame) : Only (fun k => k = p) w (storeFr w p f g) :=
  ((((Only.refl (fun k => k = p) w).setCell (p := ⟨p, _, Option.none⟩) (fun _ => rfl) _).setCell (p := ⟨p, _, Option.none⟩) (fun _ => rfl) _).setCell (p := ⟨p, _, Option.none⟩) (fun _ => rfl) _).setCell (p := ⟨p, _, Option.none⟩) (fun _ => rfl) _

set_option maxRecDepth 100000 in
set_option maxHeartbeats 1000000 in
theorem pretire_any {w : World} {p l : Nat} {op : Bool} {fr : List Frame} {ord : List Nat} (h : PAt w p l op fr ord) (f : Nat) (hf : f < 5) :
    Calls Tryz.prog 345 #[.pointer (some ⟨p, 0, Option.none⟩), .int .i64 f] w fun e w' => e = .returned (.tuple #[]) ∧ PAt w' p l op (fr.set f Frame.none) (toBack ord f) ∧ Only (fun k => k = p) w w' := by
  have hp0 := h.storeFr f Frame.none hf
  have o0 := onlyFr w p f Frame.none
  have C1 := hide (pplace_any hp0 f)
  obtain ⟨h1, lf, lo⟩ := h
  have q0 := h1.cell (2 + f * 4)
  rw [pcells_fr0 f lf hf] at q0
  have q1 := h1.cell (2 + f * 4 + 1)
  rw [pcells_fr f 1 lf hf (by omega)] at q1
  have q2 := h1.cell (2 + f * 4 + 2)
  rw [pcells_fr f 2 lf hf (by omega)] at q2
  have q3 := h1.cell (2 + f * 4 + 3)
  rw [pcells_fr f 3 lf hf (by omega)] at q3
  have z0 := h1.free (2 + f * 4)
  have z1 := h1.free (2 + f * 4 + 1)
  have z2 := h1.free (2 + f * 4 + 2)
  have z3 := h1.free (2 + f * 4 + 3)
  simp only [Frame.cells, List.getElem?_cons_succ, List.getElem?_cons_zero] at q1 q2 q3
  have hpl := placeOf_le ord f
  have Hdef : toBack ord f = tab (fun t => if t = 4 then f else if placeOf ord f ≤ t then ord.getD (t + 1) 0 else ord.getD t 0) := rfl
  rw [Hdef]
  generalize placeOf ord f = i at *
  clear Hdef
  have Hp0 := hide hp0
  clear hp0
  have ew : ((((w.setCell ⟨p, 2 + f * 4, Option.none⟩ (.int .i64 0)).setCell ⟨p, 2 + f * 4 + 1, Option.none⟩ (.bool false)).setCell ⟨p, 2 + f * 4 + 2, Option.none⟩ (.bool false)).setCell ⟨p, 2 + f * 4 + 3, Option.none⟩ (.string ⟨#[]⟩)) = storeFr w p f Frame.none := rfl
  go_enter Tryz.func345, Tryz.ntmps345
  go_wp2_with fail
  clear ew q0 q1 q2 q3 z0 z1 z2 z3
  refine (unhide C1).mono ?_
  rintro e w1 ⟨rfl, rfl⟩
  generalize storeFr w p f Frame.none = w1 at *
  go_wp2_with fail
  go_loopw [4] (fun v wr => ∃ j : Nat, i ≤ j ∧ j ≤ 4 ∧ v = .int .i64 j ∧ PAt wr p l op (fr.set f Frame.none) (tab (fun t => if i ≤ t ∧ t < j then ord.getD (t + 1) 0 else ord.getD t 0)) ∧ Only (fun k => k = p) w wr) (fun v _ => (4 - intOf v).toNat)
  case atStart =>
    refine ⟨i, by omega, by omega, rfl, ?_, o0⟩
    have : tab (fun t => if i ≤ t ∧ t < i then ord.getD (t + 1) 0 else ord.getD t 0) = ord := by
      rw [tab_congr (h := fun t => ord.getD t 0) (fun t ht => by rw [if_neg (by omega)]), ← tab_self lo]
    rw [this]; exact unhide Hp0
  case round =>
    obtain ⟨j, hij, hj, rfl, hp, ho⟩ := hrel
    by_cases hj4 : j < 4
    · have q := hp.has.cell (22 + (j + 1))
      rw [pcells_ord (j + 1) hp.lf hp.lo (by omega), tab_get] at q
      have q2 := hp.has.cell (22 + j)
      rw [pcells_ord j hp.lf hp.lo (by omega), tab_get] at q2
      have z := hp.has.free (22 + j)
      simp only [show ¬ (i ≤ j + 1 ∧ j + 1 < j) from by omega, if_false, show ¬ (i ≤ j ∧ j < j) from by omega] at q q2
      have hs := hp.setOrd j (ord.getD (j + 1) 0) (by omega)
      rw [tab_set _ j _ (by omega)] at hs
      have o2 := ho.trans (PAt.only1 (p := p) (22 + j) (.int .i64 ((ord.getD (j + 1) 0 : Nat) : Int))) (fun _ _ h => h)
      rw [tab_congr (h := fun t => if i ≤ t ∧ t < j + 1 then ord.getD (t + 1) 0 else ord.getD t 0) (fun t ht => by
        by_cases h0 : t = j
        · subst h0; rw [if_pos rfl, if_pos ⟨hij, by omega⟩]
        · rw [if_neg h0]
          by_cases hi : i ≤ t ∧ t < j
          · rw [if_pos hi, if_pos ⟨hi.1, by omega⟩]
          · rw [if_neg hi, if_neg (by omega)])] at hs
      have Hs := hide hs
      clear hs hp
      generalize ord.getD (j + 1) 0 = oj at *
      generalize ord.getD j 0 = oj1 at *
      go_wp2_with fail
      go_region
      go_wp2_with fail
      exact ⟨⟨j + 1, by omega, by omega, rfl, (unhide Hs).drew, o2.drew⟩, by simp [intOf]; omega⟩
    · obtain rfl : j = 4 := by omega
      have q := hp.has.cell (22 + 4)
      rw [pcells_ord 4 hp.lf hp.lo (by omega)] at q
      have z := hp.has.free (22 + 4)
      have hs := hp.setOrd 4 f (by omega)
      rw [tab_set _ 4 f (by omega)] at hs
      have o2 := ho.trans (PAt.only1 (p := p) (22 + 4) (.int .i64 (f : Int))) (fun _ _ h => h)
      have Hs := hide hs
      generalize (tab (fun t => if i ≤ t ∧ t < 4 then ord.getD (t + 1) 0 else ord.getD t 0))[4] = o4 at q
      clear hs hp
      go_wp2_with fail
      go_end0
      refine ⟨rfl, ?_, o2⟩
      have := unhide Hs
      rw [tab_congr (h := fun t => if t = 4 then f else if i ≤ t then ord.getD (t + 1) 0 else ord.getD t 0) (fun t ht => by
        by_cases h0 : t = 4
        · rw [if_pos h0, if_pos h0]
        · rw [if_neg h0, if_neg h0]
          by_cases hi : i ≤ t
          · rw [if_pos ⟨hi, by omega⟩, if_pos hi]
          · rw [if_neg (by omega), if_neg hi])] at this
      exact this
end Go.Proofs.Qxb6500412aGreat
