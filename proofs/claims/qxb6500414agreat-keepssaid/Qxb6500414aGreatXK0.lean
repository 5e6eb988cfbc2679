/-
  OWN WORK. TXN, Keeps: a shot in memory.
-/
import Derived.Test.Qxb6500414aGreatXH1
namespace Go.Proofs.Qxb6500414aGreat
open Go.RowKit Go.PlainAid
set_option linter.unusedSimpArgs false
set_option linter.unusedVariables false

/-- Rows that are never written again. -/
structure RK (lo : Nat) (w : World) (v : Value) (rows : List (List Vl)) (us : List Value) : Prop where
  own : w.ownsRow 0 47 1 v us.length us
  len : us.length = rows.length
  row : ∀ (j : Nat) (u : Value) (r : List Vl), us[j]? = some u → rows[j]? = some r → OwnV w u r
  nb : ∀ k, (v.ownBlock = some k ∨ ∃ u ∈ us, u.ownBlock = some k) → lo ≤ k
/-- A block of rows or of values. -/
def RwB (w : World) (k : Nat) : Prop := ∃ c, Has w k c 47 ∨ Has w k c 106
section
variable {lo : Nat} {w w' : World} {v : Value} {rows : List (List Vl)} {us : List Value}
theorem RK.keep {B : Nat → Prop} (h : RK lo w v rows us) (ho : Only B w w') (hB : ∀ k, lo ≤ k → RwB w k → ¬ B k) : RK lo w' v rows us := by
  refine ⟨ownsRow_keep h.own ho (fun k hk => ?_), h.len, fun j u r hu hr => (h.row j u r hu hr).keep ho (fun k hk => ?_), h.nb⟩
  · obtain ⟨c, hc⟩ := ownsRow_has h.own hk
    exact hB k (h.nb k (.inl hk)) ⟨c, .inl hc⟩
  · obtain ⟨c, hc⟩ := ownsRow_has (h.row j u r hu hr) hk
    exact hB k (h.nb k (.inr ⟨u, List.mem_of_getElem? hu, hk⟩)) ⟨c, .inr hc⟩
theorem RK.rd (h : RK lo w v rows us) : RdR w v rows := by
  obtain ⟨a, cap, rfl⟩ := ownsRow_shape h.own
  have e := h.len
  refine ⟨a, cap, by rw [e], fun j r hr => ?_⟩
  have hj := (List.getElem?_eq_some_iff.mp hr).1
  obtain ⟨g, rfl⟩ := own_slice h.own (by omega)
  obtain ⟨u, hu⟩ := getE (l := us) (i := j) (by omega)
  have := World.ownsRow.cells h.own (g := g) rfl j u hu
  rw [addr_add] at this
  exact ⟨g, u, rfl, this, h.row j u r hu hr⟩
end
/-- A shot: its ten slices (names, keys, rows by session, locks by session), what they hold; the rows; who is in a transaction. -/
structure Sx where
  sl : Nat → Value
  xs : Nat → List Value
  rz : Nat → List (List (List Vl))
  act : Nat → Bool
def sty (j : Nat) : TypeId := if j = 0 then 9 else if j = 1 then 3 else if j < 6 then 48 else 3
def shcell (S : Sx) (off : Nat) : Value := if off < 10 then S.sl off else .bool (S.act (off - 10))
structure SHM (lo : Nat) (w : World) (k : Nat) (S : Sx) : Prop where
  has : Has w k (tabV 14 (shcell S)) 67
  own : ∀ j, j < 10 → w.ownsRow 0 (sty j) 1 (S.sl j) (S.xs j).length (S.xs j)
  sep : ∀ i j, i < 10 → j < 10 → i ≠ j → ∀ b, (S.sl i).ownBlock = some b → (S.sl j).ownBlock = some b → False
  new : ∀ b, (b = k ∨ ∃ j, j < 10 ∧ (S.sl j).ownBlock = some b) → lo ≤ b
  row : ∀ s, s < 4 → (S.xs (2 + s)).length = (S.rz s).length ∧ ∀ (t : Nat) (z : Value) (r : List (List Vl)), (S.xs (2 + s))[t]? = some z → (S.rz s)[t]? = some r → ∃ us, RK lo w z r us
section
variable {lo : Nat} {w w' : World} {k : Nat} {S : Sx}
theorem sty_ne (j : Nat) : sty j ≠ 67 ∧ sty j ≠ 47 ∧ sty j ≠ 106 := by
  unfold sty
  split
  · exact ⟨by decide, by decide, by decide⟩
  · split
    · exact ⟨by decide, by decide, by decide⟩
    · split <;> exact ⟨by decide, by decide, by decide⟩
theorem SHM.keep {B : Nat → Prop} (h : SHM lo w k S) (ho : Only B w w') (hB : ∀ b, lo ≤ b → ¬ B b) : SHM lo w' k S := by
  refine ⟨h.has.keep ho (hB k (h.new k (.inl rfl))), fun j hj => ownsRow_keep (h.own j hj) ho (fun b hb => hB b (h.new b (.inr ⟨j, hj, hb⟩))), h.sep, h.new, fun s hs => ⟨(h.row s hs).1, fun t z r hz hr => ?_⟩⟩
  obtain ⟨us, hu⟩ := (h.row s hs).2 t z r hz hr
  exact ⟨us, hu.keep ho (fun b hb _ => hB b hb)⟩
theorem SHM.quiet (h : SHM lo w k S) (ho : Only (fun _ => False) w w') : SHM lo w' k S := h.keep ho (fun _ _ e => e)
theorem SHM.lt (h : SHM lo w k S) : k < w.heap.size := h.has.lt
theorem SHM.mono {lo' : Nat} (h : SHM lo w k S) (hl : lo' ≤ lo) : SHM lo' w k S := by
  refine ⟨h.has, h.own, h.sep, fun b hb => Nat.le_trans hl (h.new b hb), fun s hs => ⟨(h.row s hs).1, fun t z r hz hr => ?_⟩⟩
  obtain ⟨us, hu⟩ := (h.row s hs).2 t z r hz hr
  exact ⟨us, hu.own, hu.len, hu.row, fun b hb => Nat.le_trans hl (hu.nb b hb)⟩
theorem SHM.slc (h : SHM lo w k S) {j : Nat} (hj : j < 10) : w.cell? ⟨k, j, none⟩ = some (S.sl j) := by
  rw [Has.cell h.has, tabV_get _ _ _ (by omega)]
  unfold shcell
  rw [if_pos hj]
theorem SHM.actc (h : SHM lo w k S) {s : Nat} (hs : s < 4) : w.cell? ⟨k, 10 + s, none⟩ = some (.bool (S.act s)) := by
  rw [Has.cell h.has, tabV_get _ _ _ (by omega)]
  unfold shcell
  rw [if_neg (by omega), show 10 + s - 10 = s by omega]
theorem SHM.fr (h : SHM lo w k S) (j : Nat) : w.frozen? ⟨k, j, none⟩ = false := Has.free h.has j
theorem SHM.kne (h : SHM lo w k S) {j : Nat} (hj : j < 10) {b : Nat} (hb : (S.sl j).ownBlock = some b) : b ≠ k :=
  ownsRow_ne (h.own j hj) h.has (sty_ne j).1 b hb
/-- A place of a slice. -/
theorem SHM.at_ (h : SHM lo w k S) {j i : Nat} (hj : j < 10) {x : Value} (hx : (S.xs j)[i]? = some x) : ∃ g cap, S.sl j = .slice (some ⟨g, 0, none⟩) (S.xs j).length cap ∧ w.cell? ⟨g, i, none⟩ = some x := by
  have hi := (List.getElem?_eq_some_iff.mp hx).1
  have ho := h.own j hj
  obtain ⟨a, cap, e⟩ := ownsRow_shape ho
  rw [e] at ho
  obtain ⟨g, rfl⟩ := own_slice ho (by omega)
  have := World.ownsRow.cells ho (g := g) rfl i x hx
  rw [addr_add] at this
  exact ⟨g, cap, e, this⟩
end
/-- A slice turned. -/
def Sx.setS (S : Sx) (j : Nat) (v : Value) (l : List Value) : Sx := { S with sl := fun i => if i = j then v else S.sl i, xs := fun i => if i = j then l else S.xs i }
def Sx.setA (S : Sx) (s : Nat) (b : Bool) : Sx := { S with act := fun i => if i = s then b else S.act i }
def Sx.addR (S : Sx) (s : Nat) (r : List (List Vl)) : Sx := { S with rz := fun i => if i = s then S.rz s ++ [r] else S.rz i }
section
variable {lo : Nat} {w w' : World} {k : Nat} {S : Sx} {s j : Nat} {v : Value}
theorem SHM.hasS (h : Has w k (tabV 14 (shcell S)) 67) (hj : j < 10) (v : Value) (l : List Value) : Has (w.setCell ⟨k, j, none⟩ v) k (tabV 14 (shcell (S.setS j v l))) 67 := by
  have := Has.setCell h j v
  rw [tabV_set] at this
  refine cast (congrArg (fun c => Has (w.setCell ⟨k, j, none⟩ v) k c 67) (tabV_congr 14 (fun i hi => ?_))) this
  unfold shcell
  by_cases e : i = j
  · subst e
    rw [if_pos rfl, if_pos hj]
    show v = if i = i then v else S.sl i
    rw [if_pos rfl]
  · rw [if_neg e]
    by_cases e1 : i < 10
    · rw [if_pos e1, if_pos e1]
      show S.sl i = if i = j then v else S.sl i
      rw [if_neg e]
    · rw [if_neg e1, if_neg e1]; rfl
theorem SHM.setA (h : SHM lo w k S) (hs : s < 4) (b : Bool) : SHM lo (w.setCell ⟨k, 10 + s, none⟩ (.bool b)) k (S.setA s b) := by
  have o : Only (fun b => b = k) w (w.setCell ⟨k, 10 + s, none⟩ (.bool b)) := only1 _ _
  refine ⟨?_, fun j hj => ownsRow_keep (h.own j hj) o (fun b hb e => h.kne hj hb e), h.sep, h.new, fun s' hs' => ⟨(h.row s' hs').1, fun t z r hz hr => ?_⟩⟩
  · have := Has.setCell h.has (10 + s) (.bool b)
    rw [tabV_set] at this
    refine cast (congrArg (fun c => Has (w.setCell ⟨k, 10 + s, none⟩ (.bool b)) k c 67) (tabV_congr 14 (fun i hi => ?_))) this
    unfold shcell
    by_cases e : i = 10 + s
    · subst e
      rw [if_pos rfl, if_neg (by omega), show 10 + s - 10 = s by omega]
      show Value.bool b = .bool (if s = s then b else S.act s)
      rw [if_pos rfl]
    · rw [if_neg e]
      by_cases e1 : i < 10
      · rw [if_pos e1, if_pos e1]; rfl
      · rw [if_neg e1, if_neg e1]
        show Value.bool (S.act (i - 10)) = .bool (if i - 10 = s then b else S.act (i - 10))
        rw [if_neg (by omega)]
  · obtain ⟨us, hu⟩ := (h.row s' hs').2 t z r hz hr
    refine ⟨us, hu.keep o (fun b _ hb e => ?_)⟩
    have e' : b = k := e
    subst e'
    obtain ⟨c, hc | hc⟩ := hb
    · exact Has.ne hc h.has (by decide) rfl
    · exact Has.ne hc h.has (by decide) rfl
/-- The blocks that an append at place j turns. -/
def Sx.U (S : Sx) (k j b : Nat) : Prop := b = k ∨ (S.sl j).ownBlock = some b
theorem SHM.rwU (h : SHM lo w k S) (hj : j < 10) {b : Nat} (hb : RwB w b) : ¬ S.U k j b := by
  obtain ⟨c, hc⟩ := hb
  rintro (e | e)
  · subst e
    rcases hc with hc | hc
    · exact Has.ne hc h.has (by decide) rfl
    · exact Has.ne hc h.has (by decide) rfl
  · rcases hc with hc | hc
    · exact ownsRow_ne (h.own j hj) hc (sty_ne j).2.1 b e rfl
    · exact ownsRow_ne (h.own j hj) hc (sty_ne j).2.2 b e rfl
/-- A slice grown: the other nine stand. -/
theorem SHM.setS (h : SHM lo w k S) (hj : j < 10) {l : List Value} (ho : Only (S.U k j) w w') (hh : Has w' k (tabV 14 (shcell (S.setS j v l))) 67) (hown : w'.ownsRow 0 (sty j) 1 v l.length l) (hb : ∀ b, v.ownBlock = some b → (S.sl j).ownBlock = some b ∨ w.heap.size ≤ b) (hlo : lo ≤ w.heap.size) {rz : Nat → List (List (List Vl))} (hr : ∀ s, s < 4 → ((S.setS j v l).xs (2 + s)).length = (rz s).length ∧ ∀ (t : Nat) (z : Value) (r : List (List Vl)), ((S.setS j v l).xs (2 + s))[t]? = some z → (rz s)[t]? = some r → (∃ us, RK lo w' z r us) ∨ ((S.xs (2 + s))[t]? = some z ∧ (S.rz s)[t]? = some r)) : SHM lo w' k { S.setS j v l with rz := rz } := by
  have hsl : ∀ i, (S.setS j v l).sl i = if i = j then v else S.sl i := fun _ => rfl
  have hxs : ∀ i, (S.setS j v l).xs i = if i = j then l else S.xs i := fun _ => rfl
  refine ⟨hh, fun i hi => ?_, fun a b ha hb' hab c h1 h2 => ?_, fun b hx => ?_, fun s hs => ⟨(hr s hs).1, fun t z r hz hrr => ?_⟩⟩
  · show w'.ownsRow 0 (sty i) 1 ((S.setS j v l).sl i) ((S.setS j v l).xs i).length ((S.setS j v l).xs i)
    rw [hsl, hxs]
    by_cases e : i = j
    · rw [if_pos e, if_pos e, e]; exact hown
    · rw [if_neg e, if_neg e]
      refine ownsRow_keep (h.own i hi) ho (fun b hb hU => ?_)
      rcases hU with c | c
      · exact h.kne hi hb c
      · exact h.sep i j hi hj e b hb c
  · have h1' : ((S.setS j v l).sl a).ownBlock = some c := h1
    have h2' : ((S.setS j v l).sl b).ownBlock = some c := h2
    rw [hsl] at h1' h2'
    by_cases ea : a = j
    · rw [if_pos ea] at h1'
      rw [if_neg (fun e => hab (by rw [ea, e]))] at h2'
      rcases hb c h1' with d | d
      · exact h.sep j b hj hb' (fun e => hab (by rw [ea, e])) c d h2'
      · have := ownsRow_lt (h.own b hb') c h2'; omega
    · rw [if_neg ea] at h1'
      by_cases eb : b = j
      · rw [if_pos eb] at h2'
        rcases hb c h2' with d | d
        · exact h.sep a j ha hj ea c h1' d
        · have := ownsRow_lt (h.own a ha) c h1'; omega
      · rw [if_neg eb] at h2'
        exact h.sep a b ha hb' hab c h1' h2'
  · rcases hx with e | ⟨i, hi, hx⟩
    · exact h.new b (.inl e)
    · have hx' : ((S.setS j v l).sl i).ownBlock = some b := hx
      rw [hsl] at hx'
      by_cases e : i = j
      · rw [if_pos e] at hx'
        rcases hb b hx' with d | d
        · exact h.new b (.inr ⟨j, hj, d⟩)
        · omega
      · rw [if_neg e] at hx'
        exact h.new b (.inr ⟨i, hi, hx'⟩)
  · rcases (hr s hs).2 t z r hz hrr with h1 | ⟨h1, h2⟩
    · exact h1
    · obtain ⟨us, hu⟩ := (h.row s hs).2 t z r h1 h2
      exact ⟨us, hu.keep ho (fun b _ hb => h.rwU hj hb)⟩
end
end Go.Proofs.Qxb6500414aGreat
