/-
  OWN WORK. TABLE: what the calls do to the database. No program in sight.
-/
import Derived.Test.Qxb6500412aGreatEOpR
namespace Go.Proofs.Qxb6500412aGreat
open Go.RowKit Go.PlainAid
set_option linter.unusedSimpArgs false
set_option linter.unusedVariables false

def findD (D : Db) (nm : ByteArray) : Option Tb := D.find? (fun t => decide (t.nm = nm))
def putT (t : Tb) (D : Db) : Db := putBy (fun t : Tb => t.nm) t D
def dbOf (T : List (Tb × Hd)) : Db := T.map (fun x => x.1)
def fndK (t : Tb) (k : ByteArray) : Option (List Vl) := t.rows.find? (fun r => decide (pkK t.pk r = k))
def insR (t : Tb) (row : List Vl) : Tb × Int :=
  if chkRow t.cols row ≠ 0 then (t, chkRow t.cols row) else match fndK t (pkK t.pk row) with
  | some _ => (t, 17)
  | none => if 8 ≤ t.rows.length then (t, 6) else (withR t (putBy (pkK t.pk) row t.rows), 0)
def updR (t : Tb) (row : List Vl) : Tb × Int :=
  if chkRow t.cols row ≠ 0 then (t, chkRow t.cols row) else match fndK t (pkK t.pk row) with
  | none => (t, 9)
  | some _ => (withR t (putBy (pkK t.pk) row t.rows), 0)
def chkKey (t : Tb) (key : Vl) : Int := chkVal ((t.cols[t.pk]?).getD (eB, false)) key
def delR (t : Tb) (key : Vl) : Tb × Int :=
  if chkKey t key ≠ 0 then (t, chkKey t key) else match fndK t (cV key) with
  | none => (t, 9)
  | some _ => (withR t (t.rows.filter (fun r => decide (pkK t.pk r ≠ cV key))), 0)
def lkpR (t : Tb) (key : Vl) : List Vl × Int :=
  if chkKey t key ≠ 0 then ([], chkKey t key) else match fndK t (cV key) with
  | none => ([], 9)
  | some r => (r, 0)
def onT (D : Db) (nm : ByteArray) (f : Tb → Tb × Int) : Db × Int := match findD D nm with
  | none => (D, 10)
  | some t => (if (f t).2 = 0 then putT (f t).1 D else D, (f t).2)
def insD (D : Db) (nm : ByteArray) (row : List Vl) : Db × Int := onT D nm (fun t => insR t row)
def updD (D : Db) (nm : ByteArray) (row : List Vl) : Db × Int := onT D nm (fun t => updR t row)
def delD (D : Db) (nm : ByteArray) (key : Vl) : Db × Int := onT D nm (fun t => delR t key)
def cixR (t : Tb) (col : Int) : Tb × Int :=
  if col < 0 ∨ (t.cols.length : Int) ≤ col then (t, 14) else if col = (t.pk : Int) then (t, 18) else if t.ix.isSome then (t, 11) else ({ t with ix := some col.toNat }, 0)
def cixD (D : Db) (nm : ByteArray) (col : Int) : Db × Int := onT D nm (fun t => cixR t col)
def lkpD (D : Db) (nm : ByteArray) (key : Vl) : List Vl × Int := match findD D nm with
  | none => ([], 10)
  | some t => lkpR t key
def drpD (D : Db) (nm : ByteArray) : Db × Int := match findD D nm with
  | none => (D, 10)
  | some _ => (D.filter (fun t => decide (t.nm ≠ nm)), 0)
def crtD (D : Db) (nm : ByteArray) (cols : List Cl) (pk : Int) : Db × Int :=
  if ¬ gdN nm then (D, 12) else if ¬ GdC cols pk then (D, 13) else match findD D nm with
  | some _ => (D, 11)
  | none => if 3 ≤ D.length then (D, 6) else (putT ⟨nm, cols, pk.toNat, none, []⟩ D, 0)
/-- The rows a scan shows. -/
def scnL (t : Tb) (c : Nat) (lo hi : Bnd) : List (List Vl) := (if c = t.pk then t.rows else idxR t.pk c t.rows).filter (fun r => inB lo hi (kyR c r))
def bndT (c : Cl) (lo : Bnd) : Bool := match lo with
  | none => true
  | some v => decide (v.str = c.2)
def bndS (lo : Bnd) : Bool := match lo with
  | none => true
  | some v => decide (v.s.size ≤ 7)
def scnE (t : Tb) (col : Int) (lo hi : Bnd) : Int :=
  if col < 0 ∨ (t.cols.length : Int) ≤ col then 14 else if col ≠ (t.pk : Int) ∧ col ≠ ixI t.ix then 19 else
  if bndT ((t.cols[col.toNat]?).getD (eB, false)) lo && bndT ((t.cols[col.toNat]?).getD (eB, false)) hi then (if bndS lo && bndS hi then 0 else 16) else 15
def scnD (D : Db) (nm : ByteArray) (col : Int) (lo hi : Bnd) : List (List Vl) × Int := match findD D nm with
  | none => ([], 10)
  | some t => if scnE t col lo hi = 0 then (scnL t col.toNat lo hi, 0) else ([], scnE t col lo hi)
def namesD (D : Db) : List ByteArray := D.map (fun t => t.nm)
section
variable {S : Vu} {T : List (Tb × Hd)}
theorem find_some {nm : ByteArray} {t : Tb} (h : findD (dbOf T) nm = some t) : ∃ hd, (t, hd) ∈ T ∧ t.nm = nm := by
  unfold findD dbOf at h
  have h1 := List.mem_of_find?_eq_some h
  have h2 := List.find?_some h
  obtain ⟨x, hx, rfl⟩ := List.mem_map.mp h1
  exact ⟨x.2, hx, by simpa using h2⟩
theorem find_none {nm : ByteArray} (h : findD (dbOf T) nm = none) : ∀ y ∈ T, y.1.nm ≠ nm := by
  intro y hy
  unfold findD dbOf at h
  have := List.find?_eq_none.mp h y.1 (List.mem_map.mpr ⟨y, hy, rfl⟩)
  simpa using this
theorem db_put (x : Tb × Hd) : dbOf (putBy (fun x : Tb × Hd => x.1.nm) x T) = putT x.1 (dbOf T) := putBy_map _ _ _ (fun _ => rfl) x T
theorem db_drop (nm : ByteArray) : dbOf (T.filter (fun y => decide (y.1.nm ≠ nm))) = (dbOf T).filter (fun t => decide (t.nm ≠ nm)) := by
  unfold dbOf
  rw [List.filter_map]
  rfl
theorem db_len : (dbOf T).length = T.length := by simp [dbOf]
end
theorem chkRow_ok {c : List Cl} {r : List Vl} (h : chkRow c r = 0) (hw : ∀ v ∈ r, v.wf) : RowOk c r := by
  unfold chkRow at h
  split at h
  · rename_i h1
    split at h
    · rename_i h2
      exact ⟨h1, fun v hv => ⟨hw v hv, h2 v hv⟩⟩
    · cases h
  · cases h
theorem chkVal_ok {c : Cl} {v : Vl} (h : chkVal c v = 0) (hw : v.wf) : v.fit ∧ v.str = c.2 := by
  unfold chkVal at h
  split at h
  · rename_i h1
    split at h
    · rename_i h2
      exact ⟨⟨hw, h2⟩, h1⟩
    · cases h
  · cases h
end Go.Proofs.Qxb6500412aGreat
