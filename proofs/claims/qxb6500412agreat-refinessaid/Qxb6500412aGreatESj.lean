/-
  OWN WORK. TABLE: the store's calls over the database. (written by tools/gen_esj.py)
-/
import Derived.Test.Qxb6500412aGreatEScn
import Derived.Test.Qxb6500412aGreatEScA00
import Derived.Test.Qxb6500412aGreatEScA01
import Derived.Test.Qxb6500412aGreatEScA10
import Derived.Test.Qxb6500412aGreatEScA11
import Derived.Test.Qxb6500412aGreatEScB00
import Derived.Test.Qxb6500412aGreatEScB01
import Derived.Test.Qxb6500412aGreatEScB10
import Derived.Test.Qxb6500412aGreatEScB11
import Derived.Test.Qxb6500412aGreatEOi
import Derived.Test.Qxb6500412aGreatEOu
import Derived.Test.Qxb6500412aGreatEOd
import Derived.Test.Qxb6500412aGreatEOn
import Derived.Test.Qxb6500412aGreatEOt
import Derived.Test.Qxb6500412aGreatECi
namespace Go.Proofs.Qxb6500412aGreat
open Go.RowKit Go.PlainAid
set_option linter.unusedSimpArgs false
set_option linter.unusedVariables false

section
variable {q : Gnd} {w : World} {x : Nat} {op : Bool} {S S1 : Vu} {T : List (Tb × Hd)} {t : Tb} {h : Hd}
/-- The trees hold the database D. -/
def DbQ (q : Gnd) (w : World) (x : Nat) (D : Db) (w' : World) : Prop := (∃ S' T', ST q w' x true S' ∧ Lay S' T' ∧ dbOf T' = D) ∧ Only q.S w w'
theorem DbP.toQ {D' : Db} {Z : Int} {w' : World} (L : Lay S T) (h : DbP q w x S D' Z w') {D : Db} (h0 : Z = 0 → D' = D) (h1 : Z ≠ 0 → dbOf T = D) : DbQ q w x D w' := by
  refine ⟨?_, h.on⟩
  by_cases c : Z = 0
  · obtain ⟨S', T', a, b, e⟩ := h.yes c
    exact ⟨S', T', a, b, e.trans (h0 c)⟩
  · exact ⟨S, T, h.no c, L, h1 c⟩
theorem insR_ok {row : List Vl} (h : (insR t row).2 = 0) : (insR t row).1 = withR t (putBy (pkK t.pk) row t.rows) := by
  unfold insR at *
  split at h
  · rename_i c; exact absurd h c
  · rename_i c
    rw [if_neg c]
    cases hf : fndK t (pkK t.pk row) with
    | some r => rw [hf] at h; cases h
    | none =>
      rw [hf] at h
      simp only at h ⊢
      split at h
      · cases h
      · rename_i c2; rw [if_neg c2]
theorem updR_ok {row : List Vl} (h : (updR t row).2 = 0) : (updR t row).1 = withR t (putBy (pkK t.pk) row t.rows) := by
  unfold updR at *
  split at h
  · rename_i c; exact absurd h c
  · rename_i c
    rw [if_neg c]
    cases hf : fndK t (pkK t.pk row) with
    | none => rw [hf] at h; cases h
    | some r => rfl
theorem delR_ok {key : Vl} (h : (delR t key).2 = 0) : (delR t key).1 = withR t (t.rows.filter (fun r => decide (pkK t.pk r ≠ cV key))) := by
  unfold delR at *
  split at h
  · rename_i c; exact absurd h c
  · rename_i c
    rw [if_neg c]
    cases hf : fndK t (cV key) with
    | none => rw [hf] at h; cases h
    | some r => rfl
theorem cixR_ok {col : Int} (h : (cixR t col).2 = 0) : (cixR t col).1 = { t with ix := some col.toNat } := by
  unfold cixR at *
  split at h
  · cases h
  · rename_i c1
    rw [if_neg c1]
    split at h
    · cases h
    · rename_i c2
      rw [if_neg c2]
      split at h
      · cases h
      · rename_i c3; rw [if_neg c3]
theorem einsert_open (H : ST q w x true S) (L : Lay S T) (nm : ByteArray) {rv : Value} {row : List Vl} (hr : OwnV w rv row) (hrq : ∀ k, rv.ownBlock = some k → ¬ q.S k) (hw : ∀ v ∈ row, v.wf) (hl : row.length ≤ 4) : Calls Tryz.prog 228 #[.pointer (some ⟨x, 0, none⟩), .string nm, rv] w fun e w' => e = .returned (.int .i64 (insD (dbOf T) nm row).2) ∧ DbQ q w x (insD (dbOf T) nm row).1 w' := by
  unfold insD onT
  cases hf : findD (dbOf T) nm with
  | none =>
    refine (einsert_no H L (find_none hf) rv).mono ?_
    rintro e w' ⟨rfl, st, on⟩
    exact ⟨rfl, ⟨S, T, st, L, rfl⟩, on⟩
  | some t =>
    obtain ⟨h, hx, rfl⟩ := find_some hf
    refine (einsert_in H L hx hr hrq hw hl _ rfl).mono ?_
    rintro e w' ⟨rfl, P⟩
    refine ⟨rfl, P.db.toQ L (fun e => ?_) (fun e => ?_)⟩
    · simp only
      rw [if_pos e, db_put, insR_ok e]
    · simp only
      rw [if_neg e]
theorem eupdate_open (H : ST q w x true S) (L : Lay S T) (nm : ByteArray) {rv : Value} {row : List Vl} (hr : OwnV w rv row) (hrq : ∀ k, rv.ownBlock = some k → ¬ q.S k) (hw : ∀ v ∈ row, v.wf) (hl : row.length ≤ 4) : Calls Tryz.prog 227 #[.pointer (some ⟨x, 0, none⟩), .string nm, rv] w fun e w' => e = .returned (.int .i64 (updD (dbOf T) nm row).2) ∧ DbQ q w x (updD (dbOf T) nm row).1 w' := by
  unfold updD onT
  cases hf : findD (dbOf T) nm with
  | none =>
    refine (eupdate_no H L (find_none hf) rv).mono ?_
    rintro e w' ⟨rfl, st, on⟩
    exact ⟨rfl, ⟨S, T, st, L, rfl⟩, on⟩
  | some t =>
    obtain ⟨h, hx, rfl⟩ := find_some hf
    refine (eupdate_in H L hx hr hrq hw hl _ rfl).mono ?_
    rintro e w' ⟨rfl, P⟩
    refine ⟨rfl, P.db.toQ L (fun e => ?_) (fun e => ?_)⟩
    · simp only
      rw [if_pos e, db_put, updR_ok e]
    · simp only
      rw [if_neg e]
theorem edelete_open (H : ST q w x true S) (L : Lay S T) (nm : ByteArray) (key : Vl) (hkw : key.wf) : Calls Tryz.prog 225 #[.pointer (some ⟨x, 0, none⟩), .string nm, vlA key] w fun e w' => e = .returned (.int .i64 (delD (dbOf T) nm key).2) ∧ DbQ q w x (delD (dbOf T) nm key).1 w' := by
  unfold delD onT
  cases hf : findD (dbOf T) nm with
  | none =>
    refine (edelete_no H L (find_none hf) key).mono ?_
    rintro e w' ⟨rfl, st, on⟩
    exact ⟨rfl, ⟨S, T, st, L, rfl⟩, on⟩
  | some t =>
    obtain ⟨h, hx, rfl⟩ := find_some hf
    refine (edelete_in H L hx key hkw _ rfl).mono ?_
    rintro e w' ⟨rfl, P⟩
    refine ⟨rfl, P.db.toQ L (fun e => ?_) (fun e => ?_)⟩
    · simp only
      rw [if_pos e, db_put, delR_ok e]
    · simp only
      rw [if_neg e]
theorem ecreateI_open (H : ST q w x true S) (L : Lay S T) (nm : ByteArray) (col : Int) : Calls Tryz.prog 169 #[.pointer (some ⟨x, 0, none⟩), .string nm, .int .i64 col] w fun e w' => e = .returned (.int .i64 (cixD (dbOf T) nm col).2) ∧ DbQ q w x (cixD (dbOf T) nm col).1 w' := by
  unfold cixD onT
  cases hf : findD (dbOf T) nm with
  | none =>
    refine (ecreateI_no H L (find_none hf) col).mono ?_
    rintro e w' ⟨rfl, st, on⟩
    exact ⟨rfl, ⟨S, T, st, L, rfl⟩, on⟩
  | some t =>
    obtain ⟨h, hx, rfl⟩ := find_some hf
    refine (ecreateI_in H L hx col _ rfl _ (fun _ => rfl)).mono ?_
    rintro e w' ⟨rfl, P⟩
    refine ⟨rfl, P.toQ L (fun e => ?_) (fun e => ?_)⟩
    · simp only
      rw [if_pos e, cixR_ok e]
    · simp only
      rw [if_neg e]
theorem edropT_open (H : ST q w x true S) (L : Lay S T) (nm : ByteArray) : Calls Tryz.prog 168 #[.pointer (some ⟨x, 0, none⟩), .string nm] w fun e w' => e = .returned (.int .i64 (drpD (dbOf T) nm).2) ∧ DbQ q w x (drpD (dbOf T) nm).1 w' := by
  unfold drpD
  cases hf : findD (dbOf T) nm with
  | none =>
    refine (edropT_no H L (find_none hf)).mono ?_
    rintro e w' ⟨rfl, st, on⟩
    exact ⟨rfl, ⟨S, T, st, L, rfl⟩, on⟩
  | some t =>
    obtain ⟨h, hx, rfl⟩ := find_some hf
    refine (edropT_in H L hx).mono ?_
    rintro e w' ⟨rfl, ⟨S', st, L'⟩, on⟩
    exact ⟨rfl, ⟨S', _, st, L', db_drop _⟩, on⟩
theorem ecreateT_any (H : ST q w x true S) (L : Lay S T) (nm : ByteArray) {cv : Value} {cols : List Cl} (hc : OwnC w cv cols) (hcq : ∀ k, cv.ownBlock = some k → ¬ q.S k) (hc4 : cols.length ≤ 100) (pk : Int) : Calls Tryz.prog 167 #[.pointer (some ⟨x, 0, none⟩), .string nm, cv, .int .i64 pk] w fun e w' => e = .returned (.int .i64 (crtD (dbOf T) nm cols pk).2) ∧ DbQ q w x (crtD (dbOf T) nm cols pk).1 w' := by
  refine (ecreateT_open H L nm hc hcq hc4 pk _ rfl _ rfl).mono ?_
  rintro e w' ⟨rfl, P⟩
  refine ⟨rfl, P.toQ L (fun _ => rfl) (fun e => ?_)⟩
  unfold crtD at *
  split at e
  · rename_i c; rw [if_pos c]
  · rename_i c
    rw [if_neg c]
    split at e
    · rename_i c2; rw [if_pos c2]
    · rename_i c2
      rw [if_neg c2]
      cases hf : findD (dbOf T) nm with
      | some t => rfl
      | none =>
        rw [hf] at e
        simp only at e ⊢
        split at e
        · rename_i c3; rw [if_pos c3]
        · exact absurd rfl e
set_option maxRecDepth 100000 in
set_option maxHeartbeats 4000000 in
theorem escan_no (H : ST q w x op S) (L : Lay S T) {nm : ByteArray} (hno : ∀ y ∈ T, y.1.nm ≠ nm) (col : Int) (lh hh : Bool) (lv hv : Vl) : Calls Tryz.prog 175 #[.pointer (some ⟨x, 0, none⟩), .string nm, .int .i64 col, bdA lh lv, bdA hh hv] w fun e w' => e = .returned (.tuple #[.slice none 0 0, .int .i64 10]) ∧ ST q w' x op S ∧ Only q.S w w' := by
  have o0 : Only (fun _ => False) w ((w.alloc (.cells #[.bool lh, .bool lv.str, .int .i64 lv.i, .string lv.s] 244)).alloc (.cells #[.bool hh, .bool hv.str, .int .i64 hv.i, .string hv.s] 244)) := ((Only.refl _ w).alloc _).alloc _
  have CL := hide (eload_no (H.quiet o0) L hno)
  unfold bdA
  go_enter Tryz.func175, Tryz.ntmps175
  go_wp2_with fail
  refine (unhide CL).mono ?_
  rintro e w1 ⟨rfl, st1, o1⟩
  have HO := hide (show ST q ((w1.alloc (.cells hdZ 275)).alloc (.cells scN 79)) x op S ∧ Only q.S w ((w1.alloc (.cells hdZ 275)).alloc (.cells scN 79)) from ⟨st1.quiet (((Only.refl _ w1).alloc _).alloc _), ((o0.toS (q := q)).ss o1).andS (((Only.refl _ w1).alloc _).alloc _)⟩)
  clear st1 o1 CL
  unfold hdZ scN at HO
  unfold hdZ scN
  go_wp2_with fail
  go_ret2
  exact ⟨rfl, unhide HO⟩
theorem escan_any (H : ST q w x op S) (L : Lay S T) (nm : ByteArray) (col : Int) (lh hh : Bool) (lv hv : Vl) (hlw : lv.wf) (hhw : hv.wf) : Calls Tryz.prog 175 #[.pointer (some ⟨x, 0, none⟩), .string nm, .int .i64 col, bdA lh lv, bdA hh hv] w fun e w' => ∃ v, e = .returned (.tuple #[v, .int .i64 (scnD (dbOf T) nm col (bndOf lh lv) (bndOf hh hv)).2]) ∧ OwnRR w.heap.size w' v (scnD (dbOf T) nm col (bndOf lh lv) (bndOf hh hv)).1 ∧ ST q w' x op S ∧ Only q.S w w' := by
  unfold scnD
  cases hf : findD (dbOf T) nm with
  | none =>
    refine (escan_no H L (find_none hf) col lh hh lv hv).mono ?_
    rintro e w' ⟨rfl, h⟩
    exact ⟨_, rfl, OwnRR.nil _ _, h⟩
  | some t =>
    obtain ⟨h, hx, rfl⟩ := find_some hf
    have e1 : (if scnE t col (bndOf lh lv) (bndOf hh hv) = 0 then (scnL t col.toNat (bndOf lh lv) (bndOf hh hv), (0 : Int)) else ([], scnE t col (bndOf lh lv) (bndOf hh hv))).2 = scnE t col (bndOf lh lv) (bndOf hh hv) := by
      split
      · rename_i c; exact c.symm
      · rfl
    have e2 : (if scnE t col (bndOf lh lv) (bndOf hh hv) = 0 then (scnL t col.toNat (bndOf lh lv) (bndOf hh hv), (0 : Int)) else ([], scnE t col (bndOf lh lv) (bndOf hh hv))).1 = (if scnE t col (bndOf lh lv) (bndOf hh hv) = 0 then scnL t col.toNat (bndOf lh lv) (bndOf hh hv) else []) := by
      split <;> rfl
    simp only
    rw [e1, e2]
    by_cases hb : col < 0 ∨ (t.cols.length : Int) ≤ col ∨ (col ≠ (t.pk : Int) ∧ col ≠ ixI t.ix)
    · exact escan_bad H L hx col lh hh hb lv hv _ rfl _ rfl
    · obtain ⟨c, rfl⟩ : ∃ c : Nat, col = (c : Int) := ⟨col.toNat, by omega⟩
      obtain ⟨cl, hcl⟩ := getE (l := t.cols) (i := c) (by omega)
      by_cases hp : c = t.pk
      · cases lh <;> cases hh
        · exact escan_A00 H L hx c lv hv hlw hhw cl hcl hp _ rfl _ rfl
        · exact escan_A01 H L hx c lv hv hlw hhw cl hcl hp _ rfl _ rfl
        · exact escan_A10 H L hx c lv hv hlw hhw cl hcl hp _ rfl _ rfl
        · exact escan_A11 H L hx c lv hv hlw hhw cl hcl hp _ rfl _ rfl
      · have hcx : t.ix = some c := by
          cases e : t.ix with
          | none => exfalso; apply hb; right; right; rw [e]; exact ⟨by omega, by simp only [ixI]; omega⟩
          | some d =>
            by_cases f : d = c
            · rw [f]
            · exfalso; apply hb; right; right; rw [e]; exact ⟨by omega, by simp only [ixI]; omega⟩
        cases lh <;> cases hh
        · exact escan_B00 H L hx c lv hv hlw hhw cl hcl hp hcx _ rfl _ rfl
        · exact escan_B01 H L hx c lv hv hlw hhw cl hcl hp hcx _ rfl _ rfl
        · exact escan_B10 H L hx c lv hv hlw hhw cl hcl hp hcx _ rfl _ rfl
        · exact escan_B11 H L hx c lv hv hlw hhw cl hcl hp hcx _ rfl _ rfl

end
end Go.Proofs.Qxb6500412aGreat
