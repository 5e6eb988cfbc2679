/-
  OWN WORK. THE TABLE LAW's MODEL: Scan, joined (written by tools/gen_mm15.py).
-/
import Derived.Test.Qxb6500412aGreatMM1600
import Derived.Test.Qxb6500412aGreatMM1601
import Derived.Test.Qxb6500412aGreatMM1610
import Derived.Test.Qxb6500412aGreatMM1611
namespace Go.Proofs.Qxb6500412aGreat
open Go.RowKit Go.PlainAid
set_option linter.unusedSimpArgs false
set_option linter.unusedVariables false

section
variable {w : World} {dk o : Nat} {v : Value} {l : List GE} {D : Db} {t : Tb} {nm : ByteArray}
theorem mdbScan_any (M : MDb w dk o v l D) (nm : ByteArray) (col : Int) (lh hh : Bool) (lv hv : Vl) (hlw : lv.wf) (hhw : hv.wf) : Calls Tryz.prog 331 #[.pointer (some ⟨dk, o, none⟩), .string nm, .int .i64 col, bdA lh lv, bdA hh hv] w (FrS w (scnD D nm col (bndOf lh lv) (bndOf hh hv)).1 (scnD D nm col (bndOf lh lv) (bndOf hh hv)).2) := by
  cases hf : findD D nm with
  | none => exact mscan_no M hf col lh hh lv hv
  | some t =>
    by_cases hb : col < 0 ∨ (t.cols.length : Int) ≤ col ∨ (col ≠ (t.pk : Int) ∧ col ≠ ixI t.ix)
    · exact mscan_bad M hf col lh hh lv hv hb
    · obtain ⟨c, rfl⟩ : ∃ c : Nat, col = c := ⟨col.toNat, by omega⟩
      obtain ⟨cl, hcl⟩ := getE (l := t.cols) (i := c) (by omega)
      have hcx : c = t.pk ∨ t.ix = some c := by
        by_cases e : c = t.pk
        · exact .inl e
        · right
          have e2 : (c : Int) = ixI t.ix := by
            by_cases e3 : (c : Int) = ixI t.ix
            · exact e3
            · exact absurd (.inr (.inr ⟨by omega, e3⟩)) hb
          cases hx : t.ix with
          | none => rw [hx] at e2; simp only [ixI] at e2; omega
          | some k => rw [hx] at e2; simp only [ixI] at e2; rw [show c = k by omega]
      cases lh with
      | false =>
        cases hh with
        | false => exact mscan_00 M hf c lv hv hlw hhw cl hcl hcx
        | true => exact mscan_01 M hf c lv hv hlw hhw cl hcl hcx
      | true =>
        cases hh with
        | false => exact mscan_10 M hf c lv hv hlw hhw cl hcl hcx
        | true => exact mscan_11 M hf c lv hv hlw hhw cl hcl hcx
end
end Go.Proofs.Qxb6500412aGreat
