/-
  OWN WORK. THE TABLE MODEL's STORE: Scan.
-/
import Derived.Test.Qxb6500413aGreatMS2
import Derived.Test.Qxb6500413aGreatMM17
namespace Go.Proofs.Qxb6500413aGreat
open Go.RowKit Go.PlainAid
set_option linter.unusedSimpArgs false
set_option linter.unusedVariables false

section
variable {w w' : World} {m : Nat} {S T U : Db} {hist : Option Db} {op : Bool} {H : Nat → Prop}
set_option maxRecDepth 100000 in
set_option maxHeartbeats 1000000 in
theorem yscan_any (h : YAt w m S T U hist op H) (nm : ByteArray) (col : Int) (lh hh : Bool) (lv hv : Vl) (hlw : lv.wf) (hhw : hv.wf) : Calls Tryz.prog 129 #[.pointer (some ⟨m, 0, none⟩), .string nm, .int .i64 col, bdA lh lv, bdA hh hv] w (FrR w (scnD S nm col (bndOf lh lv) (bndOf hh hv)).1 (scnD S nm col (bndOf lh lv) (bndOf hh hv)).2) := by
  obtain ⟨R, z, hR⟩ : ∃ R z, scnD S nm col (bndOf lh lv) (bndOf hh hv) = (R, z) := ⟨_, _, rfl⟩
  rw [hR]
  have HR := hide hR
  clear hR
  have o0 : Only (fun _ => False) w ((w.alloc (.cells #[.bool lh, .bool lv.str, .int .i64 lv.i, .string lv.s] 74)).alloc (.cells #[.bool hh, .bool hv.str, .int .i64 hv.i, .string hv.s] 74)) := ((Only.refl _ w).alloc _).alloc _
  have KL : Has ((w.alloc (.cells #[.bool lh, .bool lv.str, .int .i64 lv.i, .string lv.s] 74)).alloc (.cells #[.bool hh, .bool hv.str, .int .i64 hv.i, .string hv.s] 74)) w.heap.size #[.bool lh, .bool lv.str, .int .i64 lv.i, .string lv.s] 74 := (Has.new w _ _).alloc _
  have KH : Has ((w.alloc (.cells #[.bool lh, .bool lv.str, .int .i64 lv.i, .string lv.s] 74)).alloc (.cells #[.bool hh, .bool hv.str, .int .i64 hv.i, .string hv.s] 74)) (w.heap.size + 1) #[.bool hh, .bool hv.str, .int .i64 hv.i, .string hv.s] 74 := Has.new' _ _ _ _ (by simp)
  have HH := hide (And.intro h (And.intro o0 (And.intro KL KH)))
  clear h o0 KL KH
  unfold bdA
  go_enter Tryz.func129, Tryz.ntmps129
  go_upto_region 1 with fail
  generalize (w.alloc (.cells #[.bool lh, .bool lv.str, .int .i64 lv.i, .string lv.s] 74)).alloc (.cells #[.bool hh, .bool hv.str, .int .i64 hv.i, .string hv.s] 74) = w1 at *
  have hsz := (unhide HH).2.2.2.lt
  generalize hkb : w.heap.size = kb at *
  have l0 := (unhide HH).2.2.1.cell 0
  have l1 := (unhide HH).2.2.1.cell 1
  have l2 := (unhide HH).2.2.1.cell 2
  have l3 := (unhide HH).2.2.1.cell 3
  have m0 := (unhide HH).2.2.2.cell 0
  have m1 := (unhide HH).2.2.2.cell 1
  have m2 := (unhide HH).2.2.2.cell 2
  have m3 := (unhide HH).2.2.2.cell 3
  simp at l0 l1 l2 l3 m0 m1 m2 m3
  have hd : Only (fun _ => False) w w1.drew := (unhide HH).2.1.drew
  obtain ⟨v, l, M⟩ := ((unhide HH).1.quiet hd).see
  have CC := mdbScan_any M nm col lh hh lv hv hlw hhw
  unfold bdA at CC
  have HD := hide hd
  rw [unhide HR] at CC
  have CC := hide CC
  clear M hd hkb
  go_region_with (go_at_call 192; refine (unhide CC).mono ?_; rintro x w2 ⟨rv, Z, rfl, h1, h2, h3, h4, o2⟩; have HP := hide (FrR.low (unhide HD) (show FrR w1.drew R z (.returned (.tuple #[rv, .int .i64 z])) w2 from ⟨rv, Z, rfl, h1, h2, h3, h4, o2⟩)); clear h1 h2 h3 h4 o2)
  all_goals
    go_wp2_with fail
    go_ret2
    exact unhide HP
end
end Go.Proofs.Qxb6500413aGreat
