/-
  OWN WORK. TABLE: calls refused by loadTxn. (written by tools/gen_eon.py)
-/
import Derived.Test.Qxb6500412aGreatEOb
import Derived.Test.Qxb6500412aGreatELk
namespace Go.Proofs.Qxb6500412aGreat
open Go.RowKit Go.PlainAid
set_option linter.unusedSimpArgs false
set_option linter.unusedVariables false

section
variable {q : Gnd} {w : World} {x : Nat} {op : Bool} {S S1 : Vu} {T : List (Tb × Hd)} {t : Tb} {h : Hd}
set_option maxRecDepth 100000 in
set_option maxHeartbeats 4000000 in
theorem einsert_no (H : ST q w x true S) (L : Lay S T) {nm : ByteArray} (hno : ∀ y ∈ T, y.1.nm ≠ nm) (rv : Value) : Calls Tryz.prog 228 #[.pointer (some ⟨x, 0, none⟩), .string nm, rv] w fun e w' => e = .returned (.int .i64 10) ∧ ST q w' x true S ∧ Only q.S w w' := by
  have CL := hide (eloadTxn_no H L hno)
  go_enter Tryz.func228, Tryz.ntmps228
  go_wp2_with fail
  refine (unhide CL).mono ?_
  rintro e w1 ⟨rfl, st1, o1⟩
  have HO := hide (show ST q ((w1.alloc (.cells hdZ 275)).alloc (.cells scN 79)) x true S ∧ Only q.S w ((w1.alloc (.cells hdZ 275)).alloc (.cells scN 79)) from ⟨st1.quiet (((Only.refl _ w1).alloc _).alloc _), o1.andS (((Only.refl _ w1).alloc _).alloc _)⟩)
  have HO1 := hide (show ST q (w1.alloc (.cells hdZ 275)) x true S ∧ Only q.S w (w1.alloc (.cells hdZ 275)) from ⟨st1.quiet ((Only.refl _ w1).alloc _), o1.andS ((Only.refl _ w1).alloc _)⟩)
  clear st1 o1 CL
  unfold hdZ scN at HO
  unfold hdZ at HO1
  unfold hdZ scN
  go_wp2_with fail
  go_ret
  first
  | exact ⟨rfl, unhide HO⟩
  | exact ⟨rfl, unhide HO1⟩
set_option maxRecDepth 100000 in
set_option maxHeartbeats 4000000 in
theorem einsert_shut (H : ST q w x false S) (nm : ByteArray) (rv : Value) : Calls Tryz.prog 228 #[.pointer (some ⟨x, 0, none⟩), .string nm, rv] w fun e w' => e = .returned (.int .i64 2) ∧ ST q w' x false S ∧ Only q.S w w' := by
  have CL := hide (eloadTxn_shut H nm)
  go_enter Tryz.func228, Tryz.ntmps228
  go_wp2_with fail
  refine (unhide CL).mono ?_
  rintro e w1 ⟨rfl, st1, o1⟩
  have HO := hide (show ST q ((w1.alloc (.cells hdZ 275)).alloc (.cells scN 79)) x false S ∧ Only q.S w ((w1.alloc (.cells hdZ 275)).alloc (.cells scN 79)) from ⟨st1.quiet (((Only.refl _ w1).alloc _).alloc _), o1.andS (((Only.refl _ w1).alloc _).alloc _)⟩)
  have HO1 := hide (show ST q (w1.alloc (.cells hdZ 275)) x false S ∧ Only q.S w (w1.alloc (.cells hdZ 275)) from ⟨st1.quiet ((Only.refl _ w1).alloc _), o1.andS ((Only.refl _ w1).alloc _)⟩)
  clear st1 o1 CL
  unfold hdZ scN at HO
  unfold hdZ at HO1
  unfold hdZ scN
  go_wp2_with fail
  go_ret
  first
  | exact ⟨rfl, unhide HO⟩
  | exact ⟨rfl, unhide HO1⟩
set_option maxRecDepth 100000 in
set_option maxHeartbeats 4000000 in
theorem eupdate_no (H : ST q w x true S) (L : Lay S T) {nm : ByteArray} (hno : ∀ y ∈ T, y.1.nm ≠ nm) (rv : Value) : Calls Tryz.prog 227 #[.pointer (some ⟨x, 0, none⟩), .string nm, rv] w fun e w' => e = .returned (.int .i64 10) ∧ ST q w' x true S ∧ Only q.S w w' := by
  have CL := hide (eloadTxn_no H L hno)
  go_enter Tryz.func227, Tryz.ntmps227
  go_wp2_with fail
  refine (unhide CL).mono ?_
  rintro e w1 ⟨rfl, st1, o1⟩
  have HO := hide (show ST q ((w1.alloc (.cells hdZ 275)).alloc (.cells scN 79)) x true S ∧ Only q.S w ((w1.alloc (.cells hdZ 275)).alloc (.cells scN 79)) from ⟨st1.quiet (((Only.refl _ w1).alloc _).alloc _), o1.andS (((Only.refl _ w1).alloc _).alloc _)⟩)
  have HO1 := hide (show ST q (w1.alloc (.cells hdZ 275)) x true S ∧ Only q.S w (w1.alloc (.cells hdZ 275)) from ⟨st1.quiet ((Only.refl _ w1).alloc _), o1.andS ((Only.refl _ w1).alloc _)⟩)
  clear st1 o1 CL
  unfold hdZ scN at HO
  unfold hdZ at HO1
  unfold hdZ scN
  go_wp2_with fail
  go_ret
  first
  | exact ⟨rfl, unhide HO⟩
  | exact ⟨rfl, unhide HO1⟩
set_option maxRecDepth 100000 in
set_option maxHeartbeats 4000000 in
theorem eupdate_shut (H : ST q w x false S) (nm : ByteArray) (rv : Value) : Calls Tryz.prog 227 #[.pointer (some ⟨x, 0, none⟩), .string nm, rv] w fun e w' => e = .returned (.int .i64 2) ∧ ST q w' x false S ∧ Only q.S w w' := by
  have CL := hide (eloadTxn_shut H nm)
  go_enter Tryz.func227, Tryz.ntmps227
  go_wp2_with fail
  refine (unhide CL).mono ?_
  rintro e w1 ⟨rfl, st1, o1⟩
  have HO := hide (show ST q ((w1.alloc (.cells hdZ 275)).alloc (.cells scN 79)) x false S ∧ Only q.S w ((w1.alloc (.cells hdZ 275)).alloc (.cells scN 79)) from ⟨st1.quiet (((Only.refl _ w1).alloc _).alloc _), o1.andS (((Only.refl _ w1).alloc _).alloc _)⟩)
  have HO1 := hide (show ST q (w1.alloc (.cells hdZ 275)) x false S ∧ Only q.S w (w1.alloc (.cells hdZ 275)) from ⟨st1.quiet ((Only.refl _ w1).alloc _), o1.andS ((Only.refl _ w1).alloc _)⟩)
  clear st1 o1 CL
  unfold hdZ scN at HO
  unfold hdZ at HO1
  unfold hdZ scN
  go_wp2_with fail
  go_ret
  first
  | exact ⟨rfl, unhide HO⟩
  | exact ⟨rfl, unhide HO1⟩
set_option maxRecDepth 100000 in
set_option maxHeartbeats 4000000 in
theorem edelete_no (H : ST q w x true S) (L : Lay S T) {nm : ByteArray} (hno : ∀ y ∈ T, y.1.nm ≠ nm) (key : Vl) : Calls Tryz.prog 225 #[.pointer (some ⟨x, 0, none⟩), .string nm, vlA key] w fun e w' => e = .returned (.int .i64 10) ∧ ST q w' x true S ∧ Only q.S w w' := by
  have o0 : Only (fun _ => False) w (w.alloc (.cells #[.bool key.str, .int .i64 key.i, .string key.s] 152)) := (Only.refl _ w).alloc _
  unfold vlA
  have CL := hide (eloadTxn_no (H.quiet o0) L hno)
  go_enter Tryz.func225, Tryz.ntmps225
  go_wp2_with fail
  refine (unhide CL).mono ?_
  rintro e w1 ⟨rfl, st1, o1⟩
  have HO := hide (show ST q ((w1.alloc (.cells hdZ 275)).alloc (.cells scN 79)) x true S ∧ Only q.S w ((w1.alloc (.cells hdZ 275)).alloc (.cells scN 79)) from ⟨st1.quiet (((Only.refl _ w1).alloc _).alloc _), ((o0.toS (q := q)).ss o1).andS (((Only.refl _ w1).alloc _).alloc _)⟩)
  have HO1 := hide (show ST q (w1.alloc (.cells hdZ 275)) x true S ∧ Only q.S w (w1.alloc (.cells hdZ 275)) from ⟨st1.quiet ((Only.refl _ w1).alloc _), ((o0.toS (q := q)).ss o1).andS ((Only.refl _ w1).alloc _)⟩)
  clear st1 o1 CL
  unfold hdZ scN at HO
  unfold hdZ at HO1
  unfold hdZ scN
  go_wp2_with fail
  go_ret
  first
  | exact ⟨rfl, unhide HO⟩
  | exact ⟨rfl, unhide HO1⟩
set_option maxRecDepth 100000 in
set_option maxHeartbeats 4000000 in
theorem edelete_shut (H : ST q w x false S) (nm : ByteArray) (key : Vl) : Calls Tryz.prog 225 #[.pointer (some ⟨x, 0, none⟩), .string nm, vlA key] w fun e w' => e = .returned (.int .i64 2) ∧ ST q w' x false S ∧ Only q.S w w' := by
  have o0 : Only (fun _ => False) w (w.alloc (.cells #[.bool key.str, .int .i64 key.i, .string key.s] 152)) := (Only.refl _ w).alloc _
  unfold vlA
  have CL := hide (eloadTxn_shut (H.quiet o0) nm)
  go_enter Tryz.func225, Tryz.ntmps225
  go_wp2_with fail
  refine (unhide CL).mono ?_
  rintro e w1 ⟨rfl, st1, o1⟩
  have HO := hide (show ST q ((w1.alloc (.cells hdZ 275)).alloc (.cells scN 79)) x false S ∧ Only q.S w ((w1.alloc (.cells hdZ 275)).alloc (.cells scN 79)) from ⟨st1.quiet (((Only.refl _ w1).alloc _).alloc _), ((o0.toS (q := q)).ss o1).andS (((Only.refl _ w1).alloc _).alloc _)⟩)
  have HO1 := hide (show ST q (w1.alloc (.cells hdZ 275)) x false S ∧ Only q.S w (w1.alloc (.cells hdZ 275)) from ⟨st1.quiet ((Only.refl _ w1).alloc _), ((o0.toS (q := q)).ss o1).andS ((Only.refl _ w1).alloc _)⟩)
  clear st1 o1 CL
  unfold hdZ scN at HO
  unfold hdZ at HO1
  unfold hdZ scN
  go_wp2_with fail
  go_ret
  first
  | exact ⟨rfl, unhide HO⟩
  | exact ⟨rfl, unhide HO1⟩
set_option maxRecDepth 100000 in
set_option maxHeartbeats 4000000 in
theorem edropT_no (H : ST q w x true S) (L : Lay S T) {nm : ByteArray} (hno : ∀ y ∈ T, y.1.nm ≠ nm)  : Calls Tryz.prog 168 #[.pointer (some ⟨x, 0, none⟩), .string nm] w fun e w' => e = .returned (.int .i64 10) ∧ ST q w' x true S ∧ Only q.S w w' := by
  have CL := hide (eloadTxn_no H L hno)
  go_enter Tryz.func168, Tryz.ntmps168
  go_wp2_with fail
  refine (unhide CL).mono ?_
  rintro e w1 ⟨rfl, st1, o1⟩
  have HO := hide (show ST q ((w1.alloc (.cells hdZ 275)).alloc (.cells scN 79)) x true S ∧ Only q.S w ((w1.alloc (.cells hdZ 275)).alloc (.cells scN 79)) from ⟨st1.quiet (((Only.refl _ w1).alloc _).alloc _), o1.andS (((Only.refl _ w1).alloc _).alloc _)⟩)
  have HO1 := hide (show ST q (w1.alloc (.cells hdZ 275)) x true S ∧ Only q.S w (w1.alloc (.cells hdZ 275)) from ⟨st1.quiet ((Only.refl _ w1).alloc _), o1.andS ((Only.refl _ w1).alloc _)⟩)
  clear st1 o1 CL
  unfold hdZ scN at HO
  unfold hdZ at HO1
  unfold hdZ scN
  go_wp2_with fail
  go_ret
  first
  | exact ⟨rfl, unhide HO⟩
  | exact ⟨rfl, unhide HO1⟩
set_option maxRecDepth 100000 in
set_option maxHeartbeats 4000000 in
theorem edropT_shut (H : ST q w x false S) (nm : ByteArray)  : Calls Tryz.prog 168 #[.pointer (some ⟨x, 0, none⟩), .string nm] w fun e w' => e = .returned (.int .i64 2) ∧ ST q w' x false S ∧ Only q.S w w' := by
  have CL := hide (eloadTxn_shut H nm)
  go_enter Tryz.func168, Tryz.ntmps168
  go_wp2_with fail
  refine (unhide CL).mono ?_
  rintro e w1 ⟨rfl, st1, o1⟩
  have HO := hide (show ST q ((w1.alloc (.cells hdZ 275)).alloc (.cells scN 79)) x false S ∧ Only q.S w ((w1.alloc (.cells hdZ 275)).alloc (.cells scN 79)) from ⟨st1.quiet (((Only.refl _ w1).alloc _).alloc _), o1.andS (((Only.refl _ w1).alloc _).alloc _)⟩)
  have HO1 := hide (show ST q (w1.alloc (.cells hdZ 275)) x false S ∧ Only q.S w (w1.alloc (.cells hdZ 275)) from ⟨st1.quiet ((Only.refl _ w1).alloc _), o1.andS ((Only.refl _ w1).alloc _)⟩)
  clear st1 o1 CL
  unfold hdZ scN at HO
  unfold hdZ at HO1
  unfold hdZ scN
  go_wp2_with fail
  go_ret
  first
  | exact ⟨rfl, unhide HO⟩
  | exact ⟨rfl, unhide HO1⟩
set_option maxRecDepth 100000 in
set_option maxHeartbeats 4000000 in
theorem ecreateI_no (H : ST q w x true S) (L : Lay S T) {nm : ByteArray} (hno : ∀ y ∈ T, y.1.nm ≠ nm) (col : Int) : Calls Tryz.prog 169 #[.pointer (some ⟨x, 0, none⟩), .string nm, .int .i64 col] w fun e w' => e = .returned (.int .i64 10) ∧ ST q w' x true S ∧ Only q.S w w' := by
  have CL := hide (eloadTxn_no H L hno)
  go_enter Tryz.func169, Tryz.ntmps169
  go_wp2_with fail
  refine (unhide CL).mono ?_
  rintro e w1 ⟨rfl, st1, o1⟩
  have HO := hide (show ST q ((w1.alloc (.cells hdZ 275)).alloc (.cells scN 79)) x true S ∧ Only q.S w ((w1.alloc (.cells hdZ 275)).alloc (.cells scN 79)) from ⟨st1.quiet (((Only.refl _ w1).alloc _).alloc _), o1.andS (((Only.refl _ w1).alloc _).alloc _)⟩)
  have HO1 := hide (show ST q (w1.alloc (.cells hdZ 275)) x true S ∧ Only q.S w (w1.alloc (.cells hdZ 275)) from ⟨st1.quiet ((Only.refl _ w1).alloc _), o1.andS ((Only.refl _ w1).alloc _)⟩)
  clear st1 o1 CL
  unfold hdZ scN at HO
  unfold hdZ at HO1
  unfold hdZ scN
  go_wp2_with fail
  go_ret
  first
  | exact ⟨rfl, unhide HO⟩
  | exact ⟨rfl, unhide HO1⟩
set_option maxRecDepth 100000 in
set_option maxHeartbeats 4000000 in
theorem ecreateI_shut (H : ST q w x false S) (nm : ByteArray) (col : Int) : Calls Tryz.prog 169 #[.pointer (some ⟨x, 0, none⟩), .string nm, .int .i64 col] w fun e w' => e = .returned (.int .i64 2) ∧ ST q w' x false S ∧ Only q.S w w' := by
  have CL := hide (eloadTxn_shut H nm)
  go_enter Tryz.func169, Tryz.ntmps169
  go_wp2_with fail
  refine (unhide CL).mono ?_
  rintro e w1 ⟨rfl, st1, o1⟩
  have HO := hide (show ST q ((w1.alloc (.cells hdZ 275)).alloc (.cells scN 79)) x false S ∧ Only q.S w ((w1.alloc (.cells hdZ 275)).alloc (.cells scN 79)) from ⟨st1.quiet (((Only.refl _ w1).alloc _).alloc _), o1.andS (((Only.refl _ w1).alloc _).alloc _)⟩)
  have HO1 := hide (show ST q (w1.alloc (.cells hdZ 275)) x false S ∧ Only q.S w (w1.alloc (.cells hdZ 275)) from ⟨st1.quiet ((Only.refl _ w1).alloc _), o1.andS ((Only.refl _ w1).alloc _)⟩)
  clear st1 o1 CL
  unfold hdZ scN at HO
  unfold hdZ at HO1
  unfold hdZ scN
  go_wp2_with fail
  go_ret
  first
  | exact ⟨rfl, unhide HO⟩
  | exact ⟨rfl, unhide HO1⟩
end
end Go.Proofs.Qxb6500412aGreat
