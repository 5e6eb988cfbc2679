/-
  OWN WORK. THE TABLE LAW: Play, looks (written by tools/gen_yq1.py).
-/
import Derived.Test.Qxb6500413aGreatYQ0
namespace Go.Proofs.Qxb6500413aGreat
open Go.RowKit Go.PlainAid
set_option linter.unusedSimpArgs false
set_option linter.unusedVariables false

section
variable {lo : Nat} {w : World} {q : Gnd} {x z : Nat} {op : Bool} {S C : Vu} {T TC : List (Tb × Hd)} {U : Db} {H : Nat → Prop}
set_option maxRecDepth 100000 in
set_option maxHeartbeats 4000000 in
theorem yplay10 (J : YJ lo w q x z op S C T TC U none H) (a bb cc : Int) (s t : ByteArray) (hT : t.size ≤ maxLen) : Calls Tryz.prog 25 #[.pointer (some ⟨x, 0, none⟩), .pointer (some ⟨z, 0, none⟩), opA 10 a bb cc s t] w (YR lo w q x z TC U H false) := by
  have o1 : Only (fun _ => False) w (w.alloc (.cells #[.int .i64 10, .int .i64 a, .int .i64 bb, .int .i64 cc, .string s, .string t] 41)) := (Only.refl _ _).alloc _
  have A1 : Has (w.alloc (.cells #[.int .i64 10, .int .i64 a, .int .i64 bb, .int .i64 cc, .string s, .string t] 41)) w.heap.size #[.int .i64 10, .int .i64 a, .int .i64 bb, .int .i64 cc, .string s, .string t] 41 := Has.new _ _ _
  have HA := hide (And.intro (J.quiet o1) (And.intro A1 (And.intro o1 (J.st.new (Nat.le_refl _)))))
  clear J o1 A1
  unfold opA
  go_enter Tryz.func25, Tryz.ntmps25
  go_upto_region 1 with fail
  generalize w.alloc (.cells #[.int .i64 10, .int .i64 a, .int .i64 bb, .int .i64 cc, .string s, .string t] 41) = w1 at *
  have hkl := (unhide HA).2.1.lt
  generalize w.heap.size = kb at *
  have HX := hide (Only.refl q.S w1)
  have AB := (unhide HA).2.1.keep (unhide HX) (unhide HA).2.2.2
  have a0 := AB.cell 0
  have a1 := AB.cell 1
  have a2 := AB.cell 2
  have a3 := AB.cell 3
  have a4 := AB.cell 4
  have a5 := AB.cell 5
  simp at a0 a1 a2 a3 a4 a5
  clear AB
  have C1 := eFirst_any t hT w1
  have hw := fstP_wf t
  obtain ⟨key, hkey⟩ : ∃ key, fstP t = key := ⟨_, rfl⟩
  rw [hkey] at C1 hw
  unfold vlA at C1
  have C1 := hide C1
  have HK := hide hw
  clear hT hkey hw
  go_wp2_with fail
  refine (unhide C1).mono ?_
  rintro e w2 ⟨rfl, o2⟩
  have oA : Only (fun _ => False) w2 (w2.alloc (.cells #[.bool key.str, .int .i64 key.i, .string key.s] 72)) := (Only.refl _ _).alloc _
  have B2 : Has (w2.alloc (.cells #[.bool key.str, .int .i64 key.i, .string key.s] 72)) w2.heap.size #[.bool key.str, .int .i64 key.i, .string key.s] 72 := Has.new _ _ _
  have HX := hide ((o2.trans oA (fun _ _ e => e)).toS (q := q))
  have HS := hide (And.intro ((unhide HA).1.quiet (o2.trans oA (fun _ _ e => e))) B2)
  clear o2 oA B2 C1
  clear a0 a1 a2 a3 a4 a5 
  go_upto_region 51 with fail
  generalize w2.alloc (.cells #[.bool key.str, .int .i64 key.i, .string key.s] 72) = w3 at *
  generalize w2.heap.size = ka at *
  have k0 := (unhide HS).2.cell 0
  have k1 := (unhide HS).2.cell 1
  have k2 := (unhide HS).2.cell 2
  simp at k0 k1 k2
  have AB := (unhide HA).2.1.keep (unhide HX) (unhide HA).2.2.2
  have a4 := AB.cell 4
  have a5 := AB.cell 5
  simp at a4 a5
  clear AB
  have C2 := sameLookup_any (unhide HS).1.st (unhide HS).1.la (unhide HS).1.za (unhide HS).1.sepS s key (unhide HK) true (by simp)
  unfold vlA at C2
  have C2 := hide C2
  go_wp2_with fail
  refine (unhide C2).mono ?_
  rintro e w4 ⟨rfl, st4, o4⟩
  have HP := hide (YR.low (unhide HA).2.2.1 (YJ.pure (cm := false) (unhide HA).1 st4 ((unhide HX).ss o4)))
  clear st4 o4 C2
  go_wp2_with fail
  go_ret
  exact unhide HP
set_option maxRecDepth 100000 in
set_option maxHeartbeats 4000000 in
theorem yplay11 (J : YJ lo w q x z op S C T TC U none H) (a bb cc : Int) (s t : ByteArray) (hT : t.size ≤ maxLen) : Calls Tryz.prog 25 #[.pointer (some ⟨x, 0, none⟩), .pointer (some ⟨z, 0, none⟩), opA 11 a bb cc s t] w (YR lo w q x z TC U H false) := by
  have o1 : Only (fun _ => False) w (w.alloc (.cells #[.int .i64 11, .int .i64 a, .int .i64 bb, .int .i64 cc, .string s, .string t] 41)) := (Only.refl _ _).alloc _
  have A1 : Has (w.alloc (.cells #[.int .i64 11, .int .i64 a, .int .i64 bb, .int .i64 cc, .string s, .string t] 41)) w.heap.size #[.int .i64 11, .int .i64 a, .int .i64 bb, .int .i64 cc, .string s, .string t] 41 := Has.new _ _ _
  have HA := hide (And.intro (J.quiet o1) (And.intro A1 (And.intro o1 (J.st.new (Nat.le_refl _)))))
  clear J o1 A1
  unfold opA
  go_enter Tryz.func25, Tryz.ntmps25
  go_upto_region 1 with fail
  generalize w.alloc (.cells #[.int .i64 11, .int .i64 a, .int .i64 bb, .int .i64 cc, .string s, .string t] 41) = w1 at *
  have hkl := (unhide HA).2.1.lt
  generalize w.heap.size = kb at *
  have HX := hide (Only.refl q.S w1)
  have AB := (unhide HA).2.1.keep (unhide HX) (unhide HA).2.2.2
  have a0 := AB.cell 0
  have a1 := AB.cell 1
  have a2 := AB.cell 2
  have a3 := AB.cell 3
  have a4 := AB.cell 4
  have a5 := AB.cell 5
  simp at a0 a1 a2 a3 a4 a5
  clear AB
  have HT := hide hT
  have C1 := eFirst_any t hT w1
  have hw := fstP_wf t
  have hw2 := sndP_wf t
  obtain ⟨key, hkey⟩ : ∃ key, fstP t = key := ⟨_, rfl⟩
  obtain ⟨kez, hkez⟩ : ∃ kez, sndP t = kez := ⟨_, rfl⟩
  rw [hkey] at C1 hw
  rw [hkez] at hw2
  unfold vlA at C1
  have C1 := hide C1
  have HK := hide (And.intro hw (And.intro hw2 hkez))
  clear hT hkey hw hw2 hkez
  go_wp2_with fail
  refine (unhide C1).mono ?_
  rintro e w2 ⟨rfl, o2⟩
  have oA : Only (fun _ => False) w2 (w2.alloc (.cells #[.bool key.str, .int .i64 key.i, .string key.s] 72)) := (Only.refl _ _).alloc _
  have B2 : Has (w2.alloc (.cells #[.bool key.str, .int .i64 key.i, .string key.s] 72)) w2.heap.size #[.bool key.str, .int .i64 key.i, .string key.s] 72 := Has.new _ _ _
  have HX := hide ((o2.trans oA (fun _ _ e => e)).toS (q := q))
  have HS := hide (And.intro ((unhide HA).1.quiet (o2.trans oA (fun _ _ e => e))) B2)
  clear o2 oA B2 C1
  clear a0 a1 a2 a3 a4 a5 
  go_upto_region 54 with fail
  generalize w2.alloc (.cells #[.bool key.str, .int .i64 key.i, .string key.s] 72) = w3 at *
  have hka := (unhide HS).2.lt
  generalize w2.heap.size = ka at *
  have AB := (unhide HA).2.1.keep (unhide HX) (unhide HA).2.2.2
  have a1 := AB.cell 1
  have a2 := AB.cell 2
  have a4 := AB.cell 4
  have a5 := AB.cell 5
  simp at a1 a2 a4 a5
  clear AB
  have C2 := eSecond_any t (unhide HT) w3
  rw [(unhide HK).2.2] at C2
  unfold vlA at C2
  have C2 := hide C2
  go_wp2_with fail
  refine (unhide C2).mono ?_
  rintro e w4 ⟨rfl, o4⟩
  have oA : Only (fun _ => False) w4 (w4.alloc (.cells #[.bool kez.str, .int .i64 kez.i, .string kez.s] 72)) := (Only.refl _ _).alloc _
  have B2 : Has (w4.alloc (.cells #[.bool kez.str, .int .i64 kez.i, .string kez.s] 72)) w4.heap.size #[.bool kez.str, .int .i64 kez.i, .string kez.s] 72 := Has.new _ _ _
  have o45 := o4.trans oA (fun _ _ e => e)
  have HX := hide ((unhide HX).andS o45)
  have HS5 := hide (And.intro ((unhide HS).1.quiet o45) (And.intro ((unhide HS).2.keep o45 (fun e => e)) B2))
  clear o4 oA o45 B2 C2
  clear a1 a2 a4 a5 
  go_upto_region 55 with fail
  generalize w4.alloc (.cells #[.bool kez.str, .int .i64 kez.i, .string kez.s] 72) = w5 at *
  generalize w4.heap.size = kc at *
  have k0 := (unhide HS5).2.1.cell 0
  have k1 := (unhide HS5).2.1.cell 1
  have k2 := (unhide HS5).2.1.cell 2
  have j0 := (unhide HS5).2.2.cell 0
  have j1 := (unhide HS5).2.2.cell 1
  have j2 := (unhide HS5).2.2.cell 2
  simp at k0 k1 k2 j0 j1 j2
  have AB := (unhide HA).2.1.keep (unhide HX) (unhide HA).2.2.2
  have a1 := AB.cell 1
  have a2 := AB.cell 2
  have a4 := AB.cell 4
  have a5 := AB.cell 5
  simp at a1 a2 a4 a5
  clear AB
  have C3 := sameScan_any (unhide HS5).1.st (unhide HS5).1.la (unhide HS5).1.za (unhide HS5).1.sepS s a (bits BinOp.and IntKind.i64 bb 1 != 0) (bits BinOp.and IntKind.i64 bb 2 != 0) key kez (unhide HK).1 (unhide HK).2.1 true (by simp)
  unfold bdA at C3
  have C3 := hide C3
  go_wp2_with fail
  refine (unhide C3).mono ?_
  rintro e w6 ⟨rfl, st6, o6⟩
  have HP := hide (YR.low (unhide HA).2.2.1 (YJ.pure (cm := false) (unhide HA).1 st6 ((unhide HX).ss o6)))
  clear st6 o6 C3
  go_wp2_with fail
  go_ret
  exact unhide HP
set_option maxRecDepth 100000 in
set_option maxHeartbeats 4000000 in
theorem yplay12 (J : YJ lo w q x z op S C T TC U none H) (a bb cc : Int) (s t : ByteArray) (hT : t.size ≤ maxLen) : Calls Tryz.prog 25 #[.pointer (some ⟨x, 0, none⟩), .pointer (some ⟨z, 0, none⟩), opA 12 a bb cc s t] w (YR lo w q x z TC U H false) := by
  have o1 : Only (fun _ => False) w (w.alloc (.cells #[.int .i64 12, .int .i64 a, .int .i64 bb, .int .i64 cc, .string s, .string t] 41)) := (Only.refl _ _).alloc _
  have A1 : Has (w.alloc (.cells #[.int .i64 12, .int .i64 a, .int .i64 bb, .int .i64 cc, .string s, .string t] 41)) w.heap.size #[.int .i64 12, .int .i64 a, .int .i64 bb, .int .i64 cc, .string s, .string t] 41 := Has.new _ _ _
  have HA := hide (And.intro (J.quiet o1) (And.intro A1 (And.intro o1 (J.st.new (Nat.le_refl _)))))
  clear J o1 A1
  unfold opA
  go_enter Tryz.func25, Tryz.ntmps25
  go_upto_region 1 with fail
  generalize w.alloc (.cells #[.int .i64 12, .int .i64 a, .int .i64 bb, .int .i64 cc, .string s, .string t] 41) = w1 at *
  have hkl := (unhide HA).2.1.lt
  generalize w.heap.size = kb at *
  have HX := hide (Only.refl q.S w1)
  have AB := (unhide HA).2.1.keep (unhide HX) (unhide HA).2.2.2
  have a0 := AB.cell 0
  have a1 := AB.cell 1
  have a2 := AB.cell 2
  have a3 := AB.cell 3
  have a4 := AB.cell 4
  have a5 := AB.cell 5
  simp at a0 a1 a2 a3 a4 a5
  clear AB
  have C1 := hide (sameSchemaOf_any (unhide HA).1.st (unhide HA).1.la (unhide HA).1.za (unhide HA).1.sepS s true (by simp))
  go_wp2_with fail
  refine (unhide C1).mono ?_
  rintro e w2 ⟨rfl, st2, o2⟩
  have HP := hide (YR.low (unhide HA).2.2.1 (YJ.pure (cm := false) (unhide HA).1 st2 o2))
  clear st2 o2 C1
  go_wp2_with fail
  go_ret
  exact unhide HP
set_option maxRecDepth 100000 in
set_option maxHeartbeats 4000000 in
theorem yplay13 (J : YJ lo w q x z op S C T TC U none H) (a bb cc : Int) (s t : ByteArray) (hT : t.size ≤ maxLen) : Calls Tryz.prog 25 #[.pointer (some ⟨x, 0, none⟩), .pointer (some ⟨z, 0, none⟩), opA 13 a bb cc s t] w (YR lo w q x z TC U H false) := by
  have o1 : Only (fun _ => False) w (w.alloc (.cells #[.int .i64 13, .int .i64 a, .int .i64 bb, .int .i64 cc, .string s, .string t] 41)) := (Only.refl _ _).alloc _
  have A1 : Has (w.alloc (.cells #[.int .i64 13, .int .i64 a, .int .i64 bb, .int .i64 cc, .string s, .string t] 41)) w.heap.size #[.int .i64 13, .int .i64 a, .int .i64 bb, .int .i64 cc, .string s, .string t] 41 := Has.new _ _ _
  have HA := hide (And.intro (J.quiet o1) (And.intro A1 (And.intro o1 (J.st.new (Nat.le_refl _)))))
  clear J o1 A1
  unfold opA
  go_enter Tryz.func25, Tryz.ntmps25
  go_upto_region 1 with fail
  generalize w.alloc (.cells #[.int .i64 13, .int .i64 a, .int .i64 bb, .int .i64 cc, .string s, .string t] 41) = w1 at *
  have hkl := (unhide HA).2.1.lt
  generalize w.heap.size = kb at *
  have HX := hide (Only.refl q.S w1)
  have AB := (unhide HA).2.1.keep (unhide HX) (unhide HA).2.2.2
  have a0 := AB.cell 0
  have a1 := AB.cell 1
  have a2 := AB.cell 2
  have a3 := AB.cell 3
  have a4 := AB.cell 4
  have a5 := AB.cell 5
  simp at a0 a1 a2 a3 a4 a5
  clear AB
  have C1 := hide (sintxn_any (unhide HA).1.st)
  have C2 := hide (yintxn_any (unhide HA).1.za)
  have dz : (op == op) = true := by simp
  go_wp2_with fail
  refine (unhide C1).mono ?_
  rintro e w2 ⟨rfl, rfl⟩
  go_wp2_with fail
  refine (unhide C2).mono ?_
  rintro e w2 ⟨rfl, rfl⟩
  have HP := hide (YR.low (unhide HA).2.2.1 (YJ.pure (cm := false) (unhide HA).1 (unhide HA).1.st (Only.refl _ _)))
  go_wp2_with fail
  go_ret
  exact unhide HP
set_option maxRecDepth 100000 in
set_option maxHeartbeats 4000000 in
theorem yplay14 (J : YJ lo w q x z op S C T TC U none H) (a bb cc : Int) (s t : ByteArray) (hT : t.size ≤ maxLen) : Calls Tryz.prog 25 #[.pointer (some ⟨x, 0, none⟩), .pointer (some ⟨z, 0, none⟩), opA 14 a bb cc s t] w (YR lo w q x z TC U H false) := by
  have o1 : Only (fun _ => False) w (w.alloc (.cells #[.int .i64 14, .int .i64 a, .int .i64 bb, .int .i64 cc, .string s, .string t] 41)) := (Only.refl _ _).alloc _
  have A1 : Has (w.alloc (.cells #[.int .i64 14, .int .i64 a, .int .i64 bb, .int .i64 cc, .string s, .string t] 41)) w.heap.size #[.int .i64 14, .int .i64 a, .int .i64 bb, .int .i64 cc, .string s, .string t] 41 := Has.new _ _ _
  have HA := hide (And.intro (J.quiet o1) (And.intro A1 (And.intro o1 (J.st.new (Nat.le_refl _)))))
  clear J o1 A1
  unfold opA
  go_enter Tryz.func25, Tryz.ntmps25
  go_upto_region 1 with fail
  generalize w.alloc (.cells #[.int .i64 14, .int .i64 a, .int .i64 bb, .int .i64 cc, .string s, .string t] 41) = w1 at *
  have hkl := (unhide HA).2.1.lt
  generalize w.heap.size = kb at *
  have HX := hide (Only.refl q.S w1)
  have AB := (unhide HA).2.1.keep (unhide HX) (unhide HA).2.2.2
  have a0 := AB.cell 0
  have a1 := AB.cell 1
  have a2 := AB.cell 2
  have a3 := AB.cell 3
  have a4 := AB.cell 4
  have a5 := AB.cell 5
  simp at a0 a1 a2 a3 a4 a5
  clear AB
  have C1 := hide (etables_any (unhide HA).1.st (unhide HA).1.la)
  go_wp2_with fail
  refine (unhide C1).mono ?_
  rintro e w2 ⟨xv, rfl, OX, nX, st2, o2⟩
  have C2 := hide (ynames_any ((unhide HA).1.za.keep o2 (unhide HA).1.sepS))
  have HS := hide (And.intro OX (And.intro st2 o2))
  clear OX nX st2 o2 C1
  clear a0 a1 a2 a3 a4 a5 
  go_wp2_with fail
  refine (unhide C2).mono ?_
  rintro e w3 ⟨nv, rfl, G3⟩
  have OX3 : OwnN w3 xv (T.map (fun x => x.1.nm)) := ownsRow_keep (unhide HS).1 G3.ho (fun _ _ e => e)
  have hl : (T.map (fun x => x.1.nm)).length ≤ 1000 := by have := (unhide HA).1.la.len; rw [List.length_map]; omega
  have C3 := hide (sameNames_any OX3 (show OwnN w3 nv (namesD (dbOf T)) from G3.own) hl true (decide_eq_true (by unfold namesD dbOf; rw [List.map_map]; rfl)))
  have HS3 := hide (And.intro ((unhide HS).2.1.quiet G3.ho) ((unhide HS).2.2.andS G3.ho))
  clear OX3 G3 C2 hl
  go_wp2_with fail
  refine (unhide C3).mono ?_
  rintro e w4 ⟨rfl, o4⟩
  have HP := hide (YR.low (unhide HA).2.2.1 (YJ.pure (cm := false) (unhide HA).1 ((unhide HS3).1.quiet o4) ((unhide HS3).2.andS o4)))
  clear o4 C3
  go_wp2_with fail
  go_ret
  exact unhide HP
set_option maxRecDepth 100000 in
set_option maxHeartbeats 4000000 in
theorem yplay15 (J : YJ lo w q x z op S C T TC U none H) (a bb cc : Int) (s t : ByteArray) (hT : t.size ≤ maxLen) : Calls Tryz.prog 25 #[.pointer (some ⟨x, 0, none⟩), .pointer (some ⟨z, 0, none⟩), opA 15 a bb cc s t] w (YR lo w q x z TC U H false) := by
  have o1 : Only (fun _ => False) w (w.alloc (.cells #[.int .i64 15, .int .i64 a, .int .i64 bb, .int .i64 cc, .string s, .string t] 41)) := (Only.refl _ _).alloc _
  have A1 : Has (w.alloc (.cells #[.int .i64 15, .int .i64 a, .int .i64 bb, .int .i64 cc, .string s, .string t] 41)) w.heap.size #[.int .i64 15, .int .i64 a, .int .i64 bb, .int .i64 cc, .string s, .string t] 41 := Has.new _ _ _
  have HA := hide (And.intro (J.quiet o1) (And.intro A1 (And.intro o1 (J.st.new (Nat.le_refl _)))))
  clear J o1 A1
  unfold opA
  go_enter Tryz.func25, Tryz.ntmps25
  go_upto_region 1 with fail
  generalize w.alloc (.cells #[.int .i64 15, .int .i64 a, .int .i64 bb, .int .i64 cc, .string s, .string t] 41) = w1 at *
  have hkl := (unhide HA).2.1.lt
  generalize w.heap.size = kb at *
  have HX := hide (Only.refl q.S w1)
  have AB := (unhide HA).2.1.keep (unhide HX) (unhide HA).2.2.2
  have a0 := AB.cell 0
  have a1 := AB.cell 1
  have a2 := AB.cell 2
  have a3 := AB.cell 3
  have a4 := AB.cell 4
  have a5 := AB.cell 5
  simp at a0 a1 a2 a3 a4 a5
  clear AB
  have C1 := hide (echeck_any (unhide HA).1.st (unhide HA).1.la)
  go_wp2_with fail
  refine (unhide C1).mono ?_
  rintro e w2 ⟨rfl, st2, o2⟩
  have HP := hide (YR.low (unhide HA).2.2.1 (YJ.pure (cm := false) (unhide HA).1 st2 o2))
  clear st2 o2 C1
  go_wp2_with fail
  go_ret
  exact unhide HP
set_option maxRecDepth 100000 in
set_option maxHeartbeats 4000000 in
theorem yplayX (J : YJ lo w q x z op S C T TC U none H) (K : Int) (hK : ∀ i : Int, 1 ≤ i → i ≤ 15 → K ≠ i) (a bb cc : Int) (s t : ByteArray) (hT : t.size ≤ maxLen) : Calls Tryz.prog 25 #[.pointer (some ⟨x, 0, none⟩), .pointer (some ⟨z, 0, none⟩), opA K a bb cc s t] w (YR lo w q x z TC U H false) := by
  have o1 : Only (fun _ => False) w (w.alloc (.cells #[.int .i64 K, .int .i64 a, .int .i64 bb, .int .i64 cc, .string s, .string t] 41)) := (Only.refl _ _).alloc _
  have A1 : Has (w.alloc (.cells #[.int .i64 K, .int .i64 a, .int .i64 bb, .int .i64 cc, .string s, .string t] 41)) w.heap.size #[.int .i64 K, .int .i64 a, .int .i64 bb, .int .i64 cc, .string s, .string t] 41 := Has.new _ _ _
  have HA := hide (And.intro (J.quiet o1) (And.intro A1 (And.intro o1 (J.st.new (Nat.le_refl _)))))
  clear J o1 A1
  unfold opA
  go_enter Tryz.func25, Tryz.ntmps25
  go_upto_region 1 with fail
  generalize w.alloc (.cells #[.int .i64 K, .int .i64 a, .int .i64 bb, .int .i64 cc, .string s, .string t] 41) = w1 at *
  have hkl := (unhide HA).2.1.lt
  generalize w.heap.size = kb at *
  have HX := hide (Only.refl q.S w1)
  have AB := (unhide HA).2.1.keep (unhide HX) (unhide HA).2.2.2
  have a0 := AB.cell 0
  have a1 := AB.cell 1
  have a2 := AB.cell 2
  have a3 := AB.cell 3
  have a4 := AB.cell 4
  have a5 := AB.cell 5
  simp at a0 a1 a2 a3 a4 a5
  clear AB
  have e1 : (K == 1) = false := by simpa using hK 1 (by omega) (by omega)
  have e2 : (K == 2) = false := by simpa using hK 2 (by omega) (by omega)
  have e3 : (K == 3) = false := by simpa using hK 3 (by omega) (by omega)
  have e4 : (K == 4) = false := by simpa using hK 4 (by omega) (by omega)
  have e5 : (K == 5) = false := by simpa using hK 5 (by omega) (by omega)
  have e6 : (K == 6) = false := by simpa using hK 6 (by omega) (by omega)
  have e7 : (K == 7) = false := by simpa using hK 7 (by omega) (by omega)
  have e8 : (K == 8) = false := by simpa using hK 8 (by omega) (by omega)
  have e9 : (K == 9) = false := by simpa using hK 9 (by omega) (by omega)
  have e10 : (K == 10) = false := by simpa using hK 10 (by omega) (by omega)
  have e11 : (K == 11) = false := by simpa using hK 11 (by omega) (by omega)
  have e12 : (K == 12) = false := by simpa using hK 12 (by omega) (by omega)
  have e13 : (K == 13) = false := by simpa using hK 13 (by omega) (by omega)
  have e14 : (K == 14) = false := by simpa using hK 14 (by omega) (by omega)
  have e15 : (K == 15) = false := by simpa using hK 15 (by omega) (by omega)
  clear hK
  have HP := hide (YR.low (unhide HA).2.2.1 (YJ.pure (cm := false) (unhide HA).1 (unhide HA).1.st (Only.refl _ _)))
  go_wp2_with fail
  go_ret
  exact unhide HP
end
end Go.Proofs.Qxb6500413aGreat
