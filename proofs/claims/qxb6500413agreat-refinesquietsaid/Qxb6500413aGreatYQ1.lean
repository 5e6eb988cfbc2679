/-
  OWN WORK. THE TABLE LAW: Play, brackets and plain changes (written by tools/gen_yq1.py).
-/
import Derived.Test.Qxb6500413aGreatYQ0
namespace Go.Proofs.Qxb6500413aGreat
open Go.RowKit Go.PlainAid
set_option linter.unusedSimpArgs false
set_option linter.unusedVariables false

section
variable {lo : Nat} {w : World} {q : Gnd} {x z : Nat} {op : Bool} {S C : Vu} {T TC : List (Tb × Hd)} {U : Db} {H : Nat → Prop}
set_option maxRecDepth 100000 in
set_option maxHeartbeats 4000000 in
theorem yplay1_open (J : YJ lo w q x z true S C T TC U none H) (a bb cc : Int) (s t : ByteArray) (hT : t.size ≤ maxLen) : Calls Tryz.prog 25 #[.pointer (some ⟨x, 0, none⟩), .pointer (some ⟨z, 0, none⟩), opA 1 a bb cc s t] w (YR lo w q x z TC U H false) := by
  have o1 : Only (fun _ => False) w (w.alloc (.cells #[.int .i64 1, .int .i64 a, .int .i64 bb, .int .i64 cc, .string s, .string t] 41)) := (Only.refl _ _).alloc _
  have A1 : Has (w.alloc (.cells #[.int .i64 1, .int .i64 a, .int .i64 bb, .int .i64 cc, .string s, .string t] 41)) w.heap.size #[.int .i64 1, .int .i64 a, .int .i64 bb, .int .i64 cc, .string s, .string t] 41 := Has.new _ _ _
  have HA := hide (And.intro (J.quiet o1) (And.intro A1 (And.intro o1 (J.st.new (Nat.le_refl _)))))
  clear J o1 A1
  unfold opA
  go_enter Tryz.func25, Tryz.ntmps25
  go_upto_region 1 with fail
  generalize w.alloc (.cells #[.int .i64 1, .int .i64 a, .int .i64 bb, .int .i64 cc, .string s, .string t] 41) = w1 at *
  have hkl := (unhide HA).2.1.lt
  generalize w.heap.size = kb at *
  have HX := hide (Only.refl q.S w1)
  have AB := (unhide HA).2.1.keep (unhide HX) (unhide HA).2.2.2
  have a0 := AB.cell 0
  have a1 := AB.cell 1
  have a2 := AB.cell 2
  have a3 := AB.cell 3
  have a4 := AB.cell 4
  have a5 := AB.cell 5
  simp at a0 a1 a2 a3 a4 a5
  clear AB
  have C1 := hide (sbegin_open (unhide HA).1.st)
  have C2 := hide (ybegin_open (unhide HA).1.za)
  go_wp2_with fail
  refine (unhide C1).mono ?_
  rintro e w2 ⟨rfl, rfl⟩
  go_wp2_with fail
  refine (unhide C2).mono ?_
  rintro e w2 ⟨rfl, rfl⟩
  have HP := hide (YR.low (unhide HA).2.2.1 (YJ.pure (cm := false) (unhide HA).1 (unhide HA).1.st (Only.refl _ _)))
  go_wp2_with fail
  go_ret
  exact unhide HP
set_option maxRecDepth 100000 in
set_option maxHeartbeats 4000000 in
theorem yplay1_shut (J : YJ lo w q x z false S C T TC U none H) (a bb cc : Int) (s t : ByteArray) (hT : t.size ≤ maxLen) : Calls Tryz.prog 25 #[.pointer (some ⟨x, 0, none⟩), .pointer (some ⟨z, 0, none⟩), opA 1 a bb cc s t] w (YR lo w q x z TC U H false) := by
  have o1 : Only (fun _ => False) w (w.alloc (.cells #[.int .i64 1, .int .i64 a, .int .i64 bb, .int .i64 cc, .string s, .string t] 41)) := (Only.refl _ _).alloc _
  have A1 : Has (w.alloc (.cells #[.int .i64 1, .int .i64 a, .int .i64 bb, .int .i64 cc, .string s, .string t] 41)) w.heap.size #[.int .i64 1, .int .i64 a, .int .i64 bb, .int .i64 cc, .string s, .string t] 41 := Has.new _ _ _
  have HA := hide (And.intro (J.quiet o1) (And.intro A1 (And.intro o1 (J.st.new (Nat.le_refl _)))))
  clear J o1 A1
  unfold opA
  go_enter Tryz.func25, Tryz.ntmps25
  go_upto_region 1 with fail
  generalize w.alloc (.cells #[.int .i64 1, .int .i64 a, .int .i64 bb, .int .i64 cc, .string s, .string t] 41) = w1 at *
  have hkl := (unhide HA).2.1.lt
  generalize w.heap.size = kb at *
  have HX := hide (Only.refl q.S w1)
  have AB := (unhide HA).2.1.keep (unhide HX) (unhide HA).2.2.2
  have a0 := AB.cell 0
  have a1 := AB.cell 1
  have a2 := AB.cell 2
  have a3 := AB.cell 3
  have a4 := AB.cell 4
  have a5 := AB.cell 5
  simp at a0 a1 a2 a3 a4 a5
  clear AB
  have C1 := hide (sbegin_shut (unhide HA).1.st)
  go_wp2_with fail
  refine (unhide C1).mono ?_
  rintro e w2 ⟨rfl, st2, o2⟩
  have C2 := hide (ybegin_shut ((unhide HA).1.za.keep o2 (unhide HA).1.sepS))
  have HS := hide (And.intro st2 o2)
  clear st2 o2 C1
  clear a0 a1 a2 a3 a4 a5 
  go_wp2_with fail
  refine (unhide C2).mono ?_
  rintro e w3 ⟨rfl, Z3, o3⟩
  have HP := hide (YR.low (unhide HA).2.2.1 (YJ.step (cm := false) (C1 := C) (TC1 := TC) (unhide HA).1 (unhide HS).1 (unhide HA).1.la (unhide HS).2 Z3 (fun k hk => .inl hk) (o3.mono (fun k _ e => by rw [e]; exact (unhide HA).1.za.hm))))
  clear Z3 o3 C2
  go_wp2_with fail
  go_ret
  exact unhide HP
set_option maxRecDepth 100000 in
set_option maxHeartbeats 4000000 in
theorem yplay2_shut (J : YJ lo w q x z false S C T TC U none H) (a bb cc : Int) (s t : ByteArray) (hT : t.size ≤ maxLen) : Calls Tryz.prog 25 #[.pointer (some ⟨x, 0, none⟩), .pointer (some ⟨z, 0, none⟩), opA 2 a bb cc s t] w (YR lo w q x z TC U H false) := by
  have o1 : Only (fun _ => False) w (w.alloc (.cells #[.int .i64 2, .int .i64 a, .int .i64 bb, .int .i64 cc, .string s, .string t] 41)) := (Only.refl _ _).alloc _
  have A1 : Has (w.alloc (.cells #[.int .i64 2, .int .i64 a, .int .i64 bb, .int .i64 cc, .string s, .string t] 41)) w.heap.size #[.int .i64 2, .int .i64 a, .int .i64 bb, .int .i64 cc, .string s, .string t] 41 := Has.new _ _ _
  have HA := hide (And.intro (J.quiet o1) (And.intro A1 (And.intro o1 (J.st.new (Nat.le_refl _)))))
  clear J o1 A1
  unfold opA
  go_enter Tryz.func25, Tryz.ntmps25
  go_upto_region 1 with fail
  generalize w.alloc (.cells #[.int .i64 2, .int .i64 a, .int .i64 bb, .int .i64 cc, .string s, .string t] 41) = w1 at *
  have hkl := (unhide HA).2.1.lt
  generalize w.heap.size = kb at *
  have HX := hide (Only.refl q.S w1)
  have AB := (unhide HA).2.1.keep (unhide HX) (unhide HA).2.2.2
  have a0 := AB.cell 0
  have a1 := AB.cell 1
  have a2 := AB.cell 2
  have a3 := AB.cell 3
  have a4 := AB.cell 4
  have a5 := AB.cell 5
  simp at a0 a1 a2 a3 a4 a5
  clear AB
  have C1 := hide (scommit_shut (unhide HA).1.st)
  have C2 := hide (ycommit_shut (unhide HA).1.za)
  go_wp2_with fail
  refine (unhide C1).mono ?_
  rintro e w2 ⟨rfl, rfl⟩
  go_wp2_with fail
  refine (unhide C2).mono ?_
  rintro e w2 ⟨rfl, rfl⟩
  have HP := hide (YR.low (unhide HA).2.2.1 (YJ.pure (cm := false) (unhide HA).1 (unhide HA).1.st (Only.refl _ _)))
  go_wp2_with fail
  go_ret
  exact unhide HP
set_option maxRecDepth 100000 in
set_option maxHeartbeats 4000000 in
theorem yplay2_open (J : YJ lo w q x z true S C T TC U none H) (hrc : q.recs.length ≤ 300) (a bb cc : Int) (s t : ByteArray) (hT : t.size ≤ maxLen) : Calls Tryz.prog 25 #[.pointer (some ⟨x, 0, none⟩), .pointer (some ⟨z, 0, none⟩), opA 2 a bb cc s t] w (YR lo w q x z TC U H true) := by
  have o1 : Only (fun _ => False) w (w.alloc (.cells #[.int .i64 2, .int .i64 a, .int .i64 bb, .int .i64 cc, .string s, .string t] 41)) := (Only.refl _ _).alloc _
  have A1 : Has (w.alloc (.cells #[.int .i64 2, .int .i64 a, .int .i64 bb, .int .i64 cc, .string s, .string t] 41)) w.heap.size #[.int .i64 2, .int .i64 a, .int .i64 bb, .int .i64 cc, .string s, .string t] 41 := Has.new _ _ _
  have HA := hide (And.intro (J.quiet o1) (And.intro A1 (And.intro o1 (J.st.new (Nat.le_refl _)))))
  clear J o1 A1
  unfold opA
  go_enter Tryz.func25, Tryz.ntmps25
  go_upto_region 1 with fail
  generalize w.alloc (.cells #[.int .i64 2, .int .i64 a, .int .i64 bb, .int .i64 cc, .string s, .string t] 41) = w1 at *
  have hkl := (unhide HA).2.1.lt
  generalize w.heap.size = kb at *
  have HX := hide (Only.refl q.S w1)
  have AB := (unhide HA).2.1.keep (unhide HX) (unhide HA).2.2.2
  have a0 := AB.cell 0
  have a1 := AB.cell 1
  have a2 := AB.cell 2
  have a3 := AB.cell 3
  have a4 := AB.cell 4
  have a5 := AB.cell 5
  simp at a0 a1 a2 a3 a4 a5
  clear AB
  have C1 := hide (scommit_open (unhide HA).1.st hrc)
  go_wp2_with fail
  refine (unhide C1).mono ?_
  rintro e w2 ⟨rfl, rs, com, st2, cf2, ci2, o2⟩
  have C2 := hide (ycommit_open ((unhide HA).1.za.keep o2 (fun k hk h => ((unhide HA).1.sp k hk).1 (Gnd.D_A h))))
  have HS := hide (And.intro st2 (And.intro cf2 (And.intro ci2 o2)))
  clear st2 cf2 ci2 o2 C1
  clear a0 a1 a2 a3 a4 a5 
  go_wp2_with fail
  refine (unhide C2).mono ?_
  rintro e w3 ⟨rfl, Z3, o3⟩
  have HP := hide (YR.low (unhide HA).2.2.1 (YJ.commit (unhide HA).1 (unhide HS).1 (unhide HS).2.1 (unhide HS).2.2.1 (unhide HS).2.2.2 Z3 o3))
  clear Z3 o3 C2
  go_wp2_with fail
  go_ret
  exact unhide HP
set_option maxRecDepth 100000 in
set_option maxHeartbeats 4000000 in
theorem yplay3_shut (J : YJ lo w q x z false S C T TC U none H) (a bb cc : Int) (s t : ByteArray) (hT : t.size ≤ maxLen) : Calls Tryz.prog 25 #[.pointer (some ⟨x, 0, none⟩), .pointer (some ⟨z, 0, none⟩), opA 3 a bb cc s t] w (YR lo w q x z TC U H false) := by
  have o1 : Only (fun _ => False) w (w.alloc (.cells #[.int .i64 3, .int .i64 a, .int .i64 bb, .int .i64 cc, .string s, .string t] 41)) := (Only.refl _ _).alloc _
  have A1 : Has (w.alloc (.cells #[.int .i64 3, .int .i64 a, .int .i64 bb, .int .i64 cc, .string s, .string t] 41)) w.heap.size #[.int .i64 3, .int .i64 a, .int .i64 bb, .int .i64 cc, .string s, .string t] 41 := Has.new _ _ _
  have HA := hide (And.intro (J.quiet o1) (And.intro A1 (And.intro o1 (J.st.new (Nat.le_refl _)))))
  clear J o1 A1
  unfold opA
  go_enter Tryz.func25, Tryz.ntmps25
  go_upto_region 1 with fail
  generalize w.alloc (.cells #[.int .i64 3, .int .i64 a, .int .i64 bb, .int .i64 cc, .string s, .string t] 41) = w1 at *
  have hkl := (unhide HA).2.1.lt
  generalize w.heap.size = kb at *
  have HX := hide (Only.refl q.S w1)
  have AB := (unhide HA).2.1.keep (unhide HX) (unhide HA).2.2.2
  have a0 := AB.cell 0
  have a1 := AB.cell 1
  have a2 := AB.cell 2
  have a3 := AB.cell 3
  have a4 := AB.cell 4
  have a5 := AB.cell 5
  simp at a0 a1 a2 a3 a4 a5
  clear AB
  have C1 := hide (sabort_shut (unhide HA).1.st)
  have C2 := hide (yabort_shut (unhide HA).1.za)
  go_wp2_with fail
  refine (unhide C1).mono ?_
  rintro e w2 ⟨rfl, rfl⟩
  go_wp2_with fail
  refine (unhide C2).mono ?_
  rintro e w2 ⟨rfl, rfl⟩
  have HP := hide (YR.low (unhide HA).2.2.1 (YJ.pure (cm := false) (unhide HA).1 (unhide HA).1.st (Only.refl _ _)))
  go_wp2_with fail
  go_ret
  exact unhide HP
set_option maxRecDepth 100000 in
set_option maxHeartbeats 4000000 in
theorem yplay3_open (J : YJ lo w q x z true S C T TC U none H) (a bb cc : Int) (s t : ByteArray) (hT : t.size ≤ maxLen) : Calls Tryz.prog 25 #[.pointer (some ⟨x, 0, none⟩), .pointer (some ⟨z, 0, none⟩), opA 3 a bb cc s t] w (YR lo w q x z TC U H false) := by
  have o1 : Only (fun _ => False) w (w.alloc (.cells #[.int .i64 3, .int .i64 a, .int .i64 bb, .int .i64 cc, .string s, .string t] 41)) := (Only.refl _ _).alloc _
  have A1 : Has (w.alloc (.cells #[.int .i64 3, .int .i64 a, .int .i64 bb, .int .i64 cc, .string s, .string t] 41)) w.heap.size #[.int .i64 3, .int .i64 a, .int .i64 bb, .int .i64 cc, .string s, .string t] 41 := Has.new _ _ _
  have HA := hide (And.intro (J.quiet o1) (And.intro A1 (And.intro o1 (J.st.new (Nat.le_refl _)))))
  clear J o1 A1
  unfold opA
  go_enter Tryz.func25, Tryz.ntmps25
  go_upto_region 1 with fail
  generalize w.alloc (.cells #[.int .i64 3, .int .i64 a, .int .i64 bb, .int .i64 cc, .string s, .string t] 41) = w1 at *
  have hkl := (unhide HA).2.1.lt
  generalize w.heap.size = kb at *
  have HX := hide (Only.refl q.S w1)
  have AB := (unhide HA).2.1.keep (unhide HX) (unhide HA).2.2.2
  have a0 := AB.cell 0
  have a1 := AB.cell 1
  have a2 := AB.cell 2
  have a3 := AB.cell 3
  have a4 := AB.cell 4
  have a5 := AB.cell 5
  simp at a0 a1 a2 a3 a4 a5
  clear AB
  have C1 := hide (sabort_open (unhide HA).1.st (unhide HA).1.cf)
  go_wp2_with fail
  refine (unhide C1).mono ?_
  rintro e w2 ⟨rfl, st2, o2⟩
  have C2 := hide (yabort_open ((unhide HA).1.za.keep o2 (unhide HA).1.sepS))
  have HS := hide (And.intro st2 o2)
  clear st2 o2 C1
  clear a0 a1 a2 a3 a4 a5 
  go_wp2_with fail
  refine (unhide C2).mono ?_
  rintro e w3 ⟨rfl, Z3, o3⟩
  have HP := hide (YR.low (unhide HA).2.2.1 (YJ.step (cm := false) (C1 := C) (TC1 := TC) (unhide HA).1 (unhide HS).1 (unhide HA).1.lc (unhide HS).2 Z3 (fun k hk => by rcases hk with c | c; (exact .inl c); (exact .inr c.1)) (o3.mono (fun k _ e => by rw [e]; exact (unhide HA).1.za.hm))))
  clear Z3 o3 C2
  go_wp2_with fail
  go_ret
  exact unhide HP
set_option maxRecDepth 100000 in
set_option maxHeartbeats 4000000 in
theorem yplay5_open (J : YJ lo w q x z true S C T TC U none H) (a bb cc : Int) (s t : ByteArray) (hT : t.size ≤ maxLen) : Calls Tryz.prog 25 #[.pointer (some ⟨x, 0, none⟩), .pointer (some ⟨z, 0, none⟩), opA 5 a bb cc s t] w (YR lo w q x z TC U H false) := by
  have o1 : Only (fun _ => False) w (w.alloc (.cells #[.int .i64 5, .int .i64 a, .int .i64 bb, .int .i64 cc, .string s, .string t] 41)) := (Only.refl _ _).alloc _
  have A1 : Has (w.alloc (.cells #[.int .i64 5, .int .i64 a, .int .i64 bb, .int .i64 cc, .string s, .string t] 41)) w.heap.size #[.int .i64 5, .int .i64 a, .int .i64 bb, .int .i64 cc, .string s, .string t] 41 := Has.new _ _ _
  have HA := hide (And.intro (J.quiet o1) (And.intro A1 (And.intro o1 (J.st.new (Nat.le_refl _)))))
  clear J o1 A1
  unfold opA
  go_enter Tryz.func25, Tryz.ntmps25
  go_upto_region 1 with fail
  generalize w.alloc (.cells #[.int .i64 5, .int .i64 a, .int .i64 bb, .int .i64 cc, .string s, .string t] 41) = w1 at *
  have hkl := (unhide HA).2.1.lt
  generalize w.heap.size = kb at *
  have HX := hide (Only.refl q.S w1)
  have AB := (unhide HA).2.1.keep (unhide HX) (unhide HA).2.2.2
  have a0 := AB.cell 0
  have a1 := AB.cell 1
  have a2 := AB.cell 2
  have a3 := AB.cell 3
  have a4 := AB.cell 4
  have a5 := AB.cell 5
  simp at a0 a1 a2 a3 a4 a5
  clear AB
  have C1 := edropT_open (unhide HA).1.st (unhide HA).1.la s
  obtain ⟨D', zz, hD⟩ : ∃ D' zz, drpD (dbOf T) s = (D', zz) := ⟨_, _, rfl⟩
  rw [hD] at C1
  have C1 := hide C1
  have HDD := hide hD
  clear hD
  have dz : (zz == zz) = true := by simp
  go_wp2_with fail
  refine (unhide C1).mono ?_
  rintro e w2 ⟨rfl, ⟨S', T', st2, la2, hd2⟩, o2⟩
  have C2 := ydrop_open ((unhide HA).1.za.keep o2 (unhide HA).1.sepS) s
  rw [unhide HDD] at C2
  have C2 := hide C2
  have HS := hide (And.intro st2 (And.intro la2 (And.intro hd2 o2)))
  have HX := hide o2
  clear st2 la2 o2 C1
  clear a0 a1 a2 a3 a4 a5 
  have AB := (unhide HA).2.1.keep (unhide HX) (unhide HA).2.2.2
  have a0 := AB.cell 0
  have a1 := AB.cell 1
  have a4 := AB.cell 4
  simp at a0 a1 a4
  clear AB
  go_wp2_with fail
  refine (unhide C2).mono ?_
  rintro e w3 ⟨rfl, Z3, o3⟩
  have Z3 : YAt w3 z D' (dbOf TC) U none true (Ext H w2 w3) := Z3
  rw [← (unhide HS).2.2.1] at Z3
  have HP := hide (YR.low (unhide HA).2.2.1 (YJ.step (cm := false) (C1 := C) (TC1 := TC) (unhide HA).1 (unhide HS).1 (unhide HS).2.1 (unhide HS).2.2.2 Z3 (fun k hk => by rcases hk with c | c; (exact .inl c); (exact .inr c.1)) o3))
  clear Z3 o3 C2
  go_wp2_with fail
  go_ret
  exact unhide HP
set_option maxRecDepth 100000 in
set_option maxHeartbeats 4000000 in
theorem yplay5_shut (J : YJ lo w q x z false S C T TC U none H) (a bb cc : Int) (s t : ByteArray) (hT : t.size ≤ maxLen) : Calls Tryz.prog 25 #[.pointer (some ⟨x, 0, none⟩), .pointer (some ⟨z, 0, none⟩), opA 5 a bb cc s t] w (YR lo w q x z TC U H false) := by
  have o1 : Only (fun _ => False) w (w.alloc (.cells #[.int .i64 5, .int .i64 a, .int .i64 bb, .int .i64 cc, .string s, .string t] 41)) := (Only.refl _ _).alloc _
  have A1 : Has (w.alloc (.cells #[.int .i64 5, .int .i64 a, .int .i64 bb, .int .i64 cc, .string s, .string t] 41)) w.heap.size #[.int .i64 5, .int .i64 a, .int .i64 bb, .int .i64 cc, .string s, .string t] 41 := Has.new _ _ _
  have HA := hide (And.intro (J.quiet o1) (And.intro A1 (And.intro o1 (J.st.new (Nat.le_refl _)))))
  clear J o1 A1
  unfold opA
  go_enter Tryz.func25, Tryz.ntmps25
  go_upto_region 1 with fail
  generalize w.alloc (.cells #[.int .i64 5, .int .i64 a, .int .i64 bb, .int .i64 cc, .string s, .string t] 41) = w1 at *
  have hkl := (unhide HA).2.1.lt
  generalize w.heap.size = kb at *
  have HX := hide (Only.refl q.S w1)
  have AB := (unhide HA).2.1.keep (unhide HX) (unhide HA).2.2.2
  have a0 := AB.cell 0
  have a1 := AB.cell 1
  have a2 := AB.cell 2
  have a3 := AB.cell 3
  have a4 := AB.cell 4
  have a5 := AB.cell 5
  simp at a0 a1 a2 a3 a4 a5
  clear AB
  have C1 := hide (edropT_shut (unhide HA).1.st s)
  go_wp2_with fail
  refine (unhide C1).mono ?_
  rintro e w2 ⟨rfl, st2, o2⟩
  have C2 := hide (ydrop_shut ((unhide HA).1.za.keep o2 (unhide HA).1.sepS) s)
  have HS := hide (And.intro st2 o2)
  have HX := hide o2
  clear st2 o2 C1
  clear a0 a1 a2 a3 a4 a5 
  have AB := (unhide HA).2.1.keep (unhide HX) (unhide HA).2.2.2
  have a0 := AB.cell 0
  have a1 := AB.cell 1
  have a4 := AB.cell 4
  simp at a0 a1 a4
  clear AB
  go_wp2_with fail
  refine (unhide C2).mono ?_
  rintro e w3 ⟨rfl, o3⟩
  have HP := hide (YR.low (unhide HA).2.2.1 (YJ.pure (cm := false) (unhide HA).1 ((unhide HS).1.quiet o3) ((unhide HS).2.andS o3)))
  clear o3 C2
  go_wp2_with fail
  go_ret
  exact unhide HP
set_option maxRecDepth 100000 in
set_option maxHeartbeats 4000000 in
theorem yplay6_open (J : YJ lo w q x z true S C T TC U none H) (a bb cc : Int) (s t : ByteArray) (hT : t.size ≤ maxLen) : Calls Tryz.prog 25 #[.pointer (some ⟨x, 0, none⟩), .pointer (some ⟨z, 0, none⟩), opA 6 a bb cc s t] w (YR lo w q x z TC U H false) := by
  have o1 : Only (fun _ => False) w (w.alloc (.cells #[.int .i64 6, .int .i64 a, .int .i64 bb, .int .i64 cc, .string s, .string t] 41)) := (Only.refl _ _).alloc _
  have A1 : Has (w.alloc (.cells #[.int .i64 6, .int .i64 a, .int .i64 bb, .int .i64 cc, .string s, .string t] 41)) w.heap.size #[.int .i64 6, .int .i64 a, .int .i64 bb, .int .i64 cc, .string s, .string t] 41 := Has.new _ _ _
  have HA := hide (And.intro (J.quiet o1) (And.intro A1 (And.intro o1 (J.st.new (Nat.le_refl _)))))
  clear J o1 A1
  unfold opA
  go_enter Tryz.func25, Tryz.ntmps25
  go_upto_region 1 with fail
  generalize w.alloc (.cells #[.int .i64 6, .int .i64 a, .int .i64 bb, .int .i64 cc, .string s, .string t] 41) = w1 at *
  have hkl := (unhide HA).2.1.lt
  generalize w.heap.size = kb at *
  have HX := hide (Only.refl q.S w1)
  have AB := (unhide HA).2.1.keep (unhide HX) (unhide HA).2.2.2
  have a0 := AB.cell 0
  have a1 := AB.cell 1
  have a2 := AB.cell 2
  have a3 := AB.cell 3
  have a4 := AB.cell 4
  have a5 := AB.cell 5
  simp at a0 a1 a2 a3 a4 a5
  clear AB
  have C1 := ecreateI_open (unhide HA).1.st (unhide HA).1.la s a
  obtain ⟨D', zz, hD⟩ : ∃ D' zz, cixD (dbOf T) s a = (D', zz) := ⟨_, _, rfl⟩
  rw [hD] at C1
  have C1 := hide C1
  have HDD := hide hD
  clear hD
  have dz : (zz == zz) = true := by simp
  go_wp2_with fail
  refine (unhide C1).mono ?_
  rintro e w2 ⟨rfl, ⟨S', T', st2, la2, hd2⟩, o2⟩
  have C2 := yindex_open ((unhide HA).1.za.keep o2 (unhide HA).1.sepS) s a
  rw [unhide HDD] at C2
  have C2 := hide C2
  have HS := hide (And.intro st2 (And.intro la2 (And.intro hd2 o2)))
  have HX := hide o2
  clear st2 la2 o2 C1
  clear a0 a1 a2 a3 a4 a5 
  have AB := (unhide HA).2.1.keep (unhide HX) (unhide HA).2.2.2
  have a0 := AB.cell 0
  have a1 := AB.cell 1
  have a4 := AB.cell 4
  simp at a0 a1 a4
  clear AB
  go_wp2_with fail
  refine (unhide C2).mono ?_
  rintro e w3 ⟨rfl, Z3, o3⟩
  have Z3 : YAt w3 z D' (dbOf TC) U none true (Ext H w2 w3) := Z3
  rw [← (unhide HS).2.2.1] at Z3
  have HP := hide (YR.low (unhide HA).2.2.1 (YJ.step (cm := false) (C1 := C) (TC1 := TC) (unhide HA).1 (unhide HS).1 (unhide HS).2.1 (unhide HS).2.2.2 Z3 (fun k hk => by rcases hk with c | c; (exact .inl c); (exact .inr c.1)) o3))
  clear Z3 o3 C2
  go_wp2_with fail
  go_ret
  exact unhide HP
set_option maxRecDepth 100000 in
set_option maxHeartbeats 4000000 in
theorem yplay6_shut (J : YJ lo w q x z false S C T TC U none H) (a bb cc : Int) (s t : ByteArray) (hT : t.size ≤ maxLen) : Calls Tryz.prog 25 #[.pointer (some ⟨x, 0, none⟩), .pointer (some ⟨z, 0, none⟩), opA 6 a bb cc s t] w (YR lo w q x z TC U H false) := by
  have o1 : Only (fun _ => False) w (w.alloc (.cells #[.int .i64 6, .int .i64 a, .int .i64 bb, .int .i64 cc, .string s, .string t] 41)) := (Only.refl _ _).alloc _
  have A1 : Has (w.alloc (.cells #[.int .i64 6, .int .i64 a, .int .i64 bb, .int .i64 cc, .string s, .string t] 41)) w.heap.size #[.int .i64 6, .int .i64 a, .int .i64 bb, .int .i64 cc, .string s, .string t] 41 := Has.new _ _ _
  have HA := hide (And.intro (J.quiet o1) (And.intro A1 (And.intro o1 (J.st.new (Nat.le_refl _)))))
  clear J o1 A1
  unfold opA
  go_enter Tryz.func25, Tryz.ntmps25
  go_upto_region 1 with fail
  generalize w.alloc (.cells #[.int .i64 6, .int .i64 a, .int .i64 bb, .int .i64 cc, .string s, .string t] 41) = w1 at *
  have hkl := (unhide HA).2.1.lt
  generalize w.heap.size = kb at *
  have HX := hide (Only.refl q.S w1)
  have AB := (unhide HA).2.1.keep (unhide HX) (unhide HA).2.2.2
  have a0 := AB.cell 0
  have a1 := AB.cell 1
  have a2 := AB.cell 2
  have a3 := AB.cell 3
  have a4 := AB.cell 4
  have a5 := AB.cell 5
  simp at a0 a1 a2 a3 a4 a5
  clear AB
  have C1 := hide (ecreateI_shut (unhide HA).1.st s a)
  go_wp2_with fail
  refine (unhide C1).mono ?_
  rintro e w2 ⟨rfl, st2, o2⟩
  have C2 := hide (yindex_shut ((unhide HA).1.za.keep o2 (unhide HA).1.sepS) s a)
  have HS := hide (And.intro st2 o2)
  have HX := hide o2
  clear st2 o2 C1
  clear a0 a1 a2 a3 a4 a5 
  have AB := (unhide HA).2.1.keep (unhide HX) (unhide HA).2.2.2
  have a0 := AB.cell 0
  have a1 := AB.cell 1
  have a4 := AB.cell 4
  simp at a0 a1 a4
  clear AB
  go_wp2_with fail
  refine (unhide C2).mono ?_
  rintro e w3 ⟨rfl, o3⟩
  have HP := hide (YR.low (unhide HA).2.2.1 (YJ.pure (cm := false) (unhide HA).1 ((unhide HS).1.quiet o3) ((unhide HS).2.andS o3)))
  clear o3 C2
  go_wp2_with fail
  go_ret
  exact unhide HP
end
end Go.Proofs.Qxb6500413aGreat
