/-
  OWN WORK. THE TABLE LAW: Play, changes with arguments (written by tools/gen_yq1.py).
-/
import Derived.Test.Qxb6500413aGreatYQ0
namespace Go.Proofs.Qxb6500413aGreat
open Go.RowKit Go.PlainAid
set_option linter.unusedSimpArgs false
set_option linter.unusedVariables false

section
variable {lo : Nat} {w : World} {q : Gnd} {x z : Nat} {op : Bool} {S C : Vu} {T TC : List (Tb × Hd)} {U : Db} {H : Nat → Prop}
set_option maxRecDepth 100000 in
set_option maxHeartbeats 4000000 in
theorem yplay4_open (J : YJ lo w q x z true S C T TC U none H) (a bb cc : Int) (s t : ByteArray) (hT : t.size ≤ maxLen) : Calls Tryz.prog 25 #[.pointer (some ⟨x, 0, none⟩), .pointer (some ⟨z, 0, none⟩), opA 4 a bb cc s t] w (YR lo w q x z TC U H false) := by
  have o1 : Only (fun _ => False) w (w.alloc (.cells #[.int .i64 4, .int .i64 a, .int .i64 bb, .int .i64 cc, .string s, .string t] 41)) := (Only.refl _ _).alloc _
  have A1 : Has (w.alloc (.cells #[.int .i64 4, .int .i64 a, .int .i64 bb, .int .i64 cc, .string s, .string t] 41)) w.heap.size #[.int .i64 4, .int .i64 a, .int .i64 bb, .int .i64 cc, .string s, .string t] 41 := Has.new _ _ _
  have HA := hide (And.intro (J.quiet o1) (And.intro A1 (And.intro o1 (J.st.new (Nat.le_refl _)))))
  clear J o1 A1
  unfold opA
  go_enter Tryz.func25, Tryz.ntmps25
  go_upto_region 1 with fail
  generalize w.alloc (.cells #[.int .i64 4, .int .i64 a, .int .i64 bb, .int .i64 cc, .string s, .string t] 41) = w1 at *
  have hkl := (unhide HA).2.1.lt
  generalize w.heap.size = kb at *
  have HX := hide (Only.refl q.S w1)
  have AB := (unhide HA).2.1.keep (unhide HX) (unhide HA).2.2.2
  have a0 := AB.cell 0
  have a1 := AB.cell 1
  have a2 := AB.cell 2
  have a3 := AB.cell 3
  have a4 := AB.cell 4
  have a5 := AB.cell 5
  simp at a0 a1 a2 a3 a4 a5
  clear AB
  have HT := hide hT
  have C1 := hide (eColsOf_any t hT w1)
  clear hT
  obtain ⟨D', zz, hD⟩ : ∃ D' zz, crtD (dbOf T) s (colsP t) a = (D', zz) := ⟨_, _, rfl⟩
  have HDD := hide hD
  clear hD
  have dz : (zz == zz) = true := by simp
  go_wp2_with fail
  refine (unhide C1).mono ?_
  rintro e w2 ⟨u, rfl, R2⟩
  have OU : OwnC w2 u (colsP t) := R2.own
  have hub := R2.hb
  have hnq : ∀ k, u.ownBlock = some k → ¬ q.S k := fun k hk => (unhide HA).1.st.new (R2.hb k hk)
  have HR2 := hide (And.intro R2.ho R2.hb)
  have HX := hide (R2.ho.toS (q := q))
  have st2 := (unhide HA).1.st.quiet R2.ho
  obtain ⟨ua, uc, hus⟩ := OU.shape
  obtain ⟨un, hun⟩ : ∃ un, (colsP t).length = un := ⟨_, rfl⟩
  rw [hun] at hus
  subst hus
  have C2 := ecreateT_any st2 (unhide HA).1.la s OU hnq (colsP_len t) a
  rw [unhide HDD] at C2
  have C2 := hide C2
  have HOU := hide (And.intro OU hnq)
  clear OU hnq hub R2 C1 hun st2
  clear a0 a1 a2 a3 a4 a5 
  have AB := (unhide HA).2.1.keep (unhide HX) (unhide HA).2.2.2
  have a1 := AB.cell 1
  have a4 := AB.cell 4
  have a5 := AB.cell 5
  simp at a1 a4 a5
  clear AB
  go_wp2_with fail
  refine (unhide C2).mono ?_
  rintro e w3 ⟨rfl, ⟨S', T', st3, la3, hd3⟩, o3⟩
  have OU3 := (unhide HOU).1.keep o3 (unhide HOU).2
  have C3 := hide (spoilCols_any OU3 (Nat.le_trans (colsP_len t) (by omega)))
  have HX := hide ((unhide HX).ss o3)
  have HS := hide (And.intro st3 (And.intro la3 hd3))
  clear OU3 st3 la3 o3 C2
  clear a1 a4 a5 
  go_wp2_with fail
  refine (unhide C3).mono ?_
  rintro e w4 ⟨rfl, o4⟩
  have st4 := (unhide HS).1.keep o4 (fun k hk e => by
    have := (unhide HR2).2 k e
    rcases hk with hk | hk
    · have := (unhide HA).1.st.fv.Alt k hk
      omega
    · have := (unhide HA).1.st.has.lt
      omega)
  have HX := hide ((unhide HX).trans o4 (fun k hk e => by have := (unhide HR2).2 k e; omega))
  have HS4 := hide st4
  have C4 := hide (eColsOf_any t (unhide HT) w4)
  clear st4 o4 C3
  have AB := (unhide HA).2.1.keep (unhide HX) (unhide HA).2.2.2
  have a1 := AB.cell 1
  have a4 := AB.cell 4
  have a5 := AB.cell 5
  simp at a1 a4 a5
  clear AB
  go_wp2_with fail
  refine (unhide C4).mono ?_
  rintro e w5 ⟨u', rfl, R5⟩
  have OV : OwnC w5 u' (colsP t) := R5.own
  have HX := hide ((unhide HX).andS R5.ho)
  have HS5 := hide ((unhide HS4).quiet R5.ho)
  have Z5 := (unhide HA).1.za.keep (unhide HX) (unhide HA).1.sepS
  obtain ⟨va, vc, hvs⟩ := OV.shape
  obtain ⟨vn, hvn⟩ : ∃ vn, (colsP t).length = vn := ⟨_, rfl⟩
  rw [hvn] at hvs
  subst hvs
  have C5 := ycreate_open Z5 s OV a
  rw [unhide HDD] at C5
  have C5 := hide C5
  clear OV R5 C4 hvn Z5 HS4
  clear a1 a4 a5 
  have AB := (unhide HA).2.1.keep (unhide HX) (unhide HA).2.2.2
  have a1 := AB.cell 1
  have a4 := AB.cell 4
  have a5 := AB.cell 5
  simp at a1 a4 a5
  clear AB
  go_wp2_with fail
  refine (unhide C5).mono ?_
  rintro e w6 ⟨rfl, Z6, o6⟩
  have Z6 : YAt w6 z D' (dbOf TC) U none true (Ext H w5 w6) := Z6
  rw [← (unhide HS).2.2] at Z6
  have HP := hide (YR.low (unhide HA).2.2.1 (YJ.step (cm := false) (C1 := C) (TC1 := TC) (unhide HA).1 (unhide HS5) (unhide HS).2.1 (unhide HX) Z6 (fun k hk => by rcases hk with c | c; (exact .inl c); (exact .inr c.1)) o6))
  clear Z6 o6 C5
  go_wp2_with fail
  go_ret
  exact unhide HP
set_option maxRecDepth 100000 in
set_option maxHeartbeats 4000000 in
theorem yplay4_shut (J : YJ lo w q x z false S C T TC U none H) (a bb cc : Int) (s t : ByteArray) (hT : t.size ≤ maxLen) : Calls Tryz.prog 25 #[.pointer (some ⟨x, 0, none⟩), .pointer (some ⟨z, 0, none⟩), opA 4 a bb cc s t] w (YR lo w q x z TC U H false) := by
  have o1 : Only (fun _ => False) w (w.alloc (.cells #[.int .i64 4, .int .i64 a, .int .i64 bb, .int .i64 cc, .string s, .string t] 41)) := (Only.refl _ _).alloc _
  have A1 : Has (w.alloc (.cells #[.int .i64 4, .int .i64 a, .int .i64 bb, .int .i64 cc, .string s, .string t] 41)) w.heap.size #[.int .i64 4, .int .i64 a, .int .i64 bb, .int .i64 cc, .string s, .string t] 41 := Has.new _ _ _
  have HA := hide (And.intro (J.quiet o1) (And.intro A1 (And.intro o1 (J.st.new (Nat.le_refl _)))))
  clear J o1 A1
  unfold opA
  go_enter Tryz.func25, Tryz.ntmps25
  go_upto_region 1 with fail
  generalize w.alloc (.cells #[.int .i64 4, .int .i64 a, .int .i64 bb, .int .i64 cc, .string s, .string t] 41) = w1 at *
  have hkl := (unhide HA).2.1.lt
  generalize w.heap.size = kb at *
  have HX := hide (Only.refl q.S w1)
  have AB := (unhide HA).2.1.keep (unhide HX) (unhide HA).2.2.2
  have a0 := AB.cell 0
  have a1 := AB.cell 1
  have a2 := AB.cell 2
  have a3 := AB.cell 3
  have a4 := AB.cell 4
  have a5 := AB.cell 5
  simp at a0 a1 a2 a3 a4 a5
  clear AB
  have HT := hide hT
  have C1 := hide (eColsOf_any t hT w1)
  clear hT
  go_wp2_with fail
  refine (unhide C1).mono ?_
  rintro e w2 ⟨u, rfl, R2⟩
  have OU : OwnC w2 u (colsP t) := R2.own
  have hub := R2.hb
  have hnq : ∀ k, u.ownBlock = some k → ¬ q.S k := fun k hk => (unhide HA).1.st.new (R2.hb k hk)
  have HR2 := hide (And.intro R2.ho R2.hb)
  have HX := hide (R2.ho.toS (q := q))
  have st2 := (unhide HA).1.st.quiet R2.ho
  obtain ⟨ua, uc, hus⟩ := OU.shape
  obtain ⟨un, hun⟩ : ∃ un, (colsP t).length = un := ⟨_, rfl⟩
  rw [hun] at hus
  subst hus
  have C2 := hide (ecreateT_shut st2 s (.slice ua un uc) a)
  have HOU := hide (And.intro OU hnq)
  clear OU hnq hub R2 C1 hun st2
  clear a0 a1 a2 a3 a4 a5 
  have AB := (unhide HA).2.1.keep (unhide HX) (unhide HA).2.2.2
  have a1 := AB.cell 1
  have a4 := AB.cell 4
  have a5 := AB.cell 5
  simp at a1 a4 a5
  clear AB
  go_wp2_with fail
  refine (unhide C2).mono ?_
  rintro e w3 ⟨rfl, st3, o3⟩
  have OU3 := (unhide HOU).1.keep o3 (unhide HOU).2
  have C3 := hide (spoilCols_any OU3 (Nat.le_trans (colsP_len t) (by omega)))
  have HX := hide ((unhide HX).ss o3)
  have HS := hide (And.intro st3 trivial)
  clear OU3 st3  o3 C2
  clear a1 a4 a5 
  go_wp2_with fail
  refine (unhide C3).mono ?_
  rintro e w4 ⟨rfl, o4⟩
  have st4 := (unhide HS).1.keep o4 (fun k hk e => by
    have := (unhide HR2).2 k e
    rcases hk with hk | hk
    · have := (unhide HA).1.st.fv.Alt k hk
      omega
    · have := (unhide HA).1.st.has.lt
      omega)
  have HX := hide ((unhide HX).trans o4 (fun k hk e => by have := (unhide HR2).2 k e; omega))
  have HS4 := hide st4
  have C4 := hide (eColsOf_any t (unhide HT) w4)
  clear st4 o4 C3
  have AB := (unhide HA).2.1.keep (unhide HX) (unhide HA).2.2.2
  have a1 := AB.cell 1
  have a4 := AB.cell 4
  have a5 := AB.cell 5
  simp at a1 a4 a5
  clear AB
  go_wp2_with fail
  refine (unhide C4).mono ?_
  rintro e w5 ⟨u', rfl, R5⟩
  have OV : OwnC w5 u' (colsP t) := R5.own
  have HX := hide ((unhide HX).andS R5.ho)
  have HS5 := hide ((unhide HS4).quiet R5.ho)
  have Z5 := (unhide HA).1.za.keep (unhide HX) (unhide HA).1.sepS
  obtain ⟨va, vc, hvs⟩ := OV.shape
  obtain ⟨vn, hvn⟩ : ∃ vn, (colsP t).length = vn := ⟨_, rfl⟩
  rw [hvn] at hvs
  subst hvs
  have C5 := hide (ycreate_shut Z5 s (.slice va vn vc) a)
  clear OV R5 C4 hvn Z5 HS4
  clear a1 a4 a5 
  have AB := (unhide HA).2.1.keep (unhide HX) (unhide HA).2.2.2
  have a1 := AB.cell 1
  have a4 := AB.cell 4
  have a5 := AB.cell 5
  simp at a1 a4 a5
  clear AB
  go_wp2_with fail
  refine (unhide C5).mono ?_
  rintro e w6 ⟨rfl, o6⟩
  have HP := hide (YR.low (unhide HA).2.2.1 (YJ.pure (cm := false) (unhide HA).1 ((unhide HS5).quiet o6) ((unhide HX).andS o6)))
  clear o6 C5
  go_wp2_with fail
  go_ret
  exact unhide HP
set_option maxRecDepth 100000 in
set_option maxHeartbeats 4000000 in
theorem yplay7_open (J : YJ lo w q x z true S C T TC U none H) (a bb cc : Int) (s t : ByteArray) (hT : t.size ≤ maxLen) : Calls Tryz.prog 25 #[.pointer (some ⟨x, 0, none⟩), .pointer (some ⟨z, 0, none⟩), opA 7 a bb cc s t] w (YR lo w q x z TC U H false) := by
  have o1 : Only (fun _ => False) w (w.alloc (.cells #[.int .i64 7, .int .i64 a, .int .i64 bb, .int .i64 cc, .string s, .string t] 41)) := (Only.refl _ _).alloc _
  have A1 : Has (w.alloc (.cells #[.int .i64 7, .int .i64 a, .int .i64 bb, .int .i64 cc, .string s, .string t] 41)) w.heap.size #[.int .i64 7, .int .i64 a, .int .i64 bb, .int .i64 cc, .string s, .string t] 41 := Has.new _ _ _
  have HA := hide (And.intro (J.quiet o1) (And.intro A1 (And.intro o1 (J.st.new (Nat.le_refl _)))))
  clear J o1 A1
  unfold opA
  go_enter Tryz.func25, Tryz.ntmps25
  go_upto_region 1 with fail
  generalize w.alloc (.cells #[.int .i64 7, .int .i64 a, .int .i64 bb, .int .i64 cc, .string s, .string t] 41) = w1 at *
  have hkl := (unhide HA).2.1.lt
  generalize w.heap.size = kb at *
  have HX := hide (Only.refl q.S w1)
  have AB := (unhide HA).2.1.keep (unhide HX) (unhide HA).2.2.2
  have a0 := AB.cell 0
  have a1 := AB.cell 1
  have a2 := AB.cell 2
  have a3 := AB.cell 3
  have a4 := AB.cell 4
  have a5 := AB.cell 5
  simp at a0 a1 a2 a3 a4 a5
  clear AB
  have HT := hide hT
  have C1 := hide (eRowOf_any t hT w1)
  clear hT
  obtain ⟨D', zz, hD⟩ : ∃ D' zz, insD (dbOf T) s (rowP t) = (D', zz) := ⟨_, _, rfl⟩
  have HDD := hide hD
  clear hD
  have dz : (zz == zz) = true := by simp
  go_wp2_with fail
  refine (unhide C1).mono ?_
  rintro e w2 ⟨u, rfl, R2⟩
  have OU : OwnV w2 u (rowP t) := R2.own
  have hub := R2.hb
  have hnq : ∀ k, u.ownBlock = some k → ¬ q.S k := fun k hk => (unhide HA).1.st.new (R2.hb k hk)
  have HR2 := hide (And.intro R2.ho R2.hb)
  have HX := hide (R2.ho.toS (q := q))
  have st2 := (unhide HA).1.st.quiet R2.ho
  obtain ⟨ua, uc, hus⟩ := OU.shape
  obtain ⟨un, hun⟩ : ∃ un, (rowP t).length = un := ⟨_, rfl⟩
  rw [hun] at hus
  subst hus
  have C2 := einsert_open st2 (unhide HA).1.la s OU hnq (rowP_wf t) (rowP_len t)
  rw [unhide HDD] at C2
  have C2 := hide C2
  have HOU := hide (And.intro OU hnq)
  clear OU hnq hub R2 C1 hun st2
  clear a0 a1 a2 a3 a4 a5 
  have AB := (unhide HA).2.1.keep (unhide HX) (unhide HA).2.2.2
  have a1 := AB.cell 1
  have a4 := AB.cell 4
  have a5 := AB.cell 5
  simp at a1 a4 a5
  clear AB
  go_wp2_with fail
  refine (unhide C2).mono ?_
  rintro e w3 ⟨rfl, ⟨S', T', st3, la3, hd3⟩, o3⟩
  have OU3 := (unhide HOU).1.keep o3 (unhide HOU).2
  have C3 := hide (spoil_any OU3 (Nat.le_trans (rowP_len t) (by omega)))
  have HX := hide ((unhide HX).ss o3)
  have HS := hide (And.intro st3 (And.intro la3 hd3))
  clear OU3 st3 la3 o3 C2
  clear a1 a4 a5 
  go_wp2_with fail
  refine (unhide C3).mono ?_
  rintro e w4 ⟨rfl, o4⟩
  have st4 := (unhide HS).1.keep o4 (fun k hk e => by
    have := (unhide HR2).2 k e
    rcases hk with hk | hk
    · have := (unhide HA).1.st.fv.Alt k hk
      omega
    · have := (unhide HA).1.st.has.lt
      omega)
  have HX := hide ((unhide HX).trans o4 (fun k hk e => by have := (unhide HR2).2 k e; omega))
  have HS4 := hide st4
  have C4 := hide (eRowOf_any t (unhide HT) w4)
  clear st4 o4 C3
  have AB := (unhide HA).2.1.keep (unhide HX) (unhide HA).2.2.2
  have a1 := AB.cell 1
  have a4 := AB.cell 4
  have a5 := AB.cell 5
  simp at a1 a4 a5
  clear AB
  go_wp2_with fail
  refine (unhide C4).mono ?_
  rintro e w5 ⟨u', rfl, R5⟩
  have OV : OwnV w5 u' (rowP t) := R5.own
  have HX := hide ((unhide HX).andS R5.ho)
  have HS5 := hide ((unhide HS4).quiet R5.ho)
  have Z5 := (unhide HA).1.za.keep (unhide HX) (unhide HA).1.sepS
  obtain ⟨va, vc, hvs⟩ := OV.shape
  obtain ⟨vn, hvn⟩ : ∃ vn, (rowP t).length = vn := ⟨_, rfl⟩
  rw [hvn] at hvs
  subst hvs
  have C5 := yinsert_open Z5 s OV (rowP_wf t) (Nat.le_trans (rowP_len t) (by omega))
  rw [unhide HDD] at C5
  have C5 := hide C5
  clear OV R5 C4 hvn Z5 HS4
  clear a1 a4 a5 
  have AB := (unhide HA).2.1.keep (unhide HX) (unhide HA).2.2.2
  have a1 := AB.cell 1
  have a4 := AB.cell 4
  have a5 := AB.cell 5
  simp at a1 a4 a5
  clear AB
  go_wp2_with fail
  refine (unhide C5).mono ?_
  rintro e w6 ⟨rfl, Z6, o6⟩
  have Z6 : YAt w6 z D' (dbOf TC) U none true (Ext H w5 w6) := Z6
  rw [← (unhide HS).2.2] at Z6
  have HP := hide (YR.low (unhide HA).2.2.1 (YJ.step (cm := false) (C1 := C) (TC1 := TC) (unhide HA).1 (unhide HS5) (unhide HS).2.1 (unhide HX) Z6 (fun k hk => by rcases hk with c | c; (exact .inl c); (exact .inr c.1)) o6))
  clear Z6 o6 C5
  go_wp2_with fail
  go_ret
  exact unhide HP
set_option maxRecDepth 100000 in
set_option maxHeartbeats 4000000 in
theorem yplay7_shut (J : YJ lo w q x z false S C T TC U none H) (a bb cc : Int) (s t : ByteArray) (hT : t.size ≤ maxLen) : Calls Tryz.prog 25 #[.pointer (some ⟨x, 0, none⟩), .pointer (some ⟨z, 0, none⟩), opA 7 a bb cc s t] w (YR lo w q x z TC U H false) := by
  have o1 : Only (fun _ => False) w (w.alloc (.cells #[.int .i64 7, .int .i64 a, .int .i64 bb, .int .i64 cc, .string s, .string t] 41)) := (Only.refl _ _).alloc _
  have A1 : Has (w.alloc (.cells #[.int .i64 7, .int .i64 a, .int .i64 bb, .int .i64 cc, .string s, .string t] 41)) w.heap.size #[.int .i64 7, .int .i64 a, .int .i64 bb, .int .i64 cc, .string s, .string t] 41 := Has.new _ _ _
  have HA := hide (And.intro (J.quiet o1) (And.intro A1 (And.intro o1 (J.st.new (Nat.le_refl _)))))
  clear J o1 A1
  unfold opA
  go_enter Tryz.func25, Tryz.ntmps25
  go_upto_region 1 with fail
  generalize w.alloc (.cells #[.int .i64 7, .int .i64 a, .int .i64 bb, .int .i64 cc, .string s, .string t] 41) = w1 at *
  have hkl := (unhide HA).2.1.lt
  generalize w.heap.size = kb at *
  have HX := hide (Only.refl q.S w1)
  have AB := (unhide HA).2.1.keep (unhide HX) (unhide HA).2.2.2
  have a0 := AB.cell 0
  have a1 := AB.cell 1
  have a2 := AB.cell 2
  have a3 := AB.cell 3
  have a4 := AB.cell 4
  have a5 := AB.cell 5
  simp at a0 a1 a2 a3 a4 a5
  clear AB
  have HT := hide hT
  have C1 := hide (eRowOf_any t hT w1)
  clear hT
  go_wp2_with fail
  refine (unhide C1).mono ?_
  rintro e w2 ⟨u, rfl, R2⟩
  have OU : OwnV w2 u (rowP t) := R2.own
  have hub := R2.hb
  have hnq : ∀ k, u.ownBlock = some k → ¬ q.S k := fun k hk => (unhide HA).1.st.new (R2.hb k hk)
  have HR2 := hide (And.intro R2.ho R2.hb)
  have HX := hide (R2.ho.toS (q := q))
  have st2 := (unhide HA).1.st.quiet R2.ho
  obtain ⟨ua, uc, hus⟩ := OU.shape
  obtain ⟨un, hun⟩ : ∃ un, (rowP t).length = un := ⟨_, rfl⟩
  rw [hun] at hus
  subst hus
  have C2 := hide (einsert_shut st2 s (.slice ua un uc))
  have HOU := hide (And.intro OU hnq)
  clear OU hnq hub R2 C1 hun st2
  clear a0 a1 a2 a3 a4 a5 
  have AB := (unhide HA).2.1.keep (unhide HX) (unhide HA).2.2.2
  have a1 := AB.cell 1
  have a4 := AB.cell 4
  have a5 := AB.cell 5
  simp at a1 a4 a5
  clear AB
  go_wp2_with fail
  refine (unhide C2).mono ?_
  rintro e w3 ⟨rfl, st3, o3⟩
  have OU3 := (unhide HOU).1.keep o3 (unhide HOU).2
  have C3 := hide (spoil_any OU3 (Nat.le_trans (rowP_len t) (by omega)))
  have HX := hide ((unhide HX).ss o3)
  have HS := hide (And.intro st3 trivial)
  clear OU3 st3  o3 C2
  clear a1 a4 a5 
  go_wp2_with fail
  refine (unhide C3).mono ?_
  rintro e w4 ⟨rfl, o4⟩
  have st4 := (unhide HS).1.keep o4 (fun k hk e => by
    have := (unhide HR2).2 k e
    rcases hk with hk | hk
    · have := (unhide HA).1.st.fv.Alt k hk
      omega
    · have := (unhide HA).1.st.has.lt
      omega)
  have HX := hide ((unhide HX).trans o4 (fun k hk e => by have := (unhide HR2).2 k e; omega))
  have HS4 := hide st4
  have C4 := hide (eRowOf_any t (unhide HT) w4)
  clear st4 o4 C3
  have AB := (unhide HA).2.1.keep (unhide HX) (unhide HA).2.2.2
  have a1 := AB.cell 1
  have a4 := AB.cell 4
  have a5 := AB.cell 5
  simp at a1 a4 a5
  clear AB
  go_wp2_with fail
  refine (unhide C4).mono ?_
  rintro e w5 ⟨u', rfl, R5⟩
  have OV : OwnV w5 u' (rowP t) := R5.own
  have HX := hide ((unhide HX).andS R5.ho)
  have HS5 := hide ((unhide HS4).quiet R5.ho)
  have Z5 := (unhide HA).1.za.keep (unhide HX) (unhide HA).1.sepS
  obtain ⟨va, vc, hvs⟩ := OV.shape
  obtain ⟨vn, hvn⟩ : ∃ vn, (rowP t).length = vn := ⟨_, rfl⟩
  rw [hvn] at hvs
  subst hvs
  have C5 := hide (yinsert_shut Z5 s (.slice va vn vc))
  clear OV R5 C4 hvn Z5 HS4
  clear a1 a4 a5 
  have AB := (unhide HA).2.1.keep (unhide HX) (unhide HA).2.2.2
  have a1 := AB.cell 1
  have a4 := AB.cell 4
  have a5 := AB.cell 5
  simp at a1 a4 a5
  clear AB
  go_wp2_with fail
  refine (unhide C5).mono ?_
  rintro e w6 ⟨rfl, o6⟩
  have HP := hide (YR.low (unhide HA).2.2.1 (YJ.pure (cm := false) (unhide HA).1 ((unhide HS5).quiet o6) ((unhide HX).andS o6)))
  clear o6 C5
  go_wp2_with fail
  go_ret
  exact unhide HP
set_option maxRecDepth 100000 in
set_option maxHeartbeats 4000000 in
theorem yplay8_open (J : YJ lo w q x z true S C T TC U none H) (a bb cc : Int) (s t : ByteArray) (hT : t.size ≤ maxLen) : Calls Tryz.prog 25 #[.pointer (some ⟨x, 0, none⟩), .pointer (some ⟨z, 0, none⟩), opA 8 a bb cc s t] w (YR lo w q x z TC U H false) := by
  have o1 : Only (fun _ => False) w (w.alloc (.cells #[.int .i64 8, .int .i64 a, .int .i64 bb, .int .i64 cc, .string s, .string t] 41)) := (Only.refl _ _).alloc _
  have A1 : Has (w.alloc (.cells #[.int .i64 8, .int .i64 a, .int .i64 bb, .int .i64 cc, .string s, .string t] 41)) w.heap.size #[.int .i64 8, .int .i64 a, .int .i64 bb, .int .i64 cc, .string s, .string t] 41 := Has.new _ _ _
  have HA := hide (And.intro (J.quiet o1) (And.intro A1 (And.intro o1 (J.st.new (Nat.le_refl _)))))
  clear J o1 A1
  unfold opA
  go_enter Tryz.func25, Tryz.ntmps25
  go_upto_region 1 with fail
  generalize w.alloc (.cells #[.int .i64 8, .int .i64 a, .int .i64 bb, .int .i64 cc, .string s, .string t] 41) = w1 at *
  have hkl := (unhide HA).2.1.lt
  generalize w.heap.size = kb at *
  have HX := hide (Only.refl q.S w1)
  have AB := (unhide HA).2.1.keep (unhide HX) (unhide HA).2.2.2
  have a0 := AB.cell 0
  have a1 := AB.cell 1
  have a2 := AB.cell 2
  have a3 := AB.cell 3
  have a4 := AB.cell 4
  have a5 := AB.cell 5
  simp at a0 a1 a2 a3 a4 a5
  clear AB
  have HT := hide hT
  have C1 := hide (eRowOf_any t hT w1)
  clear hT
  obtain ⟨D', zz, hD⟩ : ∃ D' zz, updD (dbOf T) s (rowP t) = (D', zz) := ⟨_, _, rfl⟩
  have HDD := hide hD
  clear hD
  have dz : (zz == zz) = true := by simp
  go_wp2_with fail
  refine (unhide C1).mono ?_
  rintro e w2 ⟨u, rfl, R2⟩
  have OU : OwnV w2 u (rowP t) := R2.own
  have hub := R2.hb
  have hnq : ∀ k, u.ownBlock = some k → ¬ q.S k := fun k hk => (unhide HA).1.st.new (R2.hb k hk)
  have HR2 := hide (And.intro R2.ho R2.hb)
  have HX := hide (R2.ho.toS (q := q))
  have st2 := (unhide HA).1.st.quiet R2.ho
  obtain ⟨ua, uc, hus⟩ := OU.shape
  obtain ⟨un, hun⟩ : ∃ un, (rowP t).length = un := ⟨_, rfl⟩
  rw [hun] at hus
  subst hus
  have C2 := eupdate_open st2 (unhide HA).1.la s OU hnq (rowP_wf t) (rowP_len t)
  rw [unhide HDD] at C2
  have C2 := hide C2
  have HOU := hide (And.intro OU hnq)
  clear OU hnq hub R2 C1 hun st2
  clear a0 a1 a2 a3 a4 a5 
  have AB := (unhide HA).2.1.keep (unhide HX) (unhide HA).2.2.2
  have a1 := AB.cell 1
  have a4 := AB.cell 4
  have a5 := AB.cell 5
  simp at a1 a4 a5
  clear AB
  go_wp2_with fail
  refine (unhide C2).mono ?_
  rintro e w3 ⟨rfl, ⟨S', T', st3, la3, hd3⟩, o3⟩
  have OU3 := (unhide HOU).1.keep o3 (unhide HOU).2
  have C3 := hide (spoil_any OU3 (Nat.le_trans (rowP_len t) (by omega)))
  have HX := hide ((unhide HX).ss o3)
  have HS := hide (And.intro st3 (And.intro la3 hd3))
  clear OU3 st3 la3 o3 C2
  clear a1 a4 a5 
  go_wp2_with fail
  refine (unhide C3).mono ?_
  rintro e w4 ⟨rfl, o4⟩
  have st4 := (unhide HS).1.keep o4 (fun k hk e => by
    have := (unhide HR2).2 k e
    rcases hk with hk | hk
    · have := (unhide HA).1.st.fv.Alt k hk
      omega
    · have := (unhide HA).1.st.has.lt
      omega)
  have HX := hide ((unhide HX).trans o4 (fun k hk e => by have := (unhide HR2).2 k e; omega))
  have HS4 := hide st4
  have C4 := hide (eRowOf_any t (unhide HT) w4)
  clear st4 o4 C3
  have AB := (unhide HA).2.1.keep (unhide HX) (unhide HA).2.2.2
  have a1 := AB.cell 1
  have a4 := AB.cell 4
  have a5 := AB.cell 5
  simp at a1 a4 a5
  clear AB
  go_wp2_with fail
  refine (unhide C4).mono ?_
  rintro e w5 ⟨u', rfl, R5⟩
  have OV : OwnV w5 u' (rowP t) := R5.own
  have HX := hide ((unhide HX).andS R5.ho)
  have HS5 := hide ((unhide HS4).quiet R5.ho)
  have Z5 := (unhide HA).1.za.keep (unhide HX) (unhide HA).1.sepS
  obtain ⟨va, vc, hvs⟩ := OV.shape
  obtain ⟨vn, hvn⟩ : ∃ vn, (rowP t).length = vn := ⟨_, rfl⟩
  rw [hvn] at hvs
  subst hvs
  have C5 := yupdate_open Z5 s OV (rowP_wf t) (Nat.le_trans (rowP_len t) (by omega))
  rw [unhide HDD] at C5
  have C5 := hide C5
  clear OV R5 C4 hvn Z5 HS4
  clear a1 a4 a5 
  have AB := (unhide HA).2.1.keep (unhide HX) (unhide HA).2.2.2
  have a1 := AB.cell 1
  have a4 := AB.cell 4
  have a5 := AB.cell 5
  simp at a1 a4 a5
  clear AB
  go_wp2_with fail
  refine (unhide C5).mono ?_
  rintro e w6 ⟨rfl, Z6, o6⟩
  have Z6 : YAt w6 z D' (dbOf TC) U none true (Ext H w5 w6) := Z6
  rw [← (unhide HS).2.2] at Z6
  have HP := hide (YR.low (unhide HA).2.2.1 (YJ.step (cm := false) (C1 := C) (TC1 := TC) (unhide HA).1 (unhide HS5) (unhide HS).2.1 (unhide HX) Z6 (fun k hk => by rcases hk with c | c; (exact .inl c); (exact .inr c.1)) o6))
  clear Z6 o6 C5
  go_wp2_with fail
  go_ret
  exact unhide HP
set_option maxRecDepth 100000 in
set_option maxHeartbeats 4000000 in
theorem yplay8_shut (J : YJ lo w q x z false S C T TC U none H) (a bb cc : Int) (s t : ByteArray) (hT : t.size ≤ maxLen) : Calls Tryz.prog 25 #[.pointer (some ⟨x, 0, none⟩), .pointer (some ⟨z, 0, none⟩), opA 8 a bb cc s t] w (YR lo w q x z TC U H false) := by
  have o1 : Only (fun _ => False) w (w.alloc (.cells #[.int .i64 8, .int .i64 a, .int .i64 bb, .int .i64 cc, .string s, .string t] 41)) := (Only.refl _ _).alloc _
  have A1 : Has (w.alloc (.cells #[.int .i64 8, .int .i64 a, .int .i64 bb, .int .i64 cc, .string s, .string t] 41)) w.heap.size #[.int .i64 8, .int .i64 a, .int .i64 bb, .int .i64 cc, .string s, .string t] 41 := Has.new _ _ _
  have HA := hide (And.intro (J.quiet o1) (And.intro A1 (And.intro o1 (J.st.new (Nat.le_refl _)))))
  clear J o1 A1
  unfold opA
  go_enter Tryz.func25, Tryz.ntmps25
  go_upto_region 1 with fail
  generalize w.alloc (.cells #[.int .i64 8, .int .i64 a, .int .i64 bb, .int .i64 cc, .string s, .string t] 41) = w1 at *
  have hkl := (unhide HA).2.1.lt
  generalize w.heap.size = kb at *
  have HX := hide (Only.refl q.S w1)
  have AB := (unhide HA).2.1.keep (unhide HX) (unhide HA).2.2.2
  have a0 := AB.cell 0
  have a1 := AB.cell 1
  have a2 := AB.cell 2
  have a3 := AB.cell 3
  have a4 := AB.cell 4
  have a5 := AB.cell 5
  simp at a0 a1 a2 a3 a4 a5
  clear AB
  have HT := hide hT
  have C1 := hide (eRowOf_any t hT w1)
  clear hT
  go_wp2_with fail
  refine (unhide C1).mono ?_
  rintro e w2 ⟨u, rfl, R2⟩
  have OU : OwnV w2 u (rowP t) := R2.own
  have hub := R2.hb
  have hnq : ∀ k, u.ownBlock = some k → ¬ q.S k := fun k hk => (unhide HA).1.st.new (R2.hb k hk)
  have HR2 := hide (And.intro R2.ho R2.hb)
  have HX := hide (R2.ho.toS (q := q))
  have st2 := (unhide HA).1.st.quiet R2.ho
  obtain ⟨ua, uc, hus⟩ := OU.shape
  obtain ⟨un, hun⟩ : ∃ un, (rowP t).length = un := ⟨_, rfl⟩
  rw [hun] at hus
  subst hus
  have C2 := hide (eupdate_shut st2 s (.slice ua un uc))
  have HOU := hide (And.intro OU hnq)
  clear OU hnq hub R2 C1 hun st2
  clear a0 a1 a2 a3 a4 a5 
  have AB := (unhide HA).2.1.keep (unhide HX) (unhide HA).2.2.2
  have a1 := AB.cell 1
  have a4 := AB.cell 4
  have a5 := AB.cell 5
  simp at a1 a4 a5
  clear AB
  go_wp2_with fail
  refine (unhide C2).mono ?_
  rintro e w3 ⟨rfl, st3, o3⟩
  have OU3 := (unhide HOU).1.keep o3 (unhide HOU).2
  have C3 := hide (spoil_any OU3 (Nat.le_trans (rowP_len t) (by omega)))
  have HX := hide ((unhide HX).ss o3)
  have HS := hide (And.intro st3 trivial)
  clear OU3 st3  o3 C2
  clear a1 a4 a5 
  go_wp2_with fail
  refine (unhide C3).mono ?_
  rintro e w4 ⟨rfl, o4⟩
  have st4 := (unhide HS).1.keep o4 (fun k hk e => by
    have := (unhide HR2).2 k e
    rcases hk with hk | hk
    · have := (unhide HA).1.st.fv.Alt k hk
      omega
    · have := (unhide HA).1.st.has.lt
      omega)
  have HX := hide ((unhide HX).trans o4 (fun k hk e => by have := (unhide HR2).2 k e; omega))
  have HS4 := hide st4
  have C4 := hide (eRowOf_any t (unhide HT) w4)
  clear st4 o4 C3
  have AB := (unhide HA).2.1.keep (unhide HX) (unhide HA).2.2.2
  have a1 := AB.cell 1
  have a4 := AB.cell 4
  have a5 := AB.cell 5
  simp at a1 a4 a5
  clear AB
  go_wp2_with fail
  refine (unhide C4).mono ?_
  rintro e w5 ⟨u', rfl, R5⟩
  have OV : OwnV w5 u' (rowP t) := R5.own
  have HX := hide ((unhide HX).andS R5.ho)
  have HS5 := hide ((unhide HS4).quiet R5.ho)
  have Z5 := (unhide HA).1.za.keep (unhide HX) (unhide HA).1.sepS
  obtain ⟨va, vc, hvs⟩ := OV.shape
  obtain ⟨vn, hvn⟩ : ∃ vn, (rowP t).length = vn := ⟨_, rfl⟩
  rw [hvn] at hvs
  subst hvs
  have C5 := hide (yupdate_shut Z5 s (.slice va vn vc))
  clear OV R5 C4 hvn Z5 HS4
  clear a1 a4 a5 
  have AB := (unhide HA).2.1.keep (unhide HX) (unhide HA).2.2.2
  have a1 := AB.cell 1
  have a4 := AB.cell 4
  have a5 := AB.cell 5
  simp at a1 a4 a5
  clear AB
  go_wp2_with fail
  refine (unhide C5).mono ?_
  rintro e w6 ⟨rfl, o6⟩
  have HP := hide (YR.low (unhide HA).2.2.1 (YJ.pure (cm := false) (unhide HA).1 ((unhide HS5).quiet o6) ((unhide HX).andS o6)))
  clear o6 C5
  go_wp2_with fail
  go_ret
  exact unhide HP
set_option maxRecDepth 100000 in
set_option maxHeartbeats 4000000 in
theorem yplay9_open (J : YJ lo w q x z true S C T TC U none H) (a bb cc : Int) (s t : ByteArray) (hT : t.size ≤ maxLen) : Calls Tryz.prog 25 #[.pointer (some ⟨x, 0, none⟩), .pointer (some ⟨z, 0, none⟩), opA 9 a bb cc s t] w (YR lo w q x z TC U H false) := by
  have o1 : Only (fun _ => False) w (w.alloc (.cells #[.int .i64 9, .int .i64 a, .int .i64 bb, .int .i64 cc, .string s, .string t] 41)) := (Only.refl _ _).alloc _
  have A1 : Has (w.alloc (.cells #[.int .i64 9, .int .i64 a, .int .i64 bb, .int .i64 cc, .string s, .string t] 41)) w.heap.size #[.int .i64 9, .int .i64 a, .int .i64 bb, .int .i64 cc, .string s, .string t] 41 := Has.new _ _ _
  have HA := hide (And.intro (J.quiet o1) (And.intro A1 (And.intro o1 (J.st.new (Nat.le_refl _)))))
  clear J o1 A1
  unfold opA
  go_enter Tryz.func25, Tryz.ntmps25
  go_upto_region 1 with fail
  generalize w.alloc (.cells #[.int .i64 9, .int .i64 a, .int .i64 bb, .int .i64 cc, .string s, .string t] 41) = w1 at *
  have hkl := (unhide HA).2.1.lt
  generalize w.heap.size = kb at *
  have HX := hide (Only.refl q.S w1)
  have AB := (unhide HA).2.1.keep (unhide HX) (unhide HA).2.2.2
  have a0 := AB.cell 0
  have a1 := AB.cell 1
  have a2 := AB.cell 2
  have a3 := AB.cell 3
  have a4 := AB.cell 4
  have a5 := AB.cell 5
  simp at a0 a1 a2 a3 a4 a5
  clear AB
  have HT := hide hT
  have C1 := eFirst_any t hT w1
  have hw := fstP_wf t
  obtain ⟨key, hkey⟩ : ∃ key, fstP t = key := ⟨_, rfl⟩
  rw [hkey] at C1 hw
  unfold vlA at C1
  have C1 := hide C1
  have HK := hide (And.intro hkey hw)
  clear hT hkey hw
  obtain ⟨D', zz, hD⟩ : ∃ D' zz, delD (dbOf T) s key = (D', zz) := ⟨_, _, rfl⟩
  have HDD := hide hD
  clear hD
  have dz : (zz == zz) = true := by simp
  go_wp2_with fail
  refine (unhide C1).mono ?_
  rintro e w2 ⟨rfl, o2⟩
  have oA : Only (fun _ => False) w2 (w2.alloc (.cells #[.bool key.str, .int .i64 key.i, .string key.s] 72)) := (Only.refl _ _).alloc _
  have B2 : Has (w2.alloc (.cells #[.bool key.str, .int .i64 key.i, .string key.s] 72)) w2.heap.size #[.bool key.str, .int .i64 key.i, .string key.s] 72 := Has.new _ _ _
  have HX := hide ((o2.trans oA (fun _ _ e => e)).toS (q := q))
  have HS := hide (And.intro ((unhide HA).1.st.quiet (o2.trans oA (fun _ _ e => e))) B2)
  clear o2 oA B2 C1
  clear a0 a1 a2 a3 a4 a5 
  go_upto_region 45 with fail
  generalize w2.alloc (.cells #[.bool key.str, .int .i64 key.i, .string key.s] 72) = w3 at *
  generalize w2.heap.size = ka at *
  have k0 := (unhide HS).2.cell 0
  have k1 := (unhide HS).2.cell 1
  have k2 := (unhide HS).2.cell 2
  simp at k0 k1 k2
  have AB := (unhide HA).2.1.keep (unhide HX) (unhide HA).2.2.2
  have a4 := AB.cell 4
  have a5 := AB.cell 5
  simp at a4 a5
  clear AB
  have C2 := edelete_open (unhide HS).1 (unhide HA).1.la s key (unhide HK).2
  rw [unhide HDD] at C2
  unfold vlA at C2
  have C2 := hide C2
  go_wp2_with fail
  refine (unhide C2).mono ?_
  rintro e w4 ⟨rfl, ⟨S', T', st4, la4, hd4⟩, o4⟩
  have HS4 := hide (And.intro st4 (And.intro la4 hd4))
  clear la4
  have HX := hide ((unhide HX).ss o4)
  have C3 := eFirst_any t (unhide HT) w4
  rw [(unhide HK).1] at C3
  unfold vlA at C3
  have C3 := hide C3
  clear st4 o4 C2 k0 k1 k2
  clear a4 a5 
  have AB := (unhide HA).2.1.keep (unhide HX) (unhide HA).2.2.2
  have a4 := AB.cell 4
  have a5 := AB.cell 5
  simp at a4 a5
  clear AB
  go_wp2_with fail
  refine (unhide C3).mono ?_
  rintro e w5 ⟨rfl, o5⟩
  have oA : Only (fun _ => False) w5 (w5.alloc (.cells #[.bool key.str, .int .i64 key.i, .string key.s] 72)) := (Only.refl _ _).alloc _
  have B2 : Has (w5.alloc (.cells #[.bool key.str, .int .i64 key.i, .string key.s] 72)) w5.heap.size #[.bool key.str, .int .i64 key.i, .string key.s] 72 := Has.new _ _ _
  have o56 := o5.trans oA (fun _ _ e => e)
  have HX := hide ((unhide HX).andS o56)
  have HS6 := hide (And.intro ((unhide HS4).1.quiet o56) B2)
  clear o5 oA o56 B2 C3
  clear a4 a5 
  go_upto_region 47 with fail
  generalize w5.alloc (.cells #[.bool key.str, .int .i64 key.i, .string key.s] 72) = w6 at *
  generalize w5.heap.size = kc at *
  have k0 := (unhide HS6).2.cell 0
  have k1 := (unhide HS6).2.cell 1
  have k2 := (unhide HS6).2.cell 2
  simp at k0 k1 k2
  have AB := (unhide HA).2.1.keep (unhide HX) (unhide HA).2.2.2
  have a4 := AB.cell 4
  have a5 := AB.cell 5
  simp at a4 a5
  clear AB
  have Z6 := (unhide HA).1.za.keep (unhide HX) (unhide HA).1.sepS
  have C4 := ydelete_open Z6 s key (unhide HK).2
  rw [unhide HDD] at C4
  unfold vlA at C4
  have C4 := hide C4
  clear Z6
  go_wp2_with fail
  refine (unhide C4).mono ?_
  rintro e w7 ⟨rfl, Z7, o7⟩
  have Z7 : YAt w7 z D' (dbOf TC) U none true (Ext H w6 w7) := Z7
  rw [← (unhide HS4).2.2] at Z7
  have HP := hide (YR.low (unhide HA).2.2.1 (YJ.step (cm := false) (C1 := C) (TC1 := TC) (unhide HA).1 (unhide HS6).1 (unhide HS4).2.1 (unhide HX) Z7 (fun k hk => by rcases hk with c | c; (exact .inl c); (exact .inr c.1)) o7))
  clear Z7 o7 C4 k0 k1 k2
  go_wp2_with fail
  go_ret
  exact unhide HP
set_option maxRecDepth 100000 in
set_option maxHeartbeats 4000000 in
theorem yplay9_shut (J : YJ lo w q x z false S C T TC U none H) (a bb cc : Int) (s t : ByteArray) (hT : t.size ≤ maxLen) : Calls Tryz.prog 25 #[.pointer (some ⟨x, 0, none⟩), .pointer (some ⟨z, 0, none⟩), opA 9 a bb cc s t] w (YR lo w q x z TC U H false) := by
  have o1 : Only (fun _ => False) w (w.alloc (.cells #[.int .i64 9, .int .i64 a, .int .i64 bb, .int .i64 cc, .string s, .string t] 41)) := (Only.refl _ _).alloc _
  have A1 : Has (w.alloc (.cells #[.int .i64 9, .int .i64 a, .int .i64 bb, .int .i64 cc, .string s, .string t] 41)) w.heap.size #[.int .i64 9, .int .i64 a, .int .i64 bb, .int .i64 cc, .string s, .string t] 41 := Has.new _ _ _
  have HA := hide (And.intro (J.quiet o1) (And.intro A1 (And.intro o1 (J.st.new (Nat.le_refl _)))))
  clear J o1 A1
  unfold opA
  go_enter Tryz.func25, Tryz.ntmps25
  go_upto_region 1 with fail
  generalize w.alloc (.cells #[.int .i64 9, .int .i64 a, .int .i64 bb, .int .i64 cc, .string s, .string t] 41) = w1 at *
  have hkl := (unhide HA).2.1.lt
  generalize w.heap.size = kb at *
  have HX := hide (Only.refl q.S w1)
  have AB := (unhide HA).2.1.keep (unhide HX) (unhide HA).2.2.2
  have a0 := AB.cell 0
  have a1 := AB.cell 1
  have a2 := AB.cell 2
  have a3 := AB.cell 3
  have a4 := AB.cell 4
  have a5 := AB.cell 5
  simp at a0 a1 a2 a3 a4 a5
  clear AB
  have HT := hide hT
  have C1 := eFirst_any t hT w1
  have hw := fstP_wf t
  obtain ⟨key, hkey⟩ : ∃ key, fstP t = key := ⟨_, rfl⟩
  rw [hkey] at C1 hw
  unfold vlA at C1
  have C1 := hide C1
  have HK := hide (And.intro hkey hw)
  clear hT hkey hw
  go_wp2_with fail
  refine (unhide C1).mono ?_
  rintro e w2 ⟨rfl, o2⟩
  have oA : Only (fun _ => False) w2 (w2.alloc (.cells #[.bool key.str, .int .i64 key.i, .string key.s] 72)) := (Only.refl _ _).alloc _
  have B2 : Has (w2.alloc (.cells #[.bool key.str, .int .i64 key.i, .string key.s] 72)) w2.heap.size #[.bool key.str, .int .i64 key.i, .string key.s] 72 := Has.new _ _ _
  have HX := hide ((o2.trans oA (fun _ _ e => e)).toS (q := q))
  have HS := hide (And.intro ((unhide HA).1.st.quiet (o2.trans oA (fun _ _ e => e))) B2)
  clear o2 oA B2 C1
  clear a0 a1 a2 a3 a4 a5 
  go_upto_region 45 with fail
  generalize w2.alloc (.cells #[.bool key.str, .int .i64 key.i, .string key.s] 72) = w3 at *
  generalize w2.heap.size = ka at *
  have k0 := (unhide HS).2.cell 0
  have k1 := (unhide HS).2.cell 1
  have k2 := (unhide HS).2.cell 2
  simp at k0 k1 k2
  have AB := (unhide HA).2.1.keep (unhide HX) (unhide HA).2.2.2
  have a4 := AB.cell 4
  have a5 := AB.cell 5
  simp at a4 a5
  clear AB
  have C2 := edelete_shut (unhide HS).1 s key
  unfold vlA at C2
  have C2 := hide C2
  go_wp2_with fail
  refine (unhide C2).mono ?_
  rintro e w4 ⟨rfl, st4, o4⟩
  have HS4 := hide (And.intro st4 trivial)
  have HX := hide ((unhide HX).ss o4)
  have C3 := eFirst_any t (unhide HT) w4
  rw [(unhide HK).1] at C3
  unfold vlA at C3
  have C3 := hide C3
  clear st4 o4 C2 k0 k1 k2
  clear a4 a5 
  have AB := (unhide HA).2.1.keep (unhide HX) (unhide HA).2.2.2
  have a4 := AB.cell 4
  have a5 := AB.cell 5
  simp at a4 a5
  clear AB
  go_wp2_with fail
  refine (unhide C3).mono ?_
  rintro e w5 ⟨rfl, o5⟩
  have oA : Only (fun _ => False) w5 (w5.alloc (.cells #[.bool key.str, .int .i64 key.i, .string key.s] 72)) := (Only.refl _ _).alloc _
  have B2 : Has (w5.alloc (.cells #[.bool key.str, .int .i64 key.i, .string key.s] 72)) w5.heap.size #[.bool key.str, .int .i64 key.i, .string key.s] 72 := Has.new _ _ _
  have o56 := o5.trans oA (fun _ _ e => e)
  have HX := hide ((unhide HX).andS o56)
  have HS6 := hide (And.intro ((unhide HS4).1.quiet o56) B2)
  clear o5 oA o56 B2 C3
  clear a4 a5 
  go_upto_region 47 with fail
  generalize w5.alloc (.cells #[.bool key.str, .int .i64 key.i, .string key.s] 72) = w6 at *
  generalize w5.heap.size = kc at *
  have k0 := (unhide HS6).2.cell 0
  have k1 := (unhide HS6).2.cell 1
  have k2 := (unhide HS6).2.cell 2
  simp at k0 k1 k2
  have AB := (unhide HA).2.1.keep (unhide HX) (unhide HA).2.2.2
  have a4 := AB.cell 4
  have a5 := AB.cell 5
  simp at a4 a5
  clear AB
  have Z6 := (unhide HA).1.za.keep (unhide HX) (unhide HA).1.sepS
  have C4 := ydelete_shut Z6 s key
  unfold vlA at C4
  have C4 := hide C4
  clear Z6
  go_wp2_with fail
  refine (unhide C4).mono ?_
  rintro e w7 ⟨rfl, o7⟩
  have HP := hide (YR.low (unhide HA).2.2.1 (YJ.pure (cm := false) (unhide HA).1 ((unhide HS6).1.quiet o7) ((unhide HX).andS o7)))
  clear o7 C4 k0 k1 k2
  go_wp2_with fail
  go_ret
  exact unhide HP
end
end Go.Proofs.Qxb6500413aGreat
