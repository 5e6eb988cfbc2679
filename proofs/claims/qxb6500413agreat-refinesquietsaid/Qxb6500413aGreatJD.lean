/-
  OWN WORK. THE TABLE LAW: Did, kind by kind (written by tools/gen_jd.py).
-/
import Derived.Test.Qxb6500413aGreatJH5
import Derived.Test.Qxb6500413aGreatEBr
namespace Go.Proofs.Qxb6500413aGreat
open Go.RowKit Go.PlainAid
set_option linter.unusedSimpArgs false
set_option linter.unusedVariables false

theorem DbQ.low {q : Gnd} {w w1 w' : World} {x : Nat} {D : Db} (o1 : Only (fun _ => False) w w1) (h : DbQ q w1 x D w') : DbQ q w x D w' := ⟨h.1, (o1.mono (fun _ _ e => e.elim)).trans h.2 (fun _ _ e => e)⟩
/-- What a commit leaves. -/
def ComP (q : Gnd) (w : World) (x : Nat) (S : Vu) (e : Ending) (w' : World) : Prop := e = .returned (.int .i64 0) ∧ ∃ rs com wa, Only (fun _ => False) w wa ∧ ST (q.done rs com wa w') w' x false S ∧ ComF com S ∧ CutInv q.blk rs q.com com ∧ Only q.D w w'
section
variable {q : Gnd} {w w' : World} {x : Nat} {op : Bool} {S : Vu} {TT : List (Tb × Hd)}

set_option maxRecDepth 100000 in
set_option maxHeartbeats 4000000 in
theorem jdid1_open (H : ST q w x true S) (a bb cc : Int) (s T : ByteArray) (hT : T.size ≤ maxLen) : Calls Tryz.prog 40 #[.pointer (some ⟨x, 0, none⟩), opA 1 a bb cc s T] w fun e w' => e = .returned (.int .i64 3) ∧ Only (fun _ => False) w w' := by
  have o1 : Only (fun _ => False) w (w.alloc (.cells #[.int .i64 1, .int .i64 a, .int .i64 bb, .int .i64 cc, .string s, .string T] 41)) := (Only.refl _ w).alloc _
  have A1 : Has (w.alloc (.cells #[.int .i64 1, .int .i64 a, .int .i64 bb, .int .i64 cc, .string s, .string T] 41)) w.heap.size #[.int .i64 1, .int .i64 a, .int .i64 bb, .int .i64 cc, .string s, .string T] 41 := Has.new w _ _
  have a0 := A1.cell 0
  have a1 := A1.cell 1
  have a4 := A1.cell 4
  have a5 := A1.cell 5
  simp at a0 a1 a4 a5
  have H1 := H.quiet o1
  have C := hide (sbegin_open H1)
  have HO := hide o1
  clear H H1 o1 A1
  unfold opA
  go_enter Tryz.func40, Tryz.ntmps40
  go_wp2_with fail
  refine (unhide C).mono ?_
  rintro e w2 ⟨rfl, rfl⟩
  go_wp2_with fail
  go_ret
  exact ⟨rfl, unhide HO⟩
set_option maxRecDepth 100000 in
set_option maxHeartbeats 4000000 in
theorem jdid1_shut (H : ST q w x false S) (a bb cc : Int) (s T : ByteArray) (hT : T.size ≤ maxLen) : Calls Tryz.prog 40 #[.pointer (some ⟨x, 0, none⟩), opA 1 a bb cc s T] w fun e w' => e = .returned (.int .i64 0) ∧ ST q w' x true S ∧ Only q.S w w' := by
  have o1 : Only (fun _ => False) w (w.alloc (.cells #[.int .i64 1, .int .i64 a, .int .i64 bb, .int .i64 cc, .string s, .string T] 41)) := (Only.refl _ w).alloc _
  have A1 : Has (w.alloc (.cells #[.int .i64 1, .int .i64 a, .int .i64 bb, .int .i64 cc, .string s, .string T] 41)) w.heap.size #[.int .i64 1, .int .i64 a, .int .i64 bb, .int .i64 cc, .string s, .string T] 41 := Has.new w _ _
  have a0 := A1.cell 0
  have a1 := A1.cell 1
  have a4 := A1.cell 4
  have a5 := A1.cell 5
  simp at a0 a1 a4 a5
  have H1 := H.quiet o1
  have C := hide (sbegin_shut H1)
  have HO := hide o1
  clear H H1 o1 A1
  unfold opA
  go_enter Tryz.func40, Tryz.ntmps40
  go_wp2_with fail
  refine (unhide C).mono ?_
  rintro e w2 ⟨rfl, h1, h2⟩
  have HP := hide (And.intro h1 (((unhide HO).mono (fun _ _ e => e.elim)).trans h2 (fun _ _ e => e)))
  clear h1 h2
  go_wp2_with fail
  go_ret
  exact ⟨rfl, unhide HP⟩
set_option maxRecDepth 100000 in
set_option maxHeartbeats 4000000 in
theorem jdid2_shut (H : ST q w x false S) (a bb cc : Int) (s T : ByteArray) (hT : T.size ≤ maxLen) : Calls Tryz.prog 40 #[.pointer (some ⟨x, 0, none⟩), opA 2 a bb cc s T] w fun e w' => e = .returned (.int .i64 2) ∧ Only (fun _ => False) w w' := by
  have o1 : Only (fun _ => False) w (w.alloc (.cells #[.int .i64 2, .int .i64 a, .int .i64 bb, .int .i64 cc, .string s, .string T] 41)) := (Only.refl _ w).alloc _
  have A1 : Has (w.alloc (.cells #[.int .i64 2, .int .i64 a, .int .i64 bb, .int .i64 cc, .string s, .string T] 41)) w.heap.size #[.int .i64 2, .int .i64 a, .int .i64 bb, .int .i64 cc, .string s, .string T] 41 := Has.new w _ _
  have a0 := A1.cell 0
  have a1 := A1.cell 1
  have a4 := A1.cell 4
  have a5 := A1.cell 5
  simp at a0 a1 a4 a5
  have H1 := H.quiet o1
  have C := hide (scommit_shut H1)
  have HO := hide o1
  clear H H1 o1 A1
  unfold opA
  go_enter Tryz.func40, Tryz.ntmps40
  go_wp2_with fail
  refine (unhide C).mono ?_
  rintro e w2 ⟨rfl, rfl⟩
  go_wp2_with fail
  go_ret
  exact ⟨rfl, unhide HO⟩
set_option maxRecDepth 100000 in
set_option maxHeartbeats 4000000 in
theorem jdid2_open (H : ST q w x true S) (hrc : q.recs.length ≤ 300) (a bb cc : Int) (s T : ByteArray) (hT : T.size ≤ maxLen) : Calls Tryz.prog 40 #[.pointer (some ⟨x, 0, none⟩), opA 2 a bb cc s T] w (ComP q w x S) := by
  have o1 : Only (fun _ => False) w (w.alloc (.cells #[.int .i64 2, .int .i64 a, .int .i64 bb, .int .i64 cc, .string s, .string T] 41)) := (Only.refl _ w).alloc _
  have A1 : Has (w.alloc (.cells #[.int .i64 2, .int .i64 a, .int .i64 bb, .int .i64 cc, .string s, .string T] 41)) w.heap.size #[.int .i64 2, .int .i64 a, .int .i64 bb, .int .i64 cc, .string s, .string T] 41 := Has.new w _ _
  have a0 := A1.cell 0
  have a1 := A1.cell 1
  have a4 := A1.cell 4
  have a5 := A1.cell 5
  simp at a0 a1 a4 a5
  have H1 := H.quiet o1
  have C := hide (scommit_open H1 hrc)
  have HO := hide o1
  clear H H1 o1 A1
  unfold opA
  go_enter Tryz.func40, Tryz.ntmps40
  go_wp2_with fail
  refine (unhide C).mono ?_
  rintro e w2 ⟨rfl, rs, com, h1, h2, h3, h4⟩
  have HP := hide (show ComP q w x S (.returned (.int .i64 0)) w2 from ⟨rfl, rs, com, _, unhide HO, h1, h2, h3, ((unhide HO).mono (fun _ _ e => e.elim)).trans h4 (fun _ _ e => e)⟩)
  clear h1 h2 h3 h4
  go_wp2_with fail
  go_ret
  exact unhide HP
set_option maxRecDepth 100000 in
set_option maxHeartbeats 4000000 in
theorem jdid3_shut (H : ST q w x false S) (a bb cc : Int) (s T : ByteArray) (hT : T.size ≤ maxLen) : Calls Tryz.prog 40 #[.pointer (some ⟨x, 0, none⟩), opA 3 a bb cc s T] w fun e w' => e = .returned (.int .i64 2) ∧ Only (fun _ => False) w w' := by
  have o1 : Only (fun _ => False) w (w.alloc (.cells #[.int .i64 3, .int .i64 a, .int .i64 bb, .int .i64 cc, .string s, .string T] 41)) := (Only.refl _ w).alloc _
  have A1 : Has (w.alloc (.cells #[.int .i64 3, .int .i64 a, .int .i64 bb, .int .i64 cc, .string s, .string T] 41)) w.heap.size #[.int .i64 3, .int .i64 a, .int .i64 bb, .int .i64 cc, .string s, .string T] 41 := Has.new w _ _
  have a0 := A1.cell 0
  have a1 := A1.cell 1
  have a4 := A1.cell 4
  have a5 := A1.cell 5
  simp at a0 a1 a4 a5
  have H1 := H.quiet o1
  have C := hide (sabort_shut H1)
  have HO := hide o1
  clear H H1 o1 A1
  unfold opA
  go_enter Tryz.func40, Tryz.ntmps40
  go_wp2_with fail
  refine (unhide C).mono ?_
  rintro e w2 ⟨rfl, rfl⟩
  go_wp2_with fail
  go_ret
  exact ⟨rfl, unhide HO⟩
set_option maxRecDepth 100000 in
set_option maxHeartbeats 4000000 in
theorem jdid3_open (H : ST q w x true S) {C0 : Vu} (hC : ComF q.com C0) (a bb cc : Int) (s T : ByteArray) (hT : T.size ≤ maxLen) : Calls Tryz.prog 40 #[.pointer (some ⟨x, 0, none⟩), opA 3 a bb cc s T] w fun e w' => e = .returned (.int .i64 0) ∧ ST q w' x false C0 ∧ Only q.S w w' := by
  have o1 : Only (fun _ => False) w (w.alloc (.cells #[.int .i64 3, .int .i64 a, .int .i64 bb, .int .i64 cc, .string s, .string T] 41)) := (Only.refl _ w).alloc _
  have A1 : Has (w.alloc (.cells #[.int .i64 3, .int .i64 a, .int .i64 bb, .int .i64 cc, .string s, .string T] 41)) w.heap.size #[.int .i64 3, .int .i64 a, .int .i64 bb, .int .i64 cc, .string s, .string T] 41 := Has.new w _ _
  have a0 := A1.cell 0
  have a1 := A1.cell 1
  have a4 := A1.cell 4
  have a5 := A1.cell 5
  simp at a0 a1 a4 a5
  have H1 := H.quiet o1
  have C := hide (sabort_open H1 hC)
  have HO := hide o1
  clear H H1 o1 A1
  unfold opA
  go_enter Tryz.func40, Tryz.ntmps40
  go_wp2_with fail
  refine (unhide C).mono ?_
  rintro e w2 ⟨rfl, h1, h2⟩
  have HP := hide (And.intro h1 (((unhide HO).mono (fun _ _ e => e.elim)).trans h2 (fun _ _ e => e)))
  clear h1 h2
  go_wp2_with fail
  go_ret
  exact ⟨rfl, unhide HP⟩
set_option maxRecDepth 100000 in
set_option maxHeartbeats 4000000 in
theorem jdid4_open (H : ST q w x true S) (L : Lay S TT) (a bb cc : Int) (s T : ByteArray) (hT : T.size ≤ maxLen) : Calls Tryz.prog 40 #[.pointer (some ⟨x, 0, none⟩), opA 4 a bb cc s T] w fun e w' => e = .returned (.int .i64 (dueD 4 a s T (dbOf TT)).2) ∧ DbQ q w x (dueD 4 a s T (dbOf TT)).1 w' := by
  have o1 : Only (fun _ => False) w (w.alloc (.cells #[.int .i64 4, .int .i64 a, .int .i64 bb, .int .i64 cc, .string s, .string T] 41)) := (Only.refl _ w).alloc _
  have A1 : Has (w.alloc (.cells #[.int .i64 4, .int .i64 a, .int .i64 bb, .int .i64 cc, .string s, .string T] 41)) w.heap.size #[.int .i64 4, .int .i64 a, .int .i64 bb, .int .i64 cc, .string s, .string T] 41 := Has.new w _ _
  have a0 := A1.cell 0
  have a1 := A1.cell 1
  have a4 := A1.cell 4
  have a5 := A1.cell 5
  simp at a0 a1 a4 a5
  have hd : dueD 4 a s T (dbOf TT) = crtD (dbOf TT) s (colsP T) a := by unfold dueD; rfl
  rw [hd]
  clear hd
  have H1 := H.quiet o1
  have C1 := hide (eColsOf_any T hT (w.alloc (.cells #[.int .i64 4, .int .i64 a, .int .i64 bb, .int .i64 cc, .string s, .string T] 41)))
  have HH := hide (And.intro H1 (And.intro o1 (And.intro A1 L)))
  clear H H1 o1 A1 L
  unfold opA
  go_enter Tryz.func40, Tryz.ntmps40
  go_wp2_with fail
  refine (unhide C1).mono ?_
  rintro e w2 ⟨u, rfl, R2⟩
  generalize (w.alloc (.cells #[.int .i64 4, .int .i64 a, .int .i64 bb, .int .i64 cc, .string s, .string T] 41)) = w1 at *
  generalize w.heap.size = kb at *
  have o2' := (unhide HH).2.1.trans R2.ho (fun _ _ e => e)
  have H2 := (unhide HH).1.quiet R2.ho
  have A2 := (unhide HH).2.2.1.keep R2.ho (fun e => e)
  have OU : OwnC w2 u (colsP T) := R2.own
  have hnq : ∀ k, u.ownBlock = some k → ¬ q.S k := fun k hk => (unhide HH).1.new (R2.hb k hk)
  obtain ⟨ua, uc, hus⟩ := OU.shape
  have C := ecreateT_any H2 (unhide HH).2.2.2 s OU hnq (colsP_len T) a
  rw [hus] at C ⊢
  have C := hide C
  clear OU hus hnq R2
  have HO := hide o2'
  clear a0 a1 a4 a5 C1 o2' H2 HH
  have a0 := A2.cell 0
  have a1 := A2.cell 1
  have a4 := A2.cell 4
  have a5 := A2.cell 5
  simp at a0 a1 a4 a5
  clear A2
  go_wp2_with fail
  refine (unhide C).mono ?_
  rintro e w5 ⟨rfl, h⟩
  have HP := hide (DbQ.low (unhide HO) h)
  clear h C
  go_wp2_with fail
  go_ret
  exact ⟨rfl, unhide HP⟩
set_option maxRecDepth 100000 in
set_option maxHeartbeats 4000000 in
theorem jdid4_shut (H : ST q w x false S) (a bb cc : Int) (s T : ByteArray) (hT : T.size ≤ maxLen) : Calls Tryz.prog 40 #[.pointer (some ⟨x, 0, none⟩), opA 4 a bb cc s T] w fun e w' => e = .returned (.int .i64 2) ∧ ST q w' x false S ∧ Only q.S w w' := by
  have o1 : Only (fun _ => False) w (w.alloc (.cells #[.int .i64 4, .int .i64 a, .int .i64 bb, .int .i64 cc, .string s, .string T] 41)) := (Only.refl _ w).alloc _
  have A1 : Has (w.alloc (.cells #[.int .i64 4, .int .i64 a, .int .i64 bb, .int .i64 cc, .string s, .string T] 41)) w.heap.size #[.int .i64 4, .int .i64 a, .int .i64 bb, .int .i64 cc, .string s, .string T] 41 := Has.new w _ _
  have a0 := A1.cell 0
  have a1 := A1.cell 1
  have a4 := A1.cell 4
  have a5 := A1.cell 5
  simp at a0 a1 a4 a5
  have H1 := H.quiet o1
  have C1 := hide (eColsOf_any T hT (w.alloc (.cells #[.int .i64 4, .int .i64 a, .int .i64 bb, .int .i64 cc, .string s, .string T] 41)))
  have HH := hide (And.intro H1 (And.intro o1 (And.intro A1 trivial)))
  clear H H1 o1 A1
  unfold opA
  go_enter Tryz.func40, Tryz.ntmps40
  go_wp2_with fail
  refine (unhide C1).mono ?_
  rintro e w2 ⟨u, rfl, R2⟩
  generalize (w.alloc (.cells #[.int .i64 4, .int .i64 a, .int .i64 bb, .int .i64 cc, .string s, .string T] 41)) = w1 at *
  generalize w.heap.size = kb at *
  have o2' := (unhide HH).2.1.trans R2.ho (fun _ _ e => e)
  have H2 := (unhide HH).1.quiet R2.ho
  have A2 := (unhide HH).2.2.1.keep R2.ho (fun e => e)
  have OU : OwnC w2 u (colsP T) := R2.own
  have hnq : ∀ k, u.ownBlock = some k → ¬ q.S k := fun k hk => (unhide HH).1.new (R2.hb k hk)
  obtain ⟨ua, uc, hus⟩ := OU.shape
  have C := ecreateT_shut H2 s u a
  rw [hus] at C ⊢
  have C := hide C
  clear OU hus hnq R2
  have HO := hide o2'
  clear a0 a1 a4 a5 C1 o2' H2 HH
  have a0 := A2.cell 0
  have a1 := A2.cell 1
  have a4 := A2.cell 4
  have a5 := A2.cell 5
  simp at a0 a1 a4 a5
  clear A2
  go_wp2_with fail
  refine (unhide C).mono ?_
  rintro e w5 ⟨rfl, h1, h2⟩
  have HP := hide (And.intro h1 (((unhide HO).mono (fun _ _ e => e.elim)).trans h2 (fun _ _ e => e)))
  clear h1 h2 C
  go_wp2_with fail
  go_ret
  exact ⟨rfl, unhide HP⟩
set_option maxRecDepth 100000 in
set_option maxHeartbeats 4000000 in
theorem jdid5_open (H : ST q w x true S) (L : Lay S TT) (a bb cc : Int) (s T : ByteArray) (hT : T.size ≤ maxLen) : Calls Tryz.prog 40 #[.pointer (some ⟨x, 0, none⟩), opA 5 a bb cc s T] w fun e w' => e = .returned (.int .i64 (dueD 5 a s T (dbOf TT)).2) ∧ DbQ q w x (dueD 5 a s T (dbOf TT)).1 w' := by
  have o1 : Only (fun _ => False) w (w.alloc (.cells #[.int .i64 5, .int .i64 a, .int .i64 bb, .int .i64 cc, .string s, .string T] 41)) := (Only.refl _ w).alloc _
  have A1 : Has (w.alloc (.cells #[.int .i64 5, .int .i64 a, .int .i64 bb, .int .i64 cc, .string s, .string T] 41)) w.heap.size #[.int .i64 5, .int .i64 a, .int .i64 bb, .int .i64 cc, .string s, .string T] 41 := Has.new w _ _
  have a0 := A1.cell 0
  have a1 := A1.cell 1
  have a4 := A1.cell 4
  have a5 := A1.cell 5
  simp at a0 a1 a4 a5
  have hd : dueD 5 a s T (dbOf TT) = drpD (dbOf TT) s := by unfold dueD; rfl
  rw [hd]
  clear hd
  have H1 := H.quiet o1
  have C := hide (edropT_open H1 L s)
  have HO := hide o1
  clear H H1 o1 A1 L
  unfold opA
  go_enter Tryz.func40, Tryz.ntmps40
  go_wp2_with fail
  refine (unhide C).mono ?_
  rintro e w5 ⟨rfl, h⟩
  have HP := hide (DbQ.low (unhide HO) h)
  clear h C
  go_wp2_with fail
  go_ret
  exact ⟨rfl, unhide HP⟩
set_option maxRecDepth 100000 in
set_option maxHeartbeats 4000000 in
theorem jdid5_shut (H : ST q w x false S) (a bb cc : Int) (s T : ByteArray) (hT : T.size ≤ maxLen) : Calls Tryz.prog 40 #[.pointer (some ⟨x, 0, none⟩), opA 5 a bb cc s T] w fun e w' => e = .returned (.int .i64 2) ∧ ST q w' x false S ∧ Only q.S w w' := by
  have o1 : Only (fun _ => False) w (w.alloc (.cells #[.int .i64 5, .int .i64 a, .int .i64 bb, .int .i64 cc, .string s, .string T] 41)) := (Only.refl _ w).alloc _
  have A1 : Has (w.alloc (.cells #[.int .i64 5, .int .i64 a, .int .i64 bb, .int .i64 cc, .string s, .string T] 41)) w.heap.size #[.int .i64 5, .int .i64 a, .int .i64 bb, .int .i64 cc, .string s, .string T] 41 := Has.new w _ _
  have a0 := A1.cell 0
  have a1 := A1.cell 1
  have a4 := A1.cell 4
  have a5 := A1.cell 5
  simp at a0 a1 a4 a5
  have H1 := H.quiet o1
  have C := hide (edropT_shut H1 s)
  have HO := hide o1
  clear H H1 o1 A1
  unfold opA
  go_enter Tryz.func40, Tryz.ntmps40
  go_wp2_with fail
  refine (unhide C).mono ?_
  rintro e w5 ⟨rfl, h1, h2⟩
  have HP := hide (And.intro h1 (((unhide HO).mono (fun _ _ e => e.elim)).trans h2 (fun _ _ e => e)))
  clear h1 h2 C
  go_wp2_with fail
  go_ret
  exact ⟨rfl, unhide HP⟩
set_option maxRecDepth 100000 in
set_option maxHeartbeats 4000000 in
theorem jdid6_open (H : ST q w x true S) (L : Lay S TT) (a bb cc : Int) (s T : ByteArray) (hT : T.size ≤ maxLen) : Calls Tryz.prog 40 #[.pointer (some ⟨x, 0, none⟩), opA 6 a bb cc s T] w fun e w' => e = .returned (.int .i64 (dueD 6 a s T (dbOf TT)).2) ∧ DbQ q w x (dueD 6 a s T (dbOf TT)).1 w' := by
  have o1 : Only (fun _ => False) w (w.alloc (.cells #[.int .i64 6, .int .i64 a, .int .i64 bb, .int .i64 cc, .string s, .string T] 41)) := (Only.refl _ w).alloc _
  have A1 : Has (w.alloc (.cells #[.int .i64 6, .int .i64 a, .int .i64 bb, .int .i64 cc, .string s, .string T] 41)) w.heap.size #[.int .i64 6, .int .i64 a, .int .i64 bb, .int .i64 cc, .string s, .string T] 41 := Has.new w _ _
  have a0 := A1.cell 0
  have a1 := A1.cell 1
  have a4 := A1.cell 4
  have a5 := A1.cell 5
  simp at a0 a1 a4 a5
  have hd : dueD 6 a s T (dbOf TT) = cixD (dbOf TT) s a := by unfold dueD; rfl
  rw [hd]
  clear hd
  have H1 := H.quiet o1
  have C := hide (ecreateI_open H1 L s a)
  have HO := hide o1
  clear H H1 o1 A1 L
  unfold opA
  go_enter Tryz.func40, Tryz.ntmps40
  go_wp2_with fail
  refine (unhide C).mono ?_
  rintro e w5 ⟨rfl, h⟩
  have HP := hide (DbQ.low (unhide HO) h)
  clear h C
  go_wp2_with fail
  go_ret
  exact ⟨rfl, unhide HP⟩
set_option maxRecDepth 100000 in
set_option maxHeartbeats 4000000 in
theorem jdid6_shut (H : ST q w x false S) (a bb cc : Int) (s T : ByteArray) (hT : T.size ≤ maxLen) : Calls Tryz.prog 40 #[.pointer (some ⟨x, 0, none⟩), opA 6 a bb cc s T] w fun e w' => e = .returned (.int .i64 2) ∧ ST q w' x false S ∧ Only q.S w w' := by
  have o1 : Only (fun _ => False) w (w.alloc (.cells #[.int .i64 6, .int .i64 a, .int .i64 bb, .int .i64 cc, .string s, .string T] 41)) := (Only.refl _ w).alloc _
  have A1 : Has (w.alloc (.cells #[.int .i64 6, .int .i64 a, .int .i64 bb, .int .i64 cc, .string s, .string T] 41)) w.heap.size #[.int .i64 6, .int .i64 a, .int .i64 bb, .int .i64 cc, .string s, .string T] 41 := Has.new w _ _
  have a0 := A1.cell 0
  have a1 := A1.cell 1
  have a4 := A1.cell 4
  have a5 := A1.cell 5
  simp at a0 a1 a4 a5
  have H1 := H.quiet o1
  have C := hide (ecreateI_shut H1 s a)
  have HO := hide o1
  clear H H1 o1 A1
  unfold opA
  go_enter Tryz.func40, Tryz.ntmps40
  go_wp2_with fail
  refine (unhide C).mono ?_
  rintro e w5 ⟨rfl, h1, h2⟩
  have HP := hide (And.intro h1 (((unhide HO).mono (fun _ _ e => e.elim)).trans h2 (fun _ _ e => e)))
  clear h1 h2 C
  go_wp2_with fail
  go_ret
  exact ⟨rfl, unhide HP⟩
set_option maxRecDepth 100000 in
set_option maxHeartbeats 4000000 in
theorem jdid7_open (H : ST q w x true S) (L : Lay S TT) (a bb cc : Int) (s T : ByteArray) (hT : T.size ≤ maxLen) : Calls Tryz.prog 40 #[.pointer (some ⟨x, 0, none⟩), opA 7 a bb cc s T] w fun e w' => e = .returned (.int .i64 (dueD 7 a s T (dbOf TT)).2) ∧ DbQ q w x (dueD 7 a s T (dbOf TT)).1 w' := by
  have o1 : Only (fun _ => False) w (w.alloc (.cells #[.int .i64 7, .int .i64 a, .int .i64 bb, .int .i64 cc, .string s, .string T] 41)) := (Only.refl _ w).alloc _
  have A1 : Has (w.alloc (.cells #[.int .i64 7, .int .i64 a, .int .i64 bb, .int .i64 cc, .string s, .string T] 41)) w.heap.size #[.int .i64 7, .int .i64 a, .int .i64 bb, .int .i64 cc, .string s, .string T] 41 := Has.new w _ _
  have a0 := A1.cell 0
  have a1 := A1.cell 1
  have a4 := A1.cell 4
  have a5 := A1.cell 5
  simp at a0 a1 a4 a5
  have hd : dueD 7 a s T (dbOf TT) = insD (dbOf TT) s (rowP T) := by unfold dueD; rfl
  rw [hd]
  clear hd
  have H1 := H.quiet o1
  have C1 := hide (eRowOf_any T hT (w.alloc (.cells #[.int .i64 7, .int .i64 a, .int .i64 bb, .int .i64 cc, .string s, .string T] 41)))
  have HH := hide (And.intro H1 (And.intro o1 (And.intro A1 L)))
  clear H H1 o1 A1 L
  unfold opA
  go_enter Tryz.func40, Tryz.ntmps40
  go_wp2_with fail
  refine (unhide C1).mono ?_
  rintro e w2 ⟨u, rfl, R2⟩
  generalize (w.alloc (.cells #[.int .i64 7, .int .i64 a, .int .i64 bb, .int .i64 cc, .string s, .string T] 41)) = w1 at *
  generalize w.heap.size = kb at *
  have o2' := (unhide HH).2.1.trans R2.ho (fun _ _ e => e)
  have H2 := (unhide HH).1.quiet R2.ho
  have A2 := (unhide HH).2.2.1.keep R2.ho (fun e => e)
  have OU : OwnV w2 u (rowP T) := R2.own
  have hnq : ∀ k, u.ownBlock = some k → ¬ q.S k := fun k hk => (unhide HH).1.new (R2.hb k hk)
  obtain ⟨ua, uc, hus⟩ := OU.shape
  have C := einsert_open H2 (unhide HH).2.2.2 s OU hnq (rowP_wf T) (rowP_len T)
  rw [hus] at C ⊢
  have C := hide C
  clear OU hus hnq R2
  have HO := hide o2'
  clear a0 a1 a4 a5 C1 o2' H2 HH
  have a0 := A2.cell 0
  have a1 := A2.cell 1
  have a4 := A2.cell 4
  have a5 := A2.cell 5
  simp at a0 a1 a4 a5
  clear A2
  go_wp2_with fail
  refine (unhide C).mono ?_
  rintro e w5 ⟨rfl, h⟩
  have HP := hide (DbQ.low (unhide HO) h)
  clear h C
  go_wp2_with fail
  go_ret
  exact ⟨rfl, unhide HP⟩
set_option maxRecDepth 100000 in
set_option maxHeartbeats 4000000 in
theorem jdid7_shut (H : ST q w x false S) (a bb cc : Int) (s T : ByteArray) (hT : T.size ≤ maxLen) : Calls Tryz.prog 40 #[.pointer (some ⟨x, 0, none⟩), opA 7 a bb cc s T] w fun e w' => e = .returned (.int .i64 2) ∧ ST q w' x false S ∧ Only q.S w w' := by
  have o1 : Only (fun _ => False) w (w.alloc (.cells #[.int .i64 7, .int .i64 a, .int .i64 bb, .int .i64 cc, .string s, .string T] 41)) := (Only.refl _ w).alloc _
  have A1 : Has (w.alloc (.cells #[.int .i64 7, .int .i64 a, .int .i64 bb, .int .i64 cc, .string s, .string T] 41)) w.heap.size #[.int .i64 7, .int .i64 a, .int .i64 bb, .int .i64 cc, .string s, .string T] 41 := Has.new w _ _
  have a0 := A1.cell 0
  have a1 := A1.cell 1
  have a4 := A1.cell 4
  have a5 := A1.cell 5
  simp at a0 a1 a4 a5
  have H1 := H.quiet o1
  have C1 := hide (eRowOf_any T hT (w.alloc (.cells #[.int .i64 7, .int .i64 a, .int .i64 bb, .int .i64 cc, .string s, .string T] 41)))
  have HH := hide (And.intro H1 (And.intro o1 (And.intro A1 trivial)))
  clear H H1 o1 A1
  unfold opA
  go_enter Tryz.func40, Tryz.ntmps40
  go_wp2_with fail
  refine (unhide C1).mono ?_
  rintro e w2 ⟨u, rfl, R2⟩
  generalize (w.alloc (.cells #[.int .i64 7, .int .i64 a, .int .i64 bb, .int .i64 cc, .string s, .string T] 41)) = w1 at *
  generalize w.heap.size = kb at *
  have o2' := (unhide HH).2.1.trans R2.ho (fun _ _ e => e)
  have H2 := (unhide HH).1.quiet R2.ho
  have A2 := (unhide HH).2.2.1.keep R2.ho (fun e => e)
  have OU : OwnV w2 u (rowP T) := R2.own
  have hnq : ∀ k, u.ownBlock = some k → ¬ q.S k := fun k hk => (unhide HH).1.new (R2.hb k hk)
  obtain ⟨ua, uc, hus⟩ := OU.shape
  have C := einsert_shut H2 s u
  rw [hus] at C ⊢
  have C := hide C
  clear OU hus hnq R2
  have HO := hide o2'
  clear a0 a1 a4 a5 C1 o2' H2 HH
  have a0 := A2.cell 0
  have a1 := A2.cell 1
  have a4 := A2.cell 4
  have a5 := A2.cell 5
  simp at a0 a1 a4 a5
  clear A2
  go_wp2_with fail
  refine (unhide C).mono ?_
  rintro e w5 ⟨rfl, h1, h2⟩
  have HP := hide (And.intro h1 (((unhide HO).mono (fun _ _ e => e.elim)).trans h2 (fun _ _ e => e)))
  clear h1 h2 C
  go_wp2_with fail
  go_ret
  exact ⟨rfl, unhide HP⟩
set_option maxRecDepth 100000 in
set_option maxHeartbeats 4000000 in
theorem jdid8_open (H : ST q w x true S) (L : Lay S TT) (a bb cc : Int) (s T : ByteArray) (hT : T.size ≤ maxLen) : Calls Tryz.prog 40 #[.pointer (some ⟨x, 0, none⟩), opA 8 a bb cc s T] w fun e w' => e = .returned (.int .i64 (dueD 8 a s T (dbOf TT)).2) ∧ DbQ q w x (dueD 8 a s T (dbOf TT)).1 w' := by
  have o1 : Only (fun _ => False) w (w.alloc (.cells #[.int .i64 8, .int .i64 a, .int .i64 bb, .int .i64 cc, .string s, .string T] 41)) := (Only.refl _ w).alloc _
  have A1 : Has (w.alloc (.cells #[.int .i64 8, .int .i64 a, .int .i64 bb, .int .i64 cc, .string s, .string T] 41)) w.heap.size #[.int .i64 8, .int .i64 a, .int .i64 bb, .int .i64 cc, .string s, .string T] 41 := Has.new w _ _
  have a0 := A1.cell 0
  have a1 := A1.cell 1
  have a4 := A1.cell 4
  have a5 := A1.cell 5
  simp at a0 a1 a4 a5
  have hd : dueD 8 a s T (dbOf TT) = updD (dbOf TT) s (rowP T) := by unfold dueD; rfl
  rw [hd]
  clear hd
  have H1 := H.quiet o1
  have C1 := hide (eRowOf_any T hT (w.alloc (.cells #[.int .i64 8, .int .i64 a, .int .i64 bb, .int .i64 cc, .string s, .string T] 41)))
  have HH := hide (And.intro H1 (And.intro o1 (And.intro A1 L)))
  clear H H1 o1 A1 L
  unfold opA
  go_enter Tryz.func40, Tryz.ntmps40
  go_wp2_with fail
  refine (unhide C1).mono ?_
  rintro e w2 ⟨u, rfl, R2⟩
  generalize (w.alloc (.cells #[.int .i64 8, .int .i64 a, .int .i64 bb, .int .i64 cc, .string s, .string T] 41)) = w1 at *
  generalize w.heap.size = kb at *
  have o2' := (unhide HH).2.1.trans R2.ho (fun _ _ e => e)
  have H2 := (unhide HH).1.quiet R2.ho
  have A2 := (unhide HH).2.2.1.keep R2.ho (fun e => e)
  have OU : OwnV w2 u (rowP T) := R2.own
  have hnq : ∀ k, u.ownBlock = some k → ¬ q.S k := fun k hk => (unhide HH).1.new (R2.hb k hk)
  obtain ⟨ua, uc, hus⟩ := OU.shape
  have C := eupdate_open H2 (unhide HH).2.2.2 s OU hnq (rowP_wf T) (rowP_len T)
  rw [hus] at C ⊢
  have C := hide C
  clear OU hus hnq R2
  have HO := hide o2'
  clear a0 a1 a4 a5 C1 o2' H2 HH
  have a0 := A2.cell 0
  have a1 := A2.cell 1
  have a4 := A2.cell 4
  have a5 := A2.cell 5
  simp at a0 a1 a4 a5
  clear A2
  go_wp2_with fail
  refine (unhide C).mono ?_
  rintro e w5 ⟨rfl, h⟩
  have HP := hide (DbQ.low (unhide HO) h)
  clear h C
  go_wp2_with fail
  go_ret
  exact ⟨rfl, unhide HP⟩
set_option maxRecDepth 100000 in
set_option maxHeartbeats 4000000 in
theorem jdid8_shut (H : ST q w x false S) (a bb cc : Int) (s T : ByteArray) (hT : T.size ≤ maxLen) : Calls Tryz.prog 40 #[.pointer (some ⟨x, 0, none⟩), opA 8 a bb cc s T] w fun e w' => e = .returned (.int .i64 2) ∧ ST q w' x false S ∧ Only q.S w w' := by
  have o1 : Only (fun _ => False) w (w.alloc (.cells #[.int .i64 8, .int .i64 a, .int .i64 bb, .int .i64 cc, .string s, .string T] 41)) := (Only.refl _ w).alloc _
  have A1 : Has (w.alloc (.cells #[.int .i64 8, .int .i64 a, .int .i64 bb, .int .i64 cc, .string s, .string T] 41)) w.heap.size #[.int .i64 8, .int .i64 a, .int .i64 bb, .int .i64 cc, .string s, .string T] 41 := Has.new w _ _
  have a0 := A1.cell 0
  have a1 := A1.cell 1
  have a4 := A1.cell 4
  have a5 := A1.cell 5
  simp at a0 a1 a4 a5
  have H1 := H.quiet o1
  have C1 := hide (eRowOf_any T hT (w.alloc (.cells #[.int .i64 8, .int .i64 a, .int .i64 bb, .int .i64 cc, .string s, .string T] 41)))
  have HH := hide (And.intro H1 (And.intro o1 (And.intro A1 trivial)))
  clear H H1 o1 A1
  unfold opA
  go_enter Tryz.func40, Tryz.ntmps40
  go_wp2_with fail
  refine (unhide C1).mono ?_
  rintro e w2 ⟨u, rfl, R2⟩
  generalize (w.alloc (.cells #[.int .i64 8, .int .i64 a, .int .i64 bb, .int .i64 cc, .string s, .string T] 41)) = w1 at *
  generalize w.heap.size = kb at *
  have o2' := (unhide HH).2.1.trans R2.ho (fun _ _ e => e)
  have H2 := (unhide HH).1.quiet R2.ho
  have A2 := (unhide HH).2.2.1.keep R2.ho (fun e => e)
  have OU : OwnV w2 u (rowP T) := R2.own
  have hnq : ∀ k, u.ownBlock = some k → ¬ q.S k := fun k hk => (unhide HH).1.new (R2.hb k hk)
  obtain ⟨ua, uc, hus⟩ := OU.shape
  have C := eupdate_shut H2 s u
  rw [hus] at C ⊢
  have C := hide C
  clear OU hus hnq R2
  have HO := hide o2'
  clear a0 a1 a4 a5 C1 o2' H2 HH
  have a0 := A2.cell 0
  have a1 := A2.cell 1
  have a4 := A2.cell 4
  have a5 := A2.cell 5
  simp at a0 a1 a4 a5
  clear A2
  go_wp2_with fail
  refine (unhide C).mono ?_
  rintro e w5 ⟨rfl, h1, h2⟩
  have HP := hide (And.intro h1 (((unhide HO).mono (fun _ _ e => e.elim)).trans h2 (fun _ _ e => e)))
  clear h1 h2 C
  go_wp2_with fail
  go_ret
  exact ⟨rfl, unhide HP⟩
set_option maxRecDepth 100000 in
set_option maxHeartbeats 4000000 in
theorem jdid9_open (H : ST q w x true S) (L : Lay S TT) (a bb cc : Int) (s T : ByteArray) (hT : T.size ≤ maxLen) : Calls Tryz.prog 40 #[.pointer (some ⟨x, 0, none⟩), opA 9 a bb cc s T] w fun e w' => e = .returned (.int .i64 (dueD 9 a s T (dbOf TT)).2) ∧ DbQ q w x (dueD 9 a s T (dbOf TT)).1 w' := by
  have o1 : Only (fun _ => False) w (w.alloc (.cells #[.int .i64 9, .int .i64 a, .int .i64 bb, .int .i64 cc, .string s, .string T] 41)) := (Only.refl _ w).alloc _
  have A1 : Has (w.alloc (.cells #[.int .i64 9, .int .i64 a, .int .i64 bb, .int .i64 cc, .string s, .string T] 41)) w.heap.size #[.int .i64 9, .int .i64 a, .int .i64 bb, .int .i64 cc, .string s, .string T] 41 := Has.new w _ _
  have a0 := A1.cell 0
  have a1 := A1.cell 1
  have a4 := A1.cell 4
  have a5 := A1.cell 5
  simp at a0 a1 a4 a5
  have hd : dueD 9 a s T (dbOf TT) = delD (dbOf TT) s (fstP T) := by unfold dueD; rfl
  rw [hd]
  clear hd
  have H1 := H.quiet o1
  have hw := fstP_wf T
  obtain ⟨key, hkey⟩ : ∃ key, fstP T = key := ⟨_, rfl⟩
  have C1 := eFirst_any T hT (w.alloc (.cells #[.int .i64 9, .int .i64 a, .int .i64 bb, .int .i64 cc, .string s, .string T] 41))
  rw [hkey] at C1 hw
  rw [hkey]
  have C1 := hide C1
  have HW := hide hw
  clear hw hkey
  have HH := hide (And.intro H1 (And.intro o1 (And.intro A1 L)))
  clear H H1 o1 A1 L
  unfold opA
  go_enter Tryz.func40, Tryz.ntmps40
  go_wp2_with fail
  refine (unhide C1).mono ?_
  rintro e w2 ⟨rfl, o2⟩
  generalize (w.alloc (.cells #[.int .i64 9, .int .i64 a, .int .i64 bb, .int .i64 cc, .string s, .string T] 41)) = w1 at *
  generalize w.heap.size = kb at *
  have o2' := (unhide HH).2.1.trans o2 (fun _ _ e => e)
  have H2 := (unhide HH).1.quiet o2
  have A2 := (unhide HH).2.2.1.keep o2 (fun e => e)
  unfold vlA
  have o3 : Only (fun _ => False) w2 (w2.alloc (.cells #[.bool key.str, .int .i64 key.i, .string key.s] 72)) := (Only.refl _ w2).alloc _
  have A3 : Has (w2.alloc (.cells #[.bool key.str, .int .i64 key.i, .string key.s] 72)) w2.heap.size #[.bool key.str, .int .i64 key.i, .string key.s] 72 := Has.new w2 _ _
  have k0 := A3.cell 0
  have k1 := A3.cell 1
  have k2 := A3.cell 2
  simp at k0 k1 k2
  have H3 := H2.quiet o3
  have A2 := A2.keep o3 (fun e => e)
  have C := edelete_open H3 (unhide HH).2.2.2 s key (unhide HW)
  unfold vlA at C
  have C := hide C
  have HO := hide (o2'.trans o3 (fun _ _ e => e))
  clear a0 a1 a4 a5 C1 o2' o2 o3 H2 H3 A3 HH HW
  have a0 := A2.cell 0
  have a1 := A2.cell 1
  have a4 := A2.cell 4
  have a5 := A2.cell 5
  simp at a0 a1 a4 a5
  clear A2
  go_wp2_with fail
  refine (unhide C).mono ?_
  rintro e w5 ⟨rfl, h⟩
  have HP := hide (DbQ.low (unhide HO) h)
  clear h C
  go_wp2_with fail
  go_ret
  exact ⟨rfl, unhide HP⟩
set_option maxRecDepth 100000 in
set_option maxHeartbeats 4000000 in
theorem jdid9_shut (H : ST q w x false S) (a bb cc : Int) (s T : ByteArray) (hT : T.size ≤ maxLen) : Calls Tryz.prog 40 #[.pointer (some ⟨x, 0, none⟩), opA 9 a bb cc s T] w fun e w' => e = .returned (.int .i64 2) ∧ ST q w' x false S ∧ Only q.S w w' := by
  have o1 : Only (fun _ => False) w (w.alloc (.cells #[.int .i64 9, .int .i64 a, .int .i64 bb, .int .i64 cc, .string s, .string T] 41)) := (Only.refl _ w).alloc _
  have A1 : Has (w.alloc (.cells #[.int .i64 9, .int .i64 a, .int .i64 bb, .int .i64 cc, .string s, .string T] 41)) w.heap.size #[.int .i64 9, .int .i64 a, .int .i64 bb, .int .i64 cc, .string s, .string T] 41 := Has.new w _ _
  have a0 := A1.cell 0
  have a1 := A1.cell 1
  have a4 := A1.cell 4
  have a5 := A1.cell 5
  simp at a0 a1 a4 a5
  have H1 := H.quiet o1
  have hw := fstP_wf T
  obtain ⟨key, hkey⟩ : ∃ key, fstP T = key := ⟨_, rfl⟩
  have C1 := eFirst_any T hT (w.alloc (.cells #[.int .i64 9, .int .i64 a, .int .i64 bb, .int .i64 cc, .string s, .string T] 41))
  rw [hkey] at C1 hw
  have C1 := hide C1
  have HW := hide hw
  clear hw hkey
  have HH := hide (And.intro H1 (And.intro o1 (And.intro A1 trivial)))
  clear H H1 o1 A1
  unfold opA
  go_enter Tryz.func40, Tryz.ntmps40
  go_wp2_with fail
  refine (unhide C1).mono ?_
  rintro e w2 ⟨rfl, o2⟩
  generalize (w.alloc (.cells #[.int .i64 9, .int .i64 a, .int .i64 bb, .int .i64 cc, .string s, .string T] 41)) = w1 at *
  generalize w.heap.size = kb at *
  have o2' := (unhide HH).2.1.trans o2 (fun _ _ e => e)
  have H2 := (unhide HH).1.quiet o2
  have A2 := (unhide HH).2.2.1.keep o2 (fun e => e)
  unfold vlA
  have o3 : Only (fun _ => False) w2 (w2.alloc (.cells #[.bool key.str, .int .i64 key.i, .string key.s] 72)) := (Only.refl _ w2).alloc _
  have A3 : Has (w2.alloc (.cells #[.bool key.str, .int .i64 key.i, .string key.s] 72)) w2.heap.size #[.bool key.str, .int .i64 key.i, .string key.s] 72 := Has.new w2 _ _
  have k0 := A3.cell 0
  have k1 := A3.cell 1
  have k2 := A3.cell 2
  simp at k0 k1 k2
  have H3 := H2.quiet o3
  have A2 := A2.keep o3 (fun e => e)
  have C := edelete_shut H3 s key
  unfold vlA at C
  have C := hide C
  have HO := hide (o2'.trans o3 (fun _ _ e => e))
  clear a0 a1 a4 a5 C1 o2' o2 o3 H2 H3 A3 HH HW
  have a0 := A2.cell 0
  have a1 := A2.cell 1
  have a4 := A2.cell 4
  have a5 := A2.cell 5
  simp at a0 a1 a4 a5
  clear A2
  go_wp2_with fail
  refine (unhide C).mono ?_
  rintro e w5 ⟨rfl, h1, h2⟩
  have HP := hide (And.intro h1 (((unhide HO).mono (fun _ _ e => e.elim)).trans h2 (fun _ _ e => e)))
  clear h1 h2 C
  go_wp2_with fail
  go_ret
  exact ⟨rfl, unhide HP⟩
end
end Go.Proofs.Qxb6500413aGreat
