/-
  OWN WORK. THE TABLE MODEL's STORE: Commit, Clone, After, Crashed. (tools/gen_ms2.py writes it.)
-/
import Derived.Test.Qxb6500413aGreatMS1
namespace Go.Proofs.Qxb6500413aGreat
open Go.RowKit Go.PlainAid
set_option linter.unusedSimpArgs false
set_option linter.unusedVariables false

/-- Three databases in one block, each of its own. -/
theorem YAt.mk3 {w : World} {n lo : Nat} {S T U : Db} {op : Bool} {a b c : Value} {A B C : Nat → Prop} (h : Has w n (stoC a b c (.slice none 0 0) op) 93) (hA : MV w a S A) (hB : MV w b T B) (hC : MV w c U C)
    (la : ∀ k, A k → lo ≤ k ∧ k < w.heap.size ∧ k ≠ n) (lb : ∀ k, B k → lo ≤ k ∧ k < w.heap.size ∧ k ≠ n) (lc : ∀ k, C k → lo ≤ k ∧ k < w.heap.size ∧ k ≠ n) (ab : ∀ k, A k → ¬ B k) (ac : ∀ k, A k → ¬ C k) (ln : lo ≤ n) : ∃ H, YAt w n S T U none op H ∧ ∀ k, H k → lo ≤ k := by
  refine ⟨fun k => k = n ∨ A k ∨ B k ∨ C k, ⟨⟨a, b, c, .slice none 0 0, fun k => B k ∨ C k, A, h, hA, hB.mono (fun k hk => .inl hk), hC.mono (fun k hk => .inr hk), rfl, fun k hk => ⟨fun e => ?_, .inr (.inl hk), (la k hk).2.2⟩, fun k hk => ?_⟩, .inl rfl, fun k hk => ?_⟩, fun k hk => ?_⟩
  · rcases e with e | e
    · exact ab k hk e
    · exact ac k hk e
  · rcases hk with hk | hk
    · exact ⟨.inr (.inr (.inl hk)), (lb k hk).2.2⟩
    · exact ⟨.inr (.inr (.inr hk)), (lc k hk).2.2⟩
  · rcases hk with rfl | hk | hk | hk
    · exact h.lt
    · exact (la k hk).2.1
    · exact (lb k hk).2.1
    · exact (lc k hk).2.1
  · rcases hk with rfl | hk | hk | hk
    · exact ln
    · exact (la k hk).1
    · exact (lb k hk).1
    · exact (lc k hk).1
theorem yhist_own {w5 : World} {g cap : Nat} {v : Value} (h1 : 1 ≤ cap) (h2 : cap ≤ maxLen) (h : Has w5 g (#[v] ++ Builtin.zeroCells #[.slice none 0 0] (cap - 1)) 90) : w5.ownsRow 0 90 1 (.slice (some ⟨g, 0, none⟩) 1 cap) 1 [v] := by
  refine ⟨rfl, .inr ⟨g, cap, _, rfl, Nat.zero_le _, h, h1, h2, ?_, ?_⟩⟩
  · rw [Array.size_append, size_zeroCells]
    show 1 + (cap - 1) * 1 = cap * 1
    omega
  · rw [Array.toList_append, List.take_append_of_le_length (by show 1 ≤ 1; omega)]
    rfl
section
variable {w w' : World} {m : Nat} {S T U : Db} {hist : Option Db} {op : Bool} {H : Nat → Prop}
set_option maxRecDepth 100000 in
set_option maxHeartbeats 4000000 in
theorem yclone_any (h : YAt w m S T U none op H) : Calls Tryz.prog 21 #[.pointer (some ⟨m, 0, none⟩)] w fun e w' => ∃ n H', e = .returned (.pointer (some ⟨n, 0, none⟩)) ∧ YAt w' n S T U none op H' ∧ (∀ k, H' k → w.heap.size ≤ k) ∧ Only (fun _ => False) w w' := by
  have N0 : Has (w.alloc (.cells #[.slice none 0 0, .slice none 0 0, .slice none 0 0, .slice none 0 0, .bool false] 93)) w.heap.size (stoC (.slice none 0 0) (.slice none 0 0) (.slice none 0 0) (.slice none 0 0) false) 93 := Has.new _ _ _
  have oo : Only (fun _ => False) w (w.alloc (.cells #[.slice none 0 0, .slice none 0 0, .slice none 0 0, .slice none 0 0, .bool false] 93)) := (Only.refl _ w).alloc _
  have h' := h.quiet oo
  have hml := h.nem
  have w0s : (w.alloc (.cells #[.slice none 0 0, .slice none 0 0, .slice none 0 0, .slice none 0 0, .bool false] 93)).heap.size = w.heap.size + 1 := by simp
  obtain ⟨a, b, c, hv, O, P, h1, h2, h3, h4, h5, h6, h7⟩ := h'.ex
  have ehv : hv = .slice none 0 0 := h5
  subst ehv
  have c0 : (w.alloc (.cells #[.slice none 0 0, .slice none 0 0, .slice none 0 0, .slice none 0 0, .bool false] 93)).cell? ⟨m, 0, none⟩ = some a := by rw [h1.cell]; rfl
  have c1 : (w.alloc (.cells #[.slice none 0 0, .slice none 0 0, .slice none 0 0, .slice none 0 0, .bool false] 93)).cell? ⟨m, 1, none⟩ = some b := by rw [h1.cell]; rfl
  have c2 : (w.alloc (.cells #[.slice none 0 0, .slice none 0 0, .slice none 0 0, .slice none 0 0, .bool false] 93)).cell? ⟨m, 2, none⟩ = some c := by rw [h1.cell]; rfl
  have ltP : ∀ k, P k → k < w.heap.size := fun k hk => h.inn k (h6 k hk).2.1
  have ltO : ∀ k, O k → k < w.heap.size := fun k hk => h.inn k (h7 k hk).1
  go_enter Tryz.func21, Tryz.ntmps21
  go_upto_region 2 with fail
  generalize w.alloc (.cells #[.slice none 0 0, .slice none 0 0, .slice none 0 0, .slice none 0 0, .bool false] 93) = w0 at *
  generalize hn : w.heap.size = n at *
  have O0 : Only (fun x => x = n) w0 w0 := Only.refl _ _
  have C1 := hide (vclone_any (dk := m) (o := 0) (cell_keep c0 O0 (fun e => by have e' : m = n := e; omega)) (h2.keep O0 (fun x hx e => by have := ltP x hx; omega)))
  go_wp2_with fail
  refine (unhide C1).mono ?_
  rintro e a1 ⟨g1, n1, P1, rfl, V1, hP1, o1⟩
  have k1 := N0.keep o1 (fun h => h)
  have q1 := k1.cell 0
  have z1 := k1.free 0
  simp [stoC] at q1
  have m1 := k1.setCell 0 (.slice (some ⟨g1, 0, none⟩) n1 n1)
  have p1 : Only (fun x => x = n) a1 (a1.setCell ⟨n, 0, none⟩ (.slice (some ⟨g1, 0, none⟩) n1 n1)) := only1 _ _
  have r1 := O0.size
  have t1 := o1.size
  have u1 := p1.size
  have Q1 : Only (fun x => x = n) w0 (a1.setCell ⟨n, 0, none⟩ (.slice (some ⟨g1, 0, none⟩) n1 n1)) := (O0.trans o1 (fun _ _ h => h.elim)).trans p1 (fun _ _ h => h)
  have V1 := V1.keep p1 (fun x hx e => by have := (hP1 x hx).1; omega)
  go_upto_region 3 with fail
  generalize a1.setCell ⟨n, 0, none⟩ (.slice (some ⟨g1, 0, none⟩) n1 n1) = b1 at *
  clear C1 q1 z1 k1
  have m1 : Has b1 n (stoC (.slice (some ⟨g1, 0, none⟩) n1 n1) (.slice none 0 0) (.slice none 0 0) (.slice none 0 0) false) 93 := m1
  have C2 := hide (vclone_any (dk := m) (o := 1) (cell_keep c1 Q1 (fun e => by have e' : m = n := e; omega)) (h3.keep Q1 (fun x hx e => by have := ltO x hx; omega)))
  go_wp2_with fail
  refine (unhide C2).mono ?_
  rintro e a2 ⟨g2, n2, P2, rfl, V2, hP2, o2⟩
  have k2 := m1.keep o2 (fun h => h)
  have q2 := k2.cell 1
  have z2 := k2.free 1
  simp [stoC] at q2
  have m2 := k2.setCell 1 (.slice (some ⟨g2, 0, none⟩) n2 n2)
  have p2 : Only (fun x => x = n) a2 (a2.setCell ⟨n, 1, none⟩ (.slice (some ⟨g2, 0, none⟩) n2 n2)) := only1 _ _
  have r2 := Q1.size
  have t2 := o2.size
  have u2 := p2.size
  have Q2 : Only (fun x => x = n) w0 (a2.setCell ⟨n, 1, none⟩ (.slice (some ⟨g2, 0, none⟩) n2 n2)) := (Q1.trans o2 (fun _ _ h => h.elim)).trans p2 (fun _ _ h => h)
  have V2 := V2.keep p2 (fun x hx e => by have := (hP2 x hx).1; omega)
  have V1 := (V1.keep o2 (fun _ _ h => h)).keep p2 (fun x hx e => by have := (hP1 x hx).1; omega)
  go_upto_region 4 with fail
  generalize a2.setCell ⟨n, 1, none⟩ (.slice (some ⟨g2, 0, none⟩) n2 n2) = b2 at *
  clear C2 q2 z2 k2
  have m2 : Has b2 n (stoC (.slice (some ⟨g1, 0, none⟩) n1 n1) (.slice (some ⟨g2, 0, none⟩) n2 n2) (.slice none 0 0) (.slice none 0 0) false) 93 := m2
  have C3 := hide (vclone_any (dk := m) (o := 2) (cell_keep c2 Q2 (fun e => by have e' : m = n := e; omega)) (h4.keep Q2 (fun x hx e => by have := ltO x hx; omega)))
  go_wp2_with fail
  refine (unhide C3).mono ?_
  rintro e a3 ⟨g3, n3, P3, rfl, V3, hP3, o3⟩
  have k3 := m2.keep o3 (fun h => h)
  have q3 := k3.cell 2
  have z3 := k3.free 2
  simp [stoC] at q3
  have m3 := k3.setCell 2 (.slice (some ⟨g3, 0, none⟩) n3 n3)
  have p3 : Only (fun x => x = n) a3 (a3.setCell ⟨n, 2, none⟩ (.slice (some ⟨g3, 0, none⟩) n3 n3)) := only1 _ _
  have r3 := Q2.size
  have t3 := o3.size
  have u3 := p3.size
  have Q3 : Only (fun x => x = n) w0 (a3.setCell ⟨n, 2, none⟩ (.slice (some ⟨g3, 0, none⟩) n3 n3)) := (Q2.trans o3 (fun _ _ h => h.elim)).trans p3 (fun _ _ h => h)
  have V3 := V3.keep p3 (fun x hx e => by have := (hP3 x hx).1; omega)
  have V1 := (V1.keep o3 (fun _ _ h => h)).keep p3 (fun x hx e => by have := (hP1 x hx).1; omega)
  have V2 := (V2.keep o3 (fun _ _ h => h)).keep p3 (fun x hx e => by have := (hP2 x hx).1; omega)
  go_upto_region 5 with fail
  generalize a3.setCell ⟨n, 2, none⟩ (.slice (some ⟨g3, 0, none⟩) n3 n3) = b3 at *
  clear C3 q3 z3 k3
  have m3 : Has b3 n (stoC (.slice (some ⟨g1, 0, none⟩) n1 n1) (.slice (some ⟨g2, 0, none⟩) n2 n2) (.slice (some ⟨g3, 0, none⟩) n3 n3) (.slice none 0 0) false) 93 := m3
  have qf := h1.keep Q3 (fun e => by omega)
  have c4 : b3.cell? ⟨m, 4, none⟩ = some (.bool op) := by rw [qf.cell]; rfl
  have c5 : b3.cell? ⟨m, 3, none⟩ = some (.slice none 0 0) := by rw [qf.cell]; rfl
  have d4 : b3.cell? ⟨n, 4, none⟩ = some (.bool false) := by rw [m3.cell]; rfl
  have f4 := m3.free 4
  have m4 := m3.setCell 4 (.bool op)
  have p4 : Only (fun x => x = n) b3 (b3.setCell ⟨n, 4, none⟩ (.bool op)) := only1 _ _
  have u4 := p4.size
  have V1 := V1.keep p4 (fun x hx e => by have := (hP1 x hx).1; omega)
  have V2 := V2.keep p4 (fun x hx e => by have := (hP2 x hx).1; omega)
  have V3 := V3.keep p4 (fun x hx e => by have := (hP3 x hx).1; omega)
  have L1 : ∀ k, P1 k → n ≤ k ∧ k < (b3.setCell ⟨n, 4, none⟩ (.bool op)).heap.size ∧ k ≠ n := fun k hk => by have := hP1 k hk; omega
  have L2 : ∀ k, P2 k → n ≤ k ∧ k < (b3.setCell ⟨n, 4, none⟩ (.bool op)).heap.size ∧ k ≠ n := fun k hk => by have := hP2 k hk; omega
  have L3 : ∀ k, P3 k → n ≤ k ∧ k < (b3.setCell ⟨n, 4, none⟩ (.bool op)).heap.size ∧ k ≠ n := fun k hk => by have := hP3 k hk; omega
  have HP := hide (YAt.mk3 m4 V1 V2 V3 L1 L2 L3 (fun k x y => by have := hP1 k x; have := hP2 k y; omega) (fun k x y => by have := hP1 k x; have := hP3 k y; omega) (Nat.le_refl n))
  have HO := hide ((oo.trans (Q3.trans p4 (fun _ _ h => h)) (fun k hk e => by omega)))
  have f5 : (b3.setCell ⟨n, 4, none⟩ (.bool op)).cell? ⟨m, 3, none⟩ = some (.slice none 0 0) := cell_keep c5 p4 (fun e => by have e' : m = n := e; omega)
  clear h h' h1 h2 h3 h4 h5 h6 h7 V1 V2 V3 m1 m2 m3 m4 N0 qf L1 L2 L3 hP1 hP2 hP3 c0 c1 c2
  go_upto_region 6 with fail
  generalize b3.setCell ⟨n, 4, none⟩ (.bool op) = w7 at *
  go_upto_region 7 with fail
  go_loopw [4] (fun iv wr => iv = .int .i64 0 ∧ wr = w7) (fun _ _ => 0)
  case atStart => exact ⟨rfl, rfl⟩
  case round =>
    obtain ⟨rfl, rfl⟩ := hrel
    go_wp2_with fail
    go_ret
    obtain ⟨H', Z, hH⟩ := unhide HP
    exact ⟨n, H', rfl, Z, fun k hk => (by rw [hn]; exact hH k hk), unhide HO⟩
set_option maxRecDepth 100000 in
set_option maxHeartbeats 4000000 in
theorem yafter_none (h : YAt w m S T U none op H) : Calls Tryz.prog 90 #[.pointer (some ⟨m, 0, none⟩), .int .i64 0] w fun e w' => ∃ n H', e = .returned (.pointer (some ⟨n, 0, none⟩)) ∧ YAt w' n U U U none false H' ∧ (∀ k, H' k → w.heap.size ≤ k) ∧ Only (fun _ => False) w w' := by
  have N0 : Has (w.alloc (.cells #[.slice none 0 0, .slice none 0 0, .slice none 0 0, .slice none 0 0, .bool false] 93)) w.heap.size (stoC (.slice none 0 0) (.slice none 0 0) (.slice none 0 0) (.slice none 0 0) false) 93 := Has.new _ _ _
  have oo : Only (fun _ => False) w (w.alloc (.cells #[.slice none 0 0, .slice none 0 0, .slice none 0 0, .slice none 0 0, .bool false] 93)) := (Only.refl _ w).alloc _
  have h' := h.quiet oo
  have hml := h.nem
  have w0s : (w.alloc (.cells #[.slice none 0 0, .slice none 0 0, .slice none 0 0, .slice none 0 0, .bool false] 93)).heap.size = w.heap.size + 1 := by simp
  obtain ⟨a, b, c, hv, O, P, h1, h2, h3, h4, h5, h6, h7⟩ := h'.ex
  have ehv : hv = .slice none 0 0 := h5
  subst ehv
  have c2 : (w.alloc (.cells #[.slice none 0 0, .slice none 0 0, .slice none 0 0, .slice none 0 0, .bool false] 93)).cell? ⟨m, 2, none⟩ = some c := by rw [h1.cell]; rfl
  have c3 : (w.alloc (.cells #[.slice none 0 0, .slice none 0 0, .slice none 0 0, .slice none 0 0, .bool false] 93)).cell? ⟨m, 3, none⟩ = some (.slice none 0 0) := by rw [h1.cell]; rfl
  have ltO : ∀ k, O k → k < w.heap.size := fun k hk => h.inn k (h7 k hk).1
  have c3w := c3
  rw [World.cell?_of_block (oo.block m hml (fun e => e))] at c3w
  go_enter Tryz.func90, Tryz.ntmps90
  go_upto_region 7 with fail
  generalize w.alloc (.cells #[.slice none 0 0, .slice none 0 0, .slice none 0 0, .slice none 0 0, .bool false] 93) = w0 at *
  generalize hn : w.heap.size = n at *
  have O0 : Only (fun x => x = n) w0 w0 := Only.refl _ _
  have C1 := hide (vclone_any (dk := m) (o := 2) (cell_keep c2 O0 (fun e => by have e' : m = n := e; omega)) (h4.keep O0 (fun x hx e => by have := ltO x hx; omega)))
  go_wp2_with fail
  refine (unhide C1).mono ?_
  rintro e a1 ⟨g1, n1, P1, rfl, V1, hP1, o1⟩
  have k1 := N0.keep o1 (fun h => h)
  have q1 := k1.cell 0
  have z1 := k1.free 0
  simp [stoC] at q1
  have m1 := k1.setCell 0 (.slice (some ⟨g1, 0, none⟩) n1 n1)
  have p1 : Only (fun x => x = n) a1 (a1.setCell ⟨n, 0, none⟩ (.slice (some ⟨g1, 0, none⟩) n1 n1)) := only1 _ _
  have r1 := O0.size
  have t1 := o1.size
  have u1 := p1.size
  have Q1 : Only (fun x => x = n) w0 (a1.setCell ⟨n, 0, none⟩ (.slice (some ⟨g1, 0, none⟩) n1 n1)) := (O0.trans o1 (fun _ _ h => h.elim)).trans p1 (fun _ _ h => h)
  have V1 := V1.keep p1 (fun x hx e => by have := (hP1 x hx).1; omega)
  go_upto_region 8 with fail
  generalize a1.setCell ⟨n, 0, none⟩ (.slice (some ⟨g1, 0, none⟩) n1 n1) = b1 at *
  clear C1 q1 z1 k1
  have m1 : Has b1 n (stoC (.slice (some ⟨g1, 0, none⟩) n1 n1) (.slice none 0 0) (.slice none 0 0) (.slice none 0 0) false) 93 := m1
  have C2 := hide (vclone_any (dk := m) (o := 2) (cell_keep c2 Q1 (fun e => by have e' : m = n := e; omega)) (h4.keep Q1 (fun x hx e => by have := ltO x hx; omega)))
  go_wp2_with fail
  refine (unhide C2).mono ?_
  rintro e a2 ⟨g2, n2, P2, rfl, V2, hP2, o2⟩
  have k2 := m1.keep o2 (fun h => h)
  have q2 := k2.cell 1
  have z2 := k2.free 1
  simp [stoC] at q2
  have m2 := k2.setCell 1 (.slice (some ⟨g2, 0, none⟩) n2 n2)
  have p2 : Only (fun x => x = n) a2 (a2.setCell ⟨n, 1, none⟩ (.slice (some ⟨g2, 0, none⟩) n2 n2)) := only1 _ _
  have r2 := Q1.size
  have t2 := o2.size
  have u2 := p2.size
  have Q2 : Only (fun x => x = n) w0 (a2.setCell ⟨n, 1, none⟩ (.slice (some ⟨g2, 0, none⟩) n2 n2)) := (Q1.trans o2 (fun _ _ h => h.elim)).trans p2 (fun _ _ h => h)
  have V2 := V2.keep p2 (fun x hx e => by have := (hP2 x hx).1; omega)
  have V1 := (V1.keep o2 (fun _ _ h => h)).keep p2 (fun x hx e => by have := (hP1 x hx).1; omega)
  go_upto_region 9 with fail
  generalize a2.setCell ⟨n, 1, none⟩ (.slice (some ⟨g2, 0, none⟩) n2 n2) = b2 at *
  clear C2 q2 z2 k2
  have m2 : Has b2 n (stoC (.slice (some ⟨g1, 0, none⟩) n1 n1) (.slice (some ⟨g2, 0, none⟩) n2 n2) (.slice none 0 0) (.slice none 0 0) false) 93 := m2
  have C3 := hide (vclone_any (dk := m) (o := 2) (cell_keep c2 Q2 (fun e => by have e' : m = n := e; omega)) (h4.keep Q2 (fun x hx e => by have := ltO x hx; omega)))
  go_wp2_with fail
  refine (unhide C3).mono ?_
  rintro e a3 ⟨g3, n3, P3, rfl, V3, hP3, o3⟩
  have k3 := m2.keep o3 (fun h => h)
  have q3 := k3.cell 2
  have z3 := k3.free 2
  simp [stoC] at q3
  have m3 := k3.setCell 2 (.slice (some ⟨g3, 0, none⟩) n3 n3)
  have p3 : Only (fun x => x = n) a3 (a3.setCell ⟨n, 2, none⟩ (.slice (some ⟨g3, 0, none⟩) n3 n3)) := only1 _ _
  have r3 := Q2.size
  have t3 := o3.size
  have u3 := p3.size
  have Q3 : Only (fun x => x = n) w0 (a3.setCell ⟨n, 2, none⟩ (.slice (some ⟨g3, 0, none⟩) n3 n3)) := (Q2.trans o3 (fun _ _ h => h.elim)).trans p3 (fun _ _ h => h)
  have V3 := V3.keep p3 (fun x hx e => by have := (hP3 x hx).1; omega)
  have V1 := (V1.keep o3 (fun _ _ h => h)).keep p3 (fun x hx e => by have := (hP1 x hx).1; omega)
  have V2 := (V2.keep o3 (fun _ _ h => h)).keep p3 (fun x hx e => by have := (hP2 x hx).1; omega)
  go_upto_region 10 with fail
  generalize a3.setCell ⟨n, 2, none⟩ (.slice (some ⟨g3, 0, none⟩) n3 n3) = b3 at *
  clear C3 q3 z3 k3
  have m3 : Has b3 n (stoC (.slice (some ⟨g1, 0, none⟩) n1 n1) (.slice (some ⟨g2, 0, none⟩) n2 n2) (.slice (some ⟨g3, 0, none⟩) n3 n3) (.slice none 0 0) false) 93 := m3
  have L1 : ∀ k, P1 k → n ≤ k ∧ k < b3.heap.size ∧ k ≠ n := fun k hk => by have := hP1 k hk; omega
  have L2 : ∀ k, P2 k → n ≤ k ∧ k < b3.heap.size ∧ k ≠ n := fun k hk => by have := hP2 k hk; omega
  have L3 : ∀ k, P3 k → n ≤ k ∧ k < b3.heap.size ∧ k ≠ n := fun k hk => by have := hP3 k hk; omega
  have HP := hide (YAt.mk3 m3 V1 V2 V3 L1 L2 L3 (fun k x y => by have := hP1 k x; have := hP2 k y; omega) (fun k x y => by have := hP1 k x; have := hP3 k y; omega) (Nat.le_refl n))
  have HO := hide (oo.trans Q3 (fun k hk e => by omega))
  clear h h' h1 h2 h3 h4 h6 h7 V1 V2 V3 m1 m2 m3 N0 L1 L2 L3 hP1 hP2 hP3
  go_wp2_with fail
  go_ret
  obtain ⟨H', Z, hH⟩ := unhide HP
  exact ⟨n, H', rfl, Z, fun k hk => (by rw [hn]; exact hH k hk), unhide HO⟩
set_option maxRecDepth 100000 in
set_option maxHeartbeats 4000000 in
theorem yafter_some {X : Db} (h : YAt w m S T U (some X) op H) : Calls Tryz.prog 90 #[.pointer (some ⟨m, 0, none⟩), .int .i64 1] w fun e w' => ∃ n H', e = .returned (.pointer (some ⟨n, 0, none⟩)) ∧ YAt w' n X X X none false H' ∧ (∀ k, H' k → w.heap.size ≤ k) ∧ Only (fun _ => False) w w' := by
  have N0 : Has (w.alloc (.cells #[.slice none 0 0, .slice none 0 0, .slice none 0 0, .slice none 0 0, .bool false] 93)) w.heap.size (stoC (.slice none 0 0) (.slice none 0 0) (.slice none 0 0) (.slice none 0 0) false) 93 := Has.new _ _ _
  have oo : Only (fun _ => False) w (w.alloc (.cells #[.slice none 0 0, .slice none 0 0, .slice none 0 0, .slice none 0 0, .bool false] 93)) := (Only.refl _ w).alloc _
  have h' := h.quiet oo
  have hml := h.nem
  have w0s : (w.alloc (.cells #[.slice none 0 0, .slice none 0 0, .slice none 0 0, .slice none 0 0, .bool false] 93)).heap.size = w.heap.size + 1 := by simp
  obtain ⟨a, b, c, hv, O, P, h1, h2, h3, h4, h5, h6, h7⟩ := h'.ex
  obtain ⟨vx, q1, q2, q3⟩ := h5
  obtain ⟨g, cap, ehv, cg⟩ : ∃ g cap, hv = .slice (some ⟨g, 0, none⟩) 1 cap ∧ (w.alloc (.cells #[.slice none 0 0, .slice none 0 0, .slice none 0 0, .slice none 0 0, .bool false] 93)).cell? ⟨g, 0, none⟩ = some vx := by
    rcases q1.2 with ⟨_, hn⟩ | ⟨g, cap, cur, e, _⟩
    · cases hn
    · refine ⟨g, cap, e, ?_⟩
      have := World.ownsRow.cells q1 (g := g) (by rw [e]; rfl) 0 vx rfl
      rw [addr_add] at this
      exact this
  have gw : g < w.heap.size := h.inn g (h7 g (q3 g (by rw [ehv]; rfl))).1
  subst ehv
  have c3 : (w.alloc (.cells #[.slice none 0 0, .slice none 0 0, .slice none 0 0, .slice none 0 0, .bool false] 93)).cell? ⟨m, 3, none⟩ = some (.slice (some ⟨g, 0, none⟩) 1 cap) := by rw [h1.cell]; rfl
  have ltO : ∀ k, O k → k < w.heap.size := fun k hk => h.inn k (h7 k hk).1
  have c3w := c3
  rw [World.cell?_of_block (oo.block m hml (fun e => e))] at c3w
  go_enter Tryz.func90, Tryz.ntmps90
  go_upto_region 7 with fail
  generalize w.alloc (.cells #[.slice none 0 0, .slice none 0 0, .slice none 0 0, .slice none 0 0, .bool false] 93) = w0 at *
  generalize hn : w.heap.size = n at *
  have O0 : Only (fun x => x = n) w0 w0 := Only.refl _ _
  have C1 := hide (vclone_any (dk := g) (o := 0) (cell_keep cg O0 (fun e => by have e' : g = n := e; omega)) (q2.keep O0 (fun x hx e => by have := ltO x hx; omega)))
  go_wp2_with fail
  refine (unhide C1).mono ?_
  rintro e a1 ⟨g1, n1, P1, rfl, V1, hP1, o1⟩
  have k1 := N0.keep o1 (fun h => h)
  have q1 := k1.cell 0
  have z1 := k1.free 0
  simp [stoC] at q1
  have m1 := k1.setCell 0 (.slice (some ⟨g1, 0, none⟩) n1 n1)
  have p1 : Only (fun x => x = n) a1 (a1.setCell ⟨n, 0, none⟩ (.slice (some ⟨g1, 0, none⟩) n1 n1)) := only1 _ _
  have r1 := O0.size
  have t1 := o1.size
  have u1 := p1.size
  have Q1 : Only (fun x => x = n) w0 (a1.setCell ⟨n, 0, none⟩ (.slice (some ⟨g1, 0, none⟩) n1 n1)) := (O0.trans o1 (fun _ _ h => h.elim)).trans p1 (fun _ _ h => h)
  have V1 := V1.keep p1 (fun x hx e => by have := (hP1 x hx).1; omega)
  go_upto_region 8 with fail
  generalize a1.setCell ⟨n, 0, none⟩ (.slice (some ⟨g1, 0, none⟩) n1 n1) = b1 at *
  clear C1 q1 z1 k1
  have m1 : Has b1 n (stoC (.slice (some ⟨g1, 0, none⟩) n1 n1) (.slice none 0 0) (.slice none 0 0) (.slice none 0 0) false) 93 := m1
  have C2 := hide (vclone_any (dk := g) (o := 0) (cell_keep cg Q1 (fun e => by have e' : g = n := e; omega)) (q2.keep Q1 (fun x hx e => by have := ltO x hx; omega)))
  go_wp2_with fail
  refine (unhide C2).mono ?_
  rintro e a2 ⟨g2, n2, P2, rfl, V2, hP2, o2⟩
  have k2 := m1.keep o2 (fun h => h)
  have q2 := k2.cell 1
  have z2 := k2.free 1
  simp [stoC] at q2
  have m2 := k2.setCell 1 (.slice (some ⟨g2, 0, none⟩) n2 n2)
  have p2 : Only (fun x => x = n) a2 (a2.setCell ⟨n, 1, none⟩ (.slice (some ⟨g2, 0, none⟩) n2 n2)) := only1 _ _
  have r2 := Q1.size
  have t2 := o2.size
  have u2 := p2.size
  have Q2 : Only (fun x => x = n) w0 (a2.setCell ⟨n, 1, none⟩ (.slice (some ⟨g2, 0, none⟩) n2 n2)) := (Q1.trans o2 (fun _ _ h => h.elim)).trans p2 (fun _ _ h => h)
  have V2 := V2.keep p2 (fun x hx e => by have := (hP2 x hx).1; omega)
  have V1 := (V1.keep o2 (fun _ _ h => h)).keep p2 (fun x hx e => by have := (hP1 x hx).1; omega)
  go_upto_region 9 with fail
  generalize a2.setCell ⟨n, 1, none⟩ (.slice (some ⟨g2, 0, none⟩) n2 n2) = b2 at *
  clear C2 q2 z2 k2
  have m2 : Has b2 n (stoC (.slice (some ⟨g1, 0, none⟩) n1 n1) (.slice (some ⟨g2, 0, none⟩) n2 n2) (.slice none 0 0) (.slice none 0 0) false) 93 := m2
  have C3 := hide (vclone_any (dk := g) (o := 0) (cell_keep cg Q2 (fun e => by have e' : g = n := e; omega)) (q2.keep Q2 (fun x hx e => by have := ltO x hx; omega)))
  go_wp2_with fail
  refine (unhide C3).mono ?_
  rintro e a3 ⟨g3, n3, P3, rfl, V3, hP3, o3⟩
  have k3 := m2.keep o3 (fun h => h)
  have q3 := k3.cell 2
  have z3 := k3.free 2
  simp [stoC] at q3
  have m3 := k3.setCell 2 (.slice (some ⟨g3, 0, none⟩) n3 n3)
  have p3 : Only (fun x => x = n) a3 (a3.setCell ⟨n, 2, none⟩ (.slice (some ⟨g3, 0, none⟩) n3 n3)) := only1 _ _
  have r3 := Q2.size
  have t3 := o3.size
  have u3 := p3.size
  have Q3 : Only (fun x => x = n) w0 (a3.setCell ⟨n, 2, none⟩ (.slice (some ⟨g3, 0, none⟩) n3 n3)) := (Q2.trans o3 (fun _ _ h => h.elim)).trans p3 (fun _ _ h => h)
  have V3 := V3.keep p3 (fun x hx e => by have := (hP3 x hx).1; omega)
  have V1 := (V1.keep o3 (fun _ _ h => h)).keep p3 (fun x hx e => by have := (hP1 x hx).1; omega)
  have V2 := (V2.keep o3 (fun _ _ h => h)).keep p3 (fun x hx e => by have := (hP2 x hx).1; omega)
  go_upto_region 10 with fail
  generalize a3.setCell ⟨n, 2, none⟩ (.slice (some ⟨g3, 0, none⟩) n3 n3) = b3 at *
  clear C3 q3 z3 k3
  have m3 : Has b3 n (stoC (.slice (some ⟨g1, 0, none⟩) n1 n1) (.slice (some ⟨g2, 0, none⟩) n2 n2) (.slice (some ⟨g3, 0, none⟩) n3 n3) (.slice none 0 0) false) 93 := m3
  have L1 : ∀ k, P1 k → n ≤ k ∧ k < b3.heap.size ∧ k ≠ n := fun k hk => by have := hP1 k hk; omega
  have L2 : ∀ k, P2 k → n ≤ k ∧ k < b3.heap.size ∧ k ≠ n := fun k hk => by have := hP2 k hk; omega
  have L3 : ∀ k, P3 k → n ≤ k ∧ k < b3.heap.size ∧ k ≠ n := fun k hk => by have := hP3 k hk; omega
  have HP := hide (YAt.mk3 m3 V1 V2 V3 L1 L2 L3 (fun k x y => by have := hP1 k x; have := hP2 k y; omega) (fun k x y => by have := hP1 k x; have := hP3 k y; omega) (Nat.le_refl n))
  have HO := hide (oo.trans Q3 (fun k hk e => by omega))
  clear h h' h1 h2 h3 h4 h6 h7 V1 V2 V3 m1 m2 m3 N0 L1 L2 L3 hP1 hP2 hP3
  go_wp2_with fail
  go_ret
  obtain ⟨H', Z, hH⟩ := unhide HP
  exact ⟨n, H', rfl, Z, fun k hk => (by rw [hn]; exact hH k hk), unhide HO⟩
def lastY (hist : Option Db) (U : Db) : Db := hist.getD U
set_option maxRecDepth 100000 in
theorem ycrashed_any (h : YAt w m S T U hist op H) : Calls Tryz.prog 28 #[.pointer (some ⟨m, 0, none⟩)] w fun e w' => ∃ n H', e = .returned (.pointer (some ⟨n, 0, none⟩)) ∧ YAt w' n (lastY hist U) (lastY hist U) (lastY hist U) none false H' ∧ (∀ k, H' k → w.heap.size ≤ k) ∧ Only (fun _ => False) w w' := by
  obtain ⟨a, b, c, hv, O, P, h1, h2, h3, h4, h5, _⟩ := h.ex
  have c5 : w.cell? ⟨m, 3, none⟩ = some hv := by rw [h1.cell]; rfl
  obtain ⟨x, n, cap, ehv, hn⟩ := h5.shape
  subst ehv
  cases hist with
  | none =>
    have hn0 : n = 0 := hn
    clear hn
    subst hn0
    have C1 := hide (yafter_none h)
    clear h1 h2 h3 h4 h5
    go_enter Tryz.func28, Tryz.ntmps28
    go_wp2_with fail
    refine (unhide C1).mono ?_
    rintro e w1 ⟨n, H', rfl, Z, hH, o⟩
    have FF := hide (And.intro Z (And.intro hH o))
    clear Z hH o
    go_wp2_with fail
    go_ret
    exact ⟨n, H', rfl, unhide FF⟩
  | some X =>
    have hn0 : n = 1 := hn
    clear hn
    subst hn0
    have C1 := hide (yafter_some h)
    clear h1 h2 h3 h4 h5
    go_enter Tryz.func28, Tryz.ntmps28
    go_wp2_with fail
    refine (unhide C1).mono ?_
    rintro e w1 ⟨n, H', rfl, Z, hH, o⟩
    have FF := hide (And.intro Z (And.intro hH o))
    clear Z hH o
    go_wp2_with fail
    go_ret
    exact ⟨n, H', rfl, unhide FF⟩
set_option maxRecDepth 100000 in
set_option maxHeartbeats 4000000 in
theorem ycommit_open (h : YAt w m S T U none true H) : Calls Tryz.prog 64 #[.pointer (some ⟨m, 0, none⟩)] w fun e w' => e = .returned (.int .i64 0) ∧ YAt w' m S S U (some S) false (Ext H w w') ∧ Only (fun k => k = m) w w' := by
  obtain ⟨c4, _⟩ := h.cop
  obtain ⟨a, b, c, hv, O, P, h1, h2, h3, h4, h5, h6, h7⟩ := h.ex
  have ehv : hv = .slice none 0 0 := h5
  subst ehv
  have ltP : ∀ k, P k → k < w.heap.size := fun k hk => h.inn k (h6 k hk).2.1
  have ltO : ∀ k, O k → k < w.heap.size := fun k hk => h.inn k (h7 k hk).1
  have C1 := hide (vclone_any (dk := m) (o := 0) (by rw [h1.cell]; rfl) h2)
  have hml := h1.lt
  obtain ⟨ba, bn, bc, hbs⟩ := h3.shape
  go_enter Tryz.func64, Tryz.ntmps64
  go_wp2_with fail
  refine (unhide C1).mono ?_
  rintro e w1 ⟨g1, n1, P1, rfl, V1, hP1, o1⟩
  have k1 := h1.keep o1 (fun h => h)
  have q1 := k1.cell 1
  have z1 := k1.free 1
  simp [stoC] at q1
  rw [hbs] at q1
  have k2 := k1.setCell 1 (.slice (some ⟨g1, 0, none⟩) n1 n1)
  have p1 : Only (fun x => x = m) w1 (w1.setCell ⟨m, 1, none⟩ (.slice (some ⟨g1, 0, none⟩) n1 n1)) := only1 _ _
  clear C1 c4
  go_upto_region 4 with fail
  generalize w1.setCell ⟨m, 1, none⟩ (.slice (some ⟨g1, 0, none⟩) n1 n1) = w2 at *
  have k2 : Has w2 m (stoC a (.slice (some ⟨g1, 0, none⟩) n1 n1) c (.slice none 0 0) true) 93 := k2
  have s1 := o1.size
  have s2 := p1.size
  have A2 : MV w2.drew a S P := ((h2.keep o1 (fun _ _ h => h)).keep p1 (fun k hk e => (h6 k hk).2.2 e)).keep (Only.refl (fun _ => False) w2).drew (fun _ _ h => h)
  have C2 : Calls Tryz.prog 53 #[.pointer (some ⟨m, 0, none⟩)] w2.drew fun e w3 => ∃ (g2 n2 : Nat), e = .returned (.agg #[.slice (some ⟨g2, 0, none⟩) n2 n2]) ∧ w3.cell? ⟨m, 3, none⟩ = some (.slice none 0 0) ∧ w3.frozen? ⟨m, 3, none⟩ = false ∧ m < w3.heap.size ∧
      Hid (∃ P2, MV w3 (.slice (some ⟨g2, 0, none⟩) n2 n2) S P2 ∧ (∀ k, P2 k → w2.heap.size ≤ k ∧ k < w3.heap.size) ∧ Only (fun _ => False) w2 w3 ∧ Has w3 m (stoC a (.slice (some ⟨g1, 0, none⟩) n1 n1) c (.slice none 0 0) true) 93) := by
    refine (vclone_any (dk := m) (o := 0) (by rw [k2.drew.cell]; rfl) A2).mono ?_
    rintro e w3 ⟨g2, n2, P2, rfl, V2, hP2, o3⟩
    have k3 := k2.drew.keep o3 (fun h => h)
    exact ⟨g2, n2, rfl, by rw [k3.cell]; rfl, k3.free 3, k3.lt, hide ⟨P2, V2, hP2, ((Only.refl (fun _ => False) w2).drew).trans o3 (fun _ _ h => h), k3⟩⟩
  have C2 := hide C2
  have d3 : w2.cell? ⟨m, 3, none⟩ = some (.slice none 0 0) := by rw [k2.cell]; rfl
  have f3 := k2.free 3
  have ZZ := hide (And.intro V1 (And.intro o1 p1))
  clear k2 k1 V1 o1 p1 A2 q1 z1
  go_region_with (first | (go_at_call 53; refine (unhide C2).mono ?_; rintro e w3 ⟨g2, n2, rfl, z3, f4, ml3, HF⟩))
  all_goals
    have hc1 : 1 ≤ (Question.appendCap 1 0 90).cut (w3.tape w3.drawn (Question.appendCap 1 0 90)) := grownCap_ge w3 1 0 90
    have hc2 : (Question.appendCap 1 0 90).cut (w3.tape w3.drawn (Question.appendCap 1 0 90)) ≤ maxLen := grownCap_le_maxLen w3 1 0 90 (by unfold maxLen; omega)
    generalize (Question.appendCap 1 0 90).cut (w3.tape w3.drawn (Question.appendCap 1 0 90)) = cap at *
    obtain ⟨V1, o1, p1⟩ := unhide ZZ
    obtain ⟨P2, V2, hP2, o3, k3⟩ := unhide HF
    have k4 := k3.setCell 3 (.slice (some ⟨w3.heap.size + 1, 0, none⟩) 1 cap)
    have k5 := ((k4.alloc (.cells #[.slice (some ⟨g2, 0, none⟩) n2 n2] 90)).alloc (.cells (#[.slice (some ⟨g2, 0, none⟩) n2 n2] ++ Builtin.zeroCells #[.slice none 0 0] (cap - 1)) 90)).drew
    have hZ : Has (((w3.setCell ⟨m, 3, none⟩ (.slice (some ⟨w3.heap.size + 1, 0, none⟩) 1 cap)).alloc (.cells #[.slice (some ⟨g2, 0, none⟩) n2 n2] 90)).alloc (.cells (#[.slice (some ⟨g2, 0, none⟩) n2 n2] ++ Builtin.zeroCells #[.slice none 0 0] (cap - 1)) 90)).drew (w3.heap.size + 1) (#[.slice (some ⟨g2, 0, none⟩) n2 n2] ++ Builtin.zeroCells #[.slice none 0 0] (cap - 1)) 90 := (Has.new' _ _ _ _ (by simp)).drew
    have o4 : Only (fun k => k = m) w3 (((w3.setCell ⟨m, 3, none⟩ (.slice (some ⟨w3.heap.size + 1, 0, none⟩) 1 cap)).alloc (.cells #[.slice (some ⟨g2, 0, none⟩) n2 n2] 90)).alloc (.cells (#[.slice (some ⟨g2, 0, none⟩) n2 n2] ++ Builtin.zeroCells #[.slice none 0 0] (cap - 1)) 90)).drew := ((((only1 _ _).alloc _).alloc _).drew)
    have hown := yhist_own hc1 hc2 hZ
    generalize (((w3.setCell ⟨m, 3, none⟩ (.slice (some ⟨w3.heap.size + 1, 0, none⟩) 1 cap)).alloc (.cells #[.slice (some ⟨g2, 0, none⟩) n2 n2] 90)).alloc (.cells (#[.slice (some ⟨g2, 0, none⟩) n2 n2] ++ Builtin.zeroCells #[.slice none 0 0] (cap - 1)) 90)).drew = w4 at *
    have c5 : w4.cell? ⟨m, 4, none⟩ = some (.bool true) := by rw [k5.cell]; rfl
    have f5 := k5.free 4
    have k6 := k5.setCell 4 (.bool false)
    have o5 : Only (fun k => k = m) w4 (w4.setCell ⟨m, 4, none⟩ (.bool false)) := only1 _ _
    have HP := hide (show YAt (w4.setCell ⟨m, 4, none⟩ (.bool false)) m S S U (some S) false (Ext H w (w4.setCell ⟨m, 4, none⟩ (.bool false))) ∧ Only (fun k => k = m) w (w4.setCell ⟨m, 4, none⟩ (.bool false)) by
      have s3 := o3.size
      have s4 := o4.size
      have s5 := o5.size
      have o45 := o4.trans o5 (fun _ _ h => h)
      have o35 := (o3.mono (T := fun k => k = m) (fun _ _ h => h.elim)).trans o45 (fun _ _ h => h)
      have oA : Only (fun k => k = m) w (w4.setCell ⟨m, 4, none⟩ (.bool false)) := ((o1.mono (fun _ _ h => h.elim)).trans p1 (fun _ _ h => h)).trans o35 (fun _ _ h => h)
      have X1 := (V1.keep p1 (fun k hk e => by have := hP1 k hk; omega)).keep o35 (fun k hk e => by have := hP1 k hk; omega)
      have X2 := V2.keep o45 (fun k hk e => by have := hP2 k hk; omega)
      have own5 := ownsRow_keep hown o5 (fun k hk e => by simp [Value.ownBlock] at hk; omega)
      have hl := ownsRow_lt own5 (w3.heap.size + 1) rfl
      refine ⟨⟨⟨a, .slice (some ⟨g1, 0, none⟩) n1 n1, c, .slice (some ⟨w3.heap.size + 1, 0, none⟩) 1 cap, fun k => P1 k ∨ O k ∨ P2 k ∨ k = w3.heap.size + 1, P, k6, h2.keep oA (fun k hk e => (h6 k hk).2.2 e), X1.mono (fun k hk => .inl hk), (h4.keep oA (fun k hk e => (h7 k hk).2 e)).mono (fun k hk => .inr (.inl hk)), ⟨_, own5, X2.mono (fun k hk => .inr (.inr (.inl hk))), fun k hk => ?_⟩, fun k hk => ⟨fun e => ?_, .inl (h6 k hk).2.1, (h6 k hk).2.2⟩, fun k hk => ?_⟩, .inl h.hm, Ext.in h.inn oA.size⟩, oA⟩
      · simp [Value.ownBlock] at hk
        exact .inr (.inr (.inr hk.symm))
      · have hkw := ltP k hk
        rcases e with e | e | e | e
        · have := hP1 k e; omega
        · exact (h6 k hk).1 e
        · have := hP2 k e; omega
        · omega
      · rcases hk with e | e | e | e
        · have := hP1 k e
          exact ⟨.inr ⟨by omega, by omega⟩, by omega⟩
        · exact ⟨.inl (h7 k e).1, (h7 k e).2⟩
        · have := hP2 k e
          exact ⟨.inr ⟨by omega, by omega⟩, by omega⟩
        · subst e
          exact ⟨.inr ⟨by omega, hl⟩, by omega⟩)
    clear k3 k4 k5 k6 hZ o4 o5 V1 V2 o1 p1 o3 hown h h1 h2 h3 h4 h5 h6 h7 HF ZZ C2 d3 f3 z3 f4 hP1 hP2 hc1 hc2 ltP ltO
    go_wp2_with fail
    go_ret
    exact ⟨rfl, unhide HP⟩
end
end Go.Proofs.Qxb6500413aGreat
