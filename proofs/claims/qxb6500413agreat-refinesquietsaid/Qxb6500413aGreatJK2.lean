/-
  OWN WORK. THE TABLE LAW: KeptStep of the changing kinds (written by tools/gen_jk2.py).
-/
import Derived.Test.Qxb6500413aGreatJK1
namespace Go.Proofs.Qxb6500413aGreat
open Go.RowKit Go.PlainAid
set_option linter.unusedSimpArgs false
set_option linter.unusedVariables false

section
variable {lo : Nat} {w w' wB : World} {q : Gnd} {x g : Nat} {op : Bool} {S C : Vu} {T TC : List (Tb × Hd)} {cv mv : Value} {cl ml : List GE}
theorem TsP.low {y : Ending} (o1 : Only (fun _ => False) w wB) (h : TsP lo wB q x g TC cv cl y w') : TsP lo w q x g TC cv cl y w' := by
  obtain ⟨hy, q', op', S', C', T', TC', cv', mv', cl', ml', h1, h2, h3, h4⟩ := h
  have := o1.size
  exact ⟨hy, q', op', S', C', T', TC', cv', mv', cl', ml', h1, h2.imp id (fun ⟨rs, com, wa, wb, e1, e2, e3⟩ => ⟨rs, com, wa, wb, e1, by omega, e3⟩), fun k hk => (h3 k hk).imp id (fun c => by omega), (o1.mono (fun _ _ e => e.elim)).trans h4 (fun _ _ e => e)⟩
theorem TJ.ghS (J : TJ lo w q x g op S C T TC cv mv cl ml) (ho : Only q.S w w') : GH w' g cv cl mv ml op := J.gh.keep ho (fun h => J.sg.1 (Gnd.S_A h)) (fun k hk h => (J.sc k hk).1 (Gnd.S_A h)) (fun k hk h => (J.sm k hk).1 (Gnd.S_A h))
theorem TJ.ghD (J : TJ lo w q x g op S C T TC cv mv cl ml) (ho : Only q.D w w') : GH w' g cv cl mv ml op := J.gh.keep ho (fun h => J.sg.1 (Gnd.D_A h)) (fun k hk h => (J.sc k hk).1 (Gnd.D_A h)) (fun k hk h => (J.sm k hk).1 (Gnd.D_A h))
theorem Only.FD {w w' : World} (h : Only (fun _ => False) w w') : Only q.D w w' := h.mono (fun _ _ e => e.elim)
theorem Only.S_D {w w' : World} (h : Only q.S w w') : Only q.D w w' := h.mono (fun k _ h => by rcases h with h | h; exact .inr (.inl h); exact .inr (.inr h))
set_option maxHeartbeats 1000000 in
theorem jks4_open (J : TJ lo w q x g true S C T TC cv mv cl ml) (a bb cc : Int) (s t : ByteArray) (ht : t.size ≤ maxLen) : Calls Tryz.prog 15 #[.pointer (some ⟨x, 0, none⟩), .pointer (some ⟨g, 0, none⟩), opA 4 a bb cc s t] w (TsP lo w q x g TC cv cl) := by
  have oB : Only (fun _ => False) w (w.alloc (.cells (opB 4 a bb cc s t) 41)) := (Only.refl _ w).alloc _
  have AB : Has (w.alloc (.cells (opB 4 a bb cc s t) 41)) w.heap.size (opB 4 a bb cc s t) 41 := Has.new w _ _
  have J1 := J.quiet oB
  have nB : ¬ q.A w.heap.size := fun h => by have := J.st.fv.Alt _ h; omega
  refine (jkeptChange 4 a bb cc s t (by omega) (by omega) (z := (dueD 4 a s t (dbOf T)).2) (RR := fun w2 => DbQ q (w.alloc (.cells (opB 4 a bb cc s t) 41)) x (dueD 4 a s t (dbOf T)).1 w2) (QQ := fun w3 => TsP lo w q x g TC cv cl (.returned (.bool true)) w3) (jdid4_open J1.st J1.la a bb cc s t ht) (fun w2 r2 => AB.keep r2.2 (fun h => nB (Gnd.S_A h))) ?_).mono ?_
  · intro w2 r2
    refine (jdueOp_any (J1.ghS r2.2) J.gc J.la.dok 4 a bb cc s t ht (by omega) (by omega)).mono ?_
    rintro e w3 D
    have hD := D
    obtain ⟨_, _, he, _⟩ := D
    exact ⟨he, TsP.low oB (TsP.change J1 r2 hD)⟩
  · rintro e w3 ⟨rfl, h⟩
    exact h
set_option maxHeartbeats 1000000 in
theorem jks4_shut (J : TJ lo w q x g false S C T TC cv mv cl ml) (a bb cc : Int) (s t : ByteArray) (ht : t.size ≤ maxLen) : Calls Tryz.prog 15 #[.pointer (some ⟨x, 0, none⟩), .pointer (some ⟨g, 0, none⟩), opA 4 a bb cc s t] w (TsP lo w q x g TC cv cl) := by
  have oB : Only (fun _ => False) w (w.alloc (.cells (opB 4 a bb cc s t) 41)) := (Only.refl _ w).alloc _
  have AB : Has (w.alloc (.cells (opB 4 a bb cc s t) 41)) w.heap.size (opB 4 a bb cc s t) 41 := Has.new w _ _
  have J1 := J.quiet oB
  have nB : ¬ q.A w.heap.size := fun h => by have := J.st.fv.Alt _ h; omega
  refine (jkeptChange 4 a bb cc s t (by omega) (by omega) (z := 2) (RR := fun w2 => ST q w2 x false S ∧ Only q.S (w.alloc (.cells (opB 4 a bb cc s t) 41)) w2) (QQ := fun w3 => TsP lo w q x g TC cv cl (.returned (.bool true)) w3) (jdid4_shut J1.st a bb cc s t ht) (fun w2 r2 => AB.keep r2.2 (fun h => nB (Gnd.S_A h))) ?_).mono ?_
  · intro w2 r2
    refine (jdueSh_any (J1.ghS r2.2) 4 a bb cc s t (by omega)).mono ?_
    rintro e w3 ⟨rfl, o3⟩
    exact ⟨rfl, TsP.low oB (TsP.stay J1 (r2.1.quiet o3) (r2.2.trans (o3.mono (fun _ _ e => e.elim)) (fun _ _ e => e)))⟩
  · rintro e w3 ⟨rfl, h⟩
    exact h
set_option maxHeartbeats 1000000 in
theorem jks5_open (J : TJ lo w q x g true S C T TC cv mv cl ml) (a bb cc : Int) (s t : ByteArray) (ht : t.size ≤ maxLen) : Calls Tryz.prog 15 #[.pointer (some ⟨x, 0, none⟩), .pointer (some ⟨g, 0, none⟩), opA 5 a bb cc s t] w (TsP lo w q x g TC cv cl) := by
  have oB : Only (fun _ => False) w (w.alloc (.cells (opB 5 a bb cc s t) 41)) := (Only.refl _ w).alloc _
  have AB : Has (w.alloc (.cells (opB 5 a bb cc s t) 41)) w.heap.size (opB 5 a bb cc s t) 41 := Has.new w _ _
  have J1 := J.quiet oB
  have nB : ¬ q.A w.heap.size := fun h => by have := J.st.fv.Alt _ h; omega
  refine (jkeptChange 5 a bb cc s t (by omega) (by omega) (z := (dueD 5 a s t (dbOf T)).2) (RR := fun w2 => DbQ q (w.alloc (.cells (opB 5 a bb cc s t) 41)) x (dueD 5 a s t (dbOf T)).1 w2) (QQ := fun w3 => TsP lo w q x g TC cv cl (.returned (.bool true)) w3) (jdid5_open J1.st J1.la a bb cc s t ht) (fun w2 r2 => AB.keep r2.2 (fun h => nB (Gnd.S_A h))) ?_).mono ?_
  · intro w2 r2
    refine (jdueOp_any (J1.ghS r2.2) J.gc J.la.dok 5 a bb cc s t ht (by omega) (by omega)).mono ?_
    rintro e w3 D
    have hD := D
    obtain ⟨_, _, he, _⟩ := D
    exact ⟨he, TsP.low oB (TsP.change J1 r2 hD)⟩
  · rintro e w3 ⟨rfl, h⟩
    exact h
set_option maxHeartbeats 1000000 in
theorem jks5_shut (J : TJ lo w q x g false S C T TC cv mv cl ml) (a bb cc : Int) (s t : ByteArray) (ht : t.size ≤ maxLen) : Calls Tryz.prog 15 #[.pointer (some ⟨x, 0, none⟩), .pointer (some ⟨g, 0, none⟩), opA 5 a bb cc s t] w (TsP lo w q x g TC cv cl) := by
  have oB : Only (fun _ => False) w (w.alloc (.cells (opB 5 a bb cc s t) 41)) := (Only.refl _ w).alloc _
  have AB : Has (w.alloc (.cells (opB 5 a bb cc s t) 41)) w.heap.size (opB 5 a bb cc s t) 41 := Has.new w _ _
  have J1 := J.quiet oB
  have nB : ¬ q.A w.heap.size := fun h => by have := J.st.fv.Alt _ h; omega
  refine (jkeptChange 5 a bb cc s t (by omega) (by omega) (z := 2) (RR := fun w2 => ST q w2 x false S ∧ Only q.S (w.alloc (.cells (opB 5 a bb cc s t) 41)) w2) (QQ := fun w3 => TsP lo w q x g TC cv cl (.returned (.bool true)) w3) (jdid5_shut J1.st a bb cc s t ht) (fun w2 r2 => AB.keep r2.2 (fun h => nB (Gnd.S_A h))) ?_).mono ?_
  · intro w2 r2
    refine (jdueSh_any (J1.ghS r2.2) 5 a bb cc s t (by omega)).mono ?_
    rintro e w3 ⟨rfl, o3⟩
    exact ⟨rfl, TsP.low oB (TsP.stay J1 (r2.1.quiet o3) (r2.2.trans (o3.mono (fun _ _ e => e.elim)) (fun _ _ e => e)))⟩
  · rintro e w3 ⟨rfl, h⟩
    exact h
set_option maxHeartbeats 1000000 in
theorem jks6_open (J : TJ lo w q x g true S C T TC cv mv cl ml) (a bb cc : Int) (s t : ByteArray) (ht : t.size ≤ maxLen) : Calls Tryz.prog 15 #[.pointer (some ⟨x, 0, none⟩), .pointer (some ⟨g, 0, none⟩), opA 6 a bb cc s t] w (TsP lo w q x g TC cv cl) := by
  have oB : Only (fun _ => False) w (w.alloc (.cells (opB 6 a bb cc s t) 41)) := (Only.refl _ w).alloc _
  have AB : Has (w.alloc (.cells (opB 6 a bb cc s t) 41)) w.heap.size (opB 6 a bb cc s t) 41 := Has.new w _ _
  have J1 := J.quiet oB
  have nB : ¬ q.A w.heap.size := fun h => by have := J.st.fv.Alt _ h; omega
  refine (jkeptChange 6 a bb cc s t (by omega) (by omega) (z := (dueD 6 a s t (dbOf T)).2) (RR := fun w2 => DbQ q (w.alloc (.cells (opB 6 a bb cc s t) 41)) x (dueD 6 a s t (dbOf T)).1 w2) (QQ := fun w3 => TsP lo w q x g TC cv cl (.returned (.bool true)) w3) (jdid6_open J1.st J1.la a bb cc s t ht) (fun w2 r2 => AB.keep r2.2 (fun h => nB (Gnd.S_A h))) ?_).mono ?_
  · intro w2 r2
    refine (jdueOp_any (J1.ghS r2.2) J.gc J.la.dok 6 a bb cc s t ht (by omega) (by omega)).mono ?_
    rintro e w3 D
    have hD := D
    obtain ⟨_, _, he, _⟩ := D
    exact ⟨he, TsP.low oB (TsP.change J1 r2 hD)⟩
  · rintro e w3 ⟨rfl, h⟩
    exact h
set_option maxHeartbeats 1000000 in
theorem jks6_shut (J : TJ lo w q x g false S C T TC cv mv cl ml) (a bb cc : Int) (s t : ByteArray) (ht : t.size ≤ maxLen) : Calls Tryz.prog 15 #[.pointer (some ⟨x, 0, none⟩), .pointer (some ⟨g, 0, none⟩), opA 6 a bb cc s t] w (TsP lo w q x g TC cv cl) := by
  have oB : Only (fun _ => False) w (w.alloc (.cells (opB 6 a bb cc s t) 41)) := (Only.refl _ w).alloc _
  have AB : Has (w.alloc (.cells (opB 6 a bb cc s t) 41)) w.heap.size (opB 6 a bb cc s t) 41 := Has.new w _ _
  have J1 := J.quiet oB
  have nB : ¬ q.A w.heap.size := fun h => by have := J.st.fv.Alt _ h; omega
  refine (jkeptChange 6 a bb cc s t (by omega) (by omega) (z := 2) (RR := fun w2 => ST q w2 x false S ∧ Only q.S (w.alloc (.cells (opB 6 a bb cc s t) 41)) w2) (QQ := fun w3 => TsP lo w q x g TC cv cl (.returned (.bool true)) w3) (jdid6_shut J1.st a bb cc s t ht) (fun w2 r2 => AB.keep r2.2 (fun h => nB (Gnd.S_A h))) ?_).mono ?_
  · intro w2 r2
    refine (jdueSh_any (J1.ghS r2.2) 6 a bb cc s t (by omega)).mono ?_
    rintro e w3 ⟨rfl, o3⟩
    exact ⟨rfl, TsP.low oB (TsP.stay J1 (r2.1.quiet o3) (r2.2.trans (o3.mono (fun _ _ e => e.elim)) (fun _ _ e => e)))⟩
  · rintro e w3 ⟨rfl, h⟩
    exact h
set_option maxHeartbeats 1000000 in
theorem jks7_open (J : TJ lo w q x g true S C T TC cv mv cl ml) (a bb cc : Int) (s t : ByteArray) (ht : t.size ≤ maxLen) : Calls Tryz.prog 15 #[.pointer (some ⟨x, 0, none⟩), .pointer (some ⟨g, 0, none⟩), opA 7 a bb cc s t] w (TsP lo w q x g TC cv cl) := by
  have oB : Only (fun _ => False) w (w.alloc (.cells (opB 7 a bb cc s t) 41)) := (Only.refl _ w).alloc _
  have AB : Has (w.alloc (.cells (opB 7 a bb cc s t) 41)) w.heap.size (opB 7 a bb cc s t) 41 := Has.new w _ _
  have J1 := J.quiet oB
  have nB : ¬ q.A w.heap.size := fun h => by have := J.st.fv.Alt _ h; omega
  refine (jkeptChange 7 a bb cc s t (by omega) (by omega) (z := (dueD 7 a s t (dbOf T)).2) (RR := fun w2 => DbQ q (w.alloc (.cells (opB 7 a bb cc s t) 41)) x (dueD 7 a s t (dbOf T)).1 w2) (QQ := fun w3 => TsP lo w q x g TC cv cl (.returned (.bool true)) w3) (jdid7_open J1.st J1.la a bb cc s t ht) (fun w2 r2 => AB.keep r2.2 (fun h => nB (Gnd.S_A h))) ?_).mono ?_
  · intro w2 r2
    refine (jdueOp_any (J1.ghS r2.2) J.gc J.la.dok 7 a bb cc s t ht (by omega) (by omega)).mono ?_
    rintro e w3 D
    have hD := D
    obtain ⟨_, _, he, _⟩ := D
    exact ⟨he, TsP.low oB (TsP.change J1 r2 hD)⟩
  · rintro e w3 ⟨rfl, h⟩
    exact h
set_option maxHeartbeats 1000000 in
theorem jks7_shut (J : TJ lo w q x g false S C T TC cv mv cl ml) (a bb cc : Int) (s t : ByteArray) (ht : t.size ≤ maxLen) : Calls Tryz.prog 15 #[.pointer (some ⟨x, 0, none⟩), .pointer (some ⟨g, 0, none⟩), opA 7 a bb cc s t] w (TsP lo w q x g TC cv cl) := by
  have oB : Only (fun _ => False) w (w.alloc (.cells (opB 7 a bb cc s t) 41)) := (Only.refl _ w).alloc _
  have AB : Has (w.alloc (.cells (opB 7 a bb cc s t) 41)) w.heap.size (opB 7 a bb cc s t) 41 := Has.new w _ _
  have J1 := J.quiet oB
  have nB : ¬ q.A w.heap.size := fun h => by have := J.st.fv.Alt _ h; omega
  refine (jkeptChange 7 a bb cc s t (by omega) (by omega) (z := 2) (RR := fun w2 => ST q w2 x false S ∧ Only q.S (w.alloc (.cells (opB 7 a bb cc s t) 41)) w2) (QQ := fun w3 => TsP lo w q x g TC cv cl (.returned (.bool true)) w3) (jdid7_shut J1.st a bb cc s t ht) (fun w2 r2 => AB.keep r2.2 (fun h => nB (Gnd.S_A h))) ?_).mono ?_
  · intro w2 r2
    refine (jdueSh_any (J1.ghS r2.2) 7 a bb cc s t (by omega)).mono ?_
    rintro e w3 ⟨rfl, o3⟩
    exact ⟨rfl, TsP.low oB (TsP.stay J1 (r2.1.quiet o3) (r2.2.trans (o3.mono (fun _ _ e => e.elim)) (fun _ _ e => e)))⟩
  · rintro e w3 ⟨rfl, h⟩
    exact h
set_option maxHeartbeats 1000000 in
theorem jks8_open (J : TJ lo w q x g true S C T TC cv mv cl ml) (a bb cc : Int) (s t : ByteArray) (ht : t.size ≤ maxLen) : Calls Tryz.prog 15 #[.pointer (some ⟨x, 0, none⟩), .pointer (some ⟨g, 0, none⟩), opA 8 a bb cc s t] w (TsP lo w q x g TC cv cl) := by
  have oB : Only (fun _ => False) w (w.alloc (.cells (opB 8 a bb cc s t) 41)) := (Only.refl _ w).alloc _
  have AB : Has (w.alloc (.cells (opB 8 a bb cc s t) 41)) w.heap.size (opB 8 a bb cc s t) 41 := Has.new w _ _
  have J1 := J.quiet oB
  have nB : ¬ q.A w.heap.size := fun h => by have := J.st.fv.Alt _ h; omega
  refine (jkeptChange 8 a bb cc s t (by omega) (by omega) (z := (dueD 8 a s t (dbOf T)).2) (RR := fun w2 => DbQ q (w.alloc (.cells (opB 8 a bb cc s t) 41)) x (dueD 8 a s t (dbOf T)).1 w2) (QQ := fun w3 => TsP lo w q x g TC cv cl (.returned (.bool true)) w3) (jdid8_open J1.st J1.la a bb cc s t ht) (fun w2 r2 => AB.keep r2.2 (fun h => nB (Gnd.S_A h))) ?_).mono ?_
  · intro w2 r2
    refine (jdueOp_any (J1.ghS r2.2) J.gc J.la.dok 8 a bb cc s t ht (by omega) (by omega)).mono ?_
    rintro e w3 D
    have hD := D
    obtain ⟨_, _, he, _⟩ := D
    exact ⟨he, TsP.low oB (TsP.change J1 r2 hD)⟩
  · rintro e w3 ⟨rfl, h⟩
    exact h
set_option maxHeartbeats 1000000 in
theorem jks8_shut (J : TJ lo w q x g false S C T TC cv mv cl ml) (a bb cc : Int) (s t : ByteArray) (ht : t.size ≤ maxLen) : Calls Tryz.prog 15 #[.pointer (some ⟨x, 0, none⟩), .pointer (some ⟨g, 0, none⟩), opA 8 a bb cc s t] w (TsP lo w q x g TC cv cl) := by
  have oB : Only (fun _ => False) w (w.alloc (.cells (opB 8 a bb cc s t) 41)) := (Only.refl _ w).alloc _
  have AB : Has (w.alloc (.cells (opB 8 a bb cc s t) 41)) w.heap.size (opB 8 a bb cc s t) 41 := Has.new w _ _
  have J1 := J.quiet oB
  have nB : ¬ q.A w.heap.size := fun h => by have := J.st.fv.Alt _ h; omega
  refine (jkeptChange 8 a bb cc s t (by omega) (by omega) (z := 2) (RR := fun w2 => ST q w2 x false S ∧ Only q.S (w.alloc (.cells (opB 8 a bb cc s t) 41)) w2) (QQ := fun w3 => TsP lo w q x g TC cv cl (.returned (.bool true)) w3) (jdid8_shut J1.st a bb cc s t ht) (fun w2 r2 => AB.keep r2.2 (fun h => nB (Gnd.S_A h))) ?_).mono ?_
  · intro w2 r2
    refine (jdueSh_any (J1.ghS r2.2) 8 a bb cc s t (by omega)).mono ?_
    rintro e w3 ⟨rfl, o3⟩
    exact ⟨rfl, TsP.low oB (TsP.stay J1 (r2.1.quiet o3) (r2.2.trans (o3.mono (fun _ _ e => e.elim)) (fun _ _ e => e)))⟩
  · rintro e w3 ⟨rfl, h⟩
    exact h
set_option maxHeartbeats 1000000 in
theorem jks9_open (J : TJ lo w q x g true S C T TC cv mv cl ml) (a bb cc : Int) (s t : ByteArray) (ht : t.size ≤ maxLen) : Calls Tryz.prog 15 #[.pointer (some ⟨x, 0, none⟩), .pointer (some ⟨g, 0, none⟩), opA 9 a bb cc s t] w (TsP lo w q x g TC cv cl) := by
  have oB : Only (fun _ => False) w (w.alloc (.cells (opB 9 a bb cc s t) 41)) := (Only.refl _ w).alloc _
  have AB : Has (w.alloc (.cells (opB 9 a bb cc s t) 41)) w.heap.size (opB 9 a bb cc s t) 41 := Has.new w _ _
  have J1 := J.quiet oB
  have nB : ¬ q.A w.heap.size := fun h => by have := J.st.fv.Alt _ h; omega
  refine (jkeptChange 9 a bb cc s t (by omega) (by omega) (z := (dueD 9 a s t (dbOf T)).2) (RR := fun w2 => DbQ q (w.alloc (.cells (opB 9 a bb cc s t) 41)) x (dueD 9 a s t (dbOf T)).1 w2) (QQ := fun w3 => TsP lo w q x g TC cv cl (.returned (.bool true)) w3) (jdid9_open J1.st J1.la a bb cc s t ht) (fun w2 r2 => AB.keep r2.2 (fun h => nB (Gnd.S_A h))) ?_).mono ?_
  · intro w2 r2
    refine (jdueOp_any (J1.ghS r2.2) J.gc J.la.dok 9 a bb cc s t ht (by omega) (by omega)).mono ?_
    rintro e w3 D
    have hD := D
    obtain ⟨_, _, he, _⟩ := D
    exact ⟨he, TsP.low oB (TsP.change J1 r2 hD)⟩
  · rintro e w3 ⟨rfl, h⟩
    exact h
set_option maxHeartbeats 1000000 in
theorem jks9_shut (J : TJ lo w q x g false S C T TC cv mv cl ml) (a bb cc : Int) (s t : ByteArray) (ht : t.size ≤ maxLen) : Calls Tryz.prog 15 #[.pointer (some ⟨x, 0, none⟩), .pointer (some ⟨g, 0, none⟩), opA 9 a bb cc s t] w (TsP lo w q x g TC cv cl) := by
  have oB : Only (fun _ => False) w (w.alloc (.cells (opB 9 a bb cc s t) 41)) := (Only.refl _ w).alloc _
  have AB : Has (w.alloc (.cells (opB 9 a bb cc s t) 41)) w.heap.size (opB 9 a bb cc s t) 41 := Has.new w _ _
  have J1 := J.quiet oB
  have nB : ¬ q.A w.heap.size := fun h => by have := J.st.fv.Alt _ h; omega
  refine (jkeptChange 9 a bb cc s t (by omega) (by omega) (z := 2) (RR := fun w2 => ST q w2 x false S ∧ Only q.S (w.alloc (.cells (opB 9 a bb cc s t) 41)) w2) (QQ := fun w3 => TsP lo w q x g TC cv cl (.returned (.bool true)) w3) (jdid9_shut J1.st a bb cc s t ht) (fun w2 r2 => AB.keep r2.2 (fun h => nB (Gnd.S_A h))) ?_).mono ?_
  · intro w2 r2
    refine (jdueSh_any (J1.ghS r2.2) 9 a bb cc s t (by omega)).mono ?_
    rintro e w3 ⟨rfl, o3⟩
    exact ⟨rfl, TsP.low oB (TsP.stay J1 (r2.1.quiet o3) (r2.2.trans (o3.mono (fun _ _ e => e.elim)) (fun _ _ e => e)))⟩
  · rintro e w3 ⟨rfl, h⟩
    exact h
set_option maxHeartbeats 1000000 in
theorem jks1_open (J : TJ lo w q x g true S C T TC cv mv cl ml) (a bb cc : Int) (s t : ByteArray) (ht : t.size ≤ maxLen) : Calls Tryz.prog 15 #[.pointer (some ⟨x, 0, none⟩), .pointer (some ⟨g, 0, none⟩), opA 1 a bb cc s t] w (TsP lo w q x g TC cv cl) := by
  have oB : Only (fun _ => False) w (w.alloc (.cells (opB 1 a bb cc s t) 41)) := (Only.refl _ w).alloc _
  have AB : Has (w.alloc (.cells (opB 1 a bb cc s t) 41)) w.heap.size (opB 1 a bb cc s t) 41 := Has.new w _ _
  have J1 := J.quiet oB
  have nB : ¬ q.A w.heap.size := fun h => by have := J.st.fv.Alt _ h; omega
  refine (jkeptChange 1 a bb cc s t (by omega) (by omega) (z := 3) (RR := fun w2 => Only (fun _ => False) (w.alloc (.cells (opB 1 a bb cc s t) 41)) w2) (QQ := fun w3 => TsP lo w q x g TC cv cl (.returned (.bool true)) w3) (jdid1_open J1.st a bb cc s t ht) (fun w2 r2 => AB.keep r2 (fun h => h)) ?_).mono ?_
  · intro w2 r2
    refine (jdueBr_any (J1.ghD (Only.FD r2)) 1 a bb cc s t (by omega)).mono ?_
    rintro e w3 B
    obtain ⟨he, B⟩ := B.use (z := 3) (op' := true) (X := cl.map (·.t)) (Y := ml.map (·.t)) (fun z1 op1 C' M' h => by
      unfold DBr at h
      rcases h with ⟨h1, h2, h3, h4, h5, h6⟩ | ⟨h1, h2, h3, h4, h5, h6⟩ | ⟨h1, h2, h3, h4, h5, h6⟩ | ⟨h1, h2, h3, h4, h5, h6⟩ | ⟨h1, h0, h2, h3, h4, h5, h6⟩ <;> first | exact ⟨h3, h4, h5, h6⟩ | (exfalso; omega) | (exfalso; exact h1 rfl) | (exfalso; exact h0 rfl) | (exfalso; cases h2))
    exact ⟨he, TsP.low oB (TsP.bracket J1 (J1.st.quiet r2) J.la J.cf J.lc (Only.FD r2) (.inl ⟨rfl, rfl⟩) B J.gc J.gm)⟩
  · rintro e w3 ⟨rfl, h⟩
    exact h
set_option maxHeartbeats 1000000 in
theorem jks1_shut (J : TJ lo w q x g false S C T TC cv mv cl ml) (a bb cc : Int) (s t : ByteArray) (ht : t.size ≤ maxLen) : Calls Tryz.prog 15 #[.pointer (some ⟨x, 0, none⟩), .pointer (some ⟨g, 0, none⟩), opA 1 a bb cc s t] w (TsP lo w q x g TC cv cl) := by
  have oB : Only (fun _ => False) w (w.alloc (.cells (opB 1 a bb cc s t) 41)) := (Only.refl _ w).alloc _
  have AB : Has (w.alloc (.cells (opB 1 a bb cc s t) 41)) w.heap.size (opB 1 a bb cc s t) 41 := Has.new w _ _
  have J1 := J.quiet oB
  have nB : ¬ q.A w.heap.size := fun h => by have := J.st.fv.Alt _ h; omega
  refine (jkeptChange 1 a bb cc s t (by omega) (by omega) (z := 0) (RR := fun w2 => ST q w2 x true S ∧ Only q.S (w.alloc (.cells (opB 1 a bb cc s t) 41)) w2) (QQ := fun w3 => TsP lo w q x g TC cv cl (.returned (.bool true)) w3) (jdid1_shut J1.st a bb cc s t ht) (fun w2 r2 => AB.keep r2.2 (fun h => nB (Gnd.S_A h))) ?_).mono ?_
  · intro w2 r2
    refine (jdueBr_any (J1.ghS r2.2) 1 a bb cc s t (by omega)).mono ?_
    rintro e w3 B
    obtain ⟨he, B⟩ := B.use (z := 0) (op' := true) (X := cl.map (·.t)) (Y := ml.map (·.t)) (fun z1 op1 C' M' h => by
      unfold DBr at h
      rcases h with ⟨h1, h2, h3, h4, h5, h6⟩ | ⟨h1, h2, h3, h4, h5, h6⟩ | ⟨h1, h2, h3, h4, h5, h6⟩ | ⟨h1, h2, h3, h4, h5, h6⟩ | ⟨h1, h0, h2, h3, h4, h5, h6⟩ <;> first | exact ⟨h3, h4, h5, h6⟩ | (exfalso; omega) | (exfalso; exact h1 rfl) | (exfalso; exact h0 rfl) | (exfalso; cases h2))
    exact ⟨he, TsP.low oB (TsP.bracket J1 r2.1 J.la J.cf J.lc (Only.S_D r2.2) (.inl ⟨rfl, rfl⟩) B J.gc J.gm)⟩
  · rintro e w3 ⟨rfl, h⟩
    exact h
set_option maxHeartbeats 1000000 in
theorem jks2_shut (J : TJ lo w q x g false S C T TC cv mv cl ml) (a bb cc : Int) (s t : ByteArray) (ht : t.size ≤ maxLen) : Calls Tryz.prog 15 #[.pointer (some ⟨x, 0, none⟩), .pointer (some ⟨g, 0, none⟩), opA 2 a bb cc s t] w (TsP lo w q x g TC cv cl) := by
  have oB : Only (fun _ => False) w (w.alloc (.cells (opB 2 a bb cc s t) 41)) := (Only.refl _ w).alloc _
  have AB : Has (w.alloc (.cells (opB 2 a bb cc s t) 41)) w.heap.size (opB 2 a bb cc s t) 41 := Has.new w _ _
  have J1 := J.quiet oB
  have nB : ¬ q.A w.heap.size := fun h => by have := J.st.fv.Alt _ h; omega
  refine (jkeptChange 2 a bb cc s t (by omega) (by omega) (z := 2) (RR := fun w2 => Only (fun _ => False) (w.alloc (.cells (opB 2 a bb cc s t) 41)) w2) (QQ := fun w3 => TsP lo w q x g TC cv cl (.returned (.bool true)) w3) (jdid2_shut J1.st a bb cc s t ht) (fun w2 r2 => AB.keep r2 (fun h => h)) ?_).mono ?_
  · intro w2 r2
    refine (jdueBr_any (J1.ghD (Only.FD r2)) 2 a bb cc s t (by omega)).mono ?_
    rintro e w3 B
    obtain ⟨he, B⟩ := B.use (z := 2) (op' := false) (X := cl.map (·.t)) (Y := ml.map (·.t)) (fun z1 op1 C' M' h => by
      unfold DBr at h
      rcases h with ⟨h1, h2, h3, h4, h5, h6⟩ | ⟨h1, h2, h3, h4, h5, h6⟩ | ⟨h1, h2, h3, h4, h5, h6⟩ | ⟨h1, h2, h3, h4, h5, h6⟩ | ⟨h1, h0, h2, h3, h4, h5, h6⟩ <;> first | exact ⟨h3, h4, h5, h6⟩ | (exfalso; omega) | (exfalso; exact h1 rfl) | (exfalso; exact h0 rfl) | (exfalso; cases h2))
    exact ⟨he, TsP.low oB (TsP.bracket J1 (J1.st.quiet r2) J.la J.cf J.lc (Only.FD r2) (.inl ⟨rfl, rfl⟩) B J.gc J.gm)⟩
  · rintro e w3 ⟨rfl, h⟩
    exact h
set_option maxHeartbeats 1000000 in
theorem jks3_shut (J : TJ lo w q x g false S C T TC cv mv cl ml) (a bb cc : Int) (s t : ByteArray) (ht : t.size ≤ maxLen) : Calls Tryz.prog 15 #[.pointer (some ⟨x, 0, none⟩), .pointer (some ⟨g, 0, none⟩), opA 3 a bb cc s t] w (TsP lo w q x g TC cv cl) := by
  have oB : Only (fun _ => False) w (w.alloc (.cells (opB 3 a bb cc s t) 41)) := (Only.refl _ w).alloc _
  have AB : Has (w.alloc (.cells (opB 3 a bb cc s t) 41)) w.heap.size (opB 3 a bb cc s t) 41 := Has.new w _ _
  have J1 := J.quiet oB
  have nB : ¬ q.A w.heap.size := fun h => by have := J.st.fv.Alt _ h; omega
  refine (jkeptChange 3 a bb cc s t (by omega) (by omega) (z := 2) (RR := fun w2 => Only (fun _ => False) (w.alloc (.cells (opB 3 a bb cc s t) 41)) w2) (QQ := fun w3 => TsP lo w q x g TC cv cl (.returned (.bool true)) w3) (jdid3_shut J1.st a bb cc s t ht) (fun w2 r2 => AB.keep r2 (fun h => h)) ?_).mono ?_
  · intro w2 r2
    refine (jdueBr_any (J1.ghD (Only.FD r2)) 3 a bb cc s t (by omega)).mono ?_
    rintro e w3 B
    obtain ⟨he, B⟩ := B.use (z := 2) (op' := false) (X := cl.map (·.t)) (Y := ml.map (·.t)) (fun z1 op1 C' M' h => by
      unfold DBr at h
      rcases h with ⟨h1, h2, h3, h4, h5, h6⟩ | ⟨h1, h2, h3, h4, h5, h6⟩ | ⟨h1, h2, h3, h4, h5, h6⟩ | ⟨h1, h2, h3, h4, h5, h6⟩ | ⟨h1, h0, h2, h3, h4, h5, h6⟩ <;> first | exact ⟨h3, h4, h5, h6⟩ | (exfalso; omega) | (exfalso; exact h1 rfl) | (exfalso; exact h0 rfl) | (exfalso; cases h2))
    exact ⟨he, TsP.low oB (TsP.bracket J1 (J1.st.quiet r2) J.la J.cf J.lc (Only.FD r2) (.inl ⟨rfl, rfl⟩) B J.gc J.gm)⟩
  · rintro e w3 ⟨rfl, h⟩
    exact h
set_option maxHeartbeats 1000000 in
theorem jks3_open (J : TJ lo w q x g true S C T TC cv mv cl ml) (a bb cc : Int) (s t : ByteArray) (ht : t.size ≤ maxLen) : Calls Tryz.prog 15 #[.pointer (some ⟨x, 0, none⟩), .pointer (some ⟨g, 0, none⟩), opA 3 a bb cc s t] w (TsP lo w q x g TC cv cl) := by
  have oB : Only (fun _ => False) w (w.alloc (.cells (opB 3 a bb cc s t) 41)) := (Only.refl _ w).alloc _
  have AB : Has (w.alloc (.cells (opB 3 a bb cc s t) 41)) w.heap.size (opB 3 a bb cc s t) 41 := Has.new w _ _
  have J1 := J.quiet oB
  have nB : ¬ q.A w.heap.size := fun h => by have := J.st.fv.Alt _ h; omega
  refine (jkeptChange 3 a bb cc s t (by omega) (by omega) (z := 0) (RR := fun w2 => ST q w2 x false C ∧ Only q.S (w.alloc (.cells (opB 3 a bb cc s t) 41)) w2) (QQ := fun w3 => TsP lo w q x g TC cv cl (.returned (.bool true)) w3) (jdid3_open J1.st J.cf a bb cc s t ht) (fun w2 r2 => AB.keep r2.2 (fun h => nB (Gnd.S_A h))) ?_).mono ?_
  · intro w2 r2
    refine (jdueBr_any (J1.ghS r2.2) 3 a bb cc s t (by omega)).mono ?_
    rintro e w3 B
    obtain ⟨he, B⟩ := B.use (z := 0) (op' := false) (X := ml.map (·.t)) (Y := ml.map (·.t)) (fun z1 op1 C' M' h => by
      unfold DBr at h
      rcases h with ⟨h1, h2, h3, h4, h5, h6⟩ | ⟨h1, h2, h3, h4, h5, h6⟩ | ⟨h1, h2, h3, h4, h5, h6⟩ | ⟨h1, h2, h3, h4, h5, h6⟩ | ⟨h1, h0, h2, h3, h4, h5, h6⟩ <;> first | exact ⟨h3, h4, h5, h6⟩ | (exfalso; omega) | (exfalso; exact h1 rfl) | (exfalso; exact h0 rfl) | (exfalso; cases h2))
    exact ⟨he, TsP.low oB (TsP.bracket J1 r2.1 J.lc J.cf J.lc (Only.S_D r2.2) (.inl ⟨rfl, rfl⟩) B J.gm J.gm)⟩
  · rintro e w3 ⟨rfl, h⟩
    exact h
set_option maxHeartbeats 1000000 in
theorem jks2_open (J : TJ lo w q x g true S C T TC cv mv cl ml) (a bb cc : Int) (s t : ByteArray) (ht : t.size ≤ maxLen) (hrc : q.recs.length ≤ 300) : Calls Tryz.prog 15 #[.pointer (some ⟨x, 0, none⟩), .pointer (some ⟨g, 0, none⟩), opA 2 a bb cc s t] w (TsP lo w q x g TC cv cl) := by
  have oB : Only (fun _ => False) w (w.alloc (.cells (opB 2 a bb cc s t) 41)) := (Only.refl _ w).alloc _
  have AB : Has (w.alloc (.cells (opB 2 a bb cc s t) 41)) w.heap.size (opB 2 a bb cc s t) 41 := Has.new w _ _
  have J1 := J.quiet oB
  have nB : ¬ q.A w.heap.size := fun h => by have := J.st.fv.Alt _ h; omega
  refine (jkeptChange 2 a bb cc s t (by omega) (by omega) (z := 0) (RR := fun w2 => ∃ rs com wa, Only (fun _ => False) (w.alloc (.cells (opB 2 a bb cc s t) 41)) wa ∧ ST (q.done rs com wa w2) w2 x false S ∧ ComF com S ∧ CutInv q.blk rs q.com com ∧ Only q.D (w.alloc (.cells (opB 2 a bb cc s t) 41)) w2) (QQ := fun w3 => TsP lo w q x g TC cv cl (.returned (.bool true)) w3) (jdid2_open J1.st hrc a bb cc s t ht) (fun w2 r2 => by
    obtain ⟨_, _, _, _, _, _, _, h⟩ := r2
    exact AB.keep h (fun h => nB (Gnd.D_A h))) ?_).mono ?_
  · intro w2 r2
    obtain ⟨rs, com, wa, oa, st, cf, ci, on⟩ := r2
    refine (jdueBr_any (J1.ghD on) 2 a bb cc s t (by omega)).mono ?_
    rintro e w3 B
    obtain ⟨he, B⟩ := B.use (z := 0) (op' := false) (X := cl.map (·.t)) (Y := cl.map (·.t)) (fun z1 op1 C' M' h => by
      unfold DBr at h
      rcases h with ⟨h1, h2, h3, h4, h5, h6⟩ | ⟨h1, h2, h3, h4, h5, h6⟩ | ⟨h1, h2, h3, h4, h5, h6⟩ | ⟨h1, h2, h3, h4, h5, h6⟩ | ⟨h1, h0, h2, h3, h4, h5, h6⟩ <;> first | exact ⟨h3, h4, h5, h6⟩ | (exfalso; omega) | (exfalso; exact h1 rfl) | (exfalso; exact h0 rfl) | (exfalso; cases h2))
    exact ⟨he, TsP.low oB (TsP.bracket J1 st J.la cf J.la on (.inr ⟨rs, com, wa, w2, rfl, oa.size, ci⟩) B J.gc J.gc)⟩
  · rintro e w3 ⟨rfl, h⟩
    exact h
theorem jksChange_any (J : TJ lo w q x g op S C T TC cv mv cl ml) (hrc : q.recs.length ≤ 300) (kind a bb cc : Int) (s t : ByteArray) (ht : t.size ≤ maxLen) (h1 : 1 ≤ kind) (h9 : kind ≤ 9) : Calls Tryz.prog 15 #[.pointer (some ⟨x, 0, none⟩), .pointer (some ⟨g, 0, none⟩), opA kind a bb cc s t] w (TsP lo w q x g TC cv cl) := by
  obtain rfl | rfl | rfl | rfl | rfl | rfl | rfl | rfl | rfl : kind = 1 ∨ kind = 2 ∨ kind = 3 ∨ kind = 4 ∨ kind = 5 ∨ kind = 6 ∨ kind = 7 ∨ kind = 8 ∨ kind = 9 := by omega
  all_goals cases op
  · exact jks1_shut J a bb cc s t ht
  · exact jks1_open J a bb cc s t ht
  · exact jks2_shut J a bb cc s t ht
  · exact jks2_open J a bb cc s t ht hrc
  · exact jks3_shut J a bb cc s t ht
  · exact jks3_open J a bb cc s t ht
  · exact jks4_shut J a bb cc s t ht
  · exact jks4_open J a bb cc s t ht
  · exact jks5_shut J a bb cc s t ht
  · exact jks5_open J a bb cc s t ht
  · exact jks6_shut J a bb cc s t ht
  · exact jks6_open J a bb cc s t ht
  · exact jks7_shut J a bb cc s t ht
  · exact jks7_open J a bb cc s t ht
  · exact jks8_shut J a bb cc s t ht
  · exact jks8_open J a bb cc s t ht
  · exact jks9_shut J a bb cc s t ht
  · exact jks9_open J a bb cc s t ht
end
end Go.Proofs.Qxb6500413aGreat
