/-
  OWN WORK. THE B-TREE LAW: the keeper's state: forest and ghosts side by side.
-/
import Derived.Test.Qxb6500410aGreatBShw
namespace Go.Proofs.Qxb6500410aGreat
open Go.RowKit Go.PlainAid
set_option linter.unusedSimpArgs false
set_option linter.unusedVariables false

structure Gho where
  g : Nat
  tb : Nat
  iv : Value
  T : Nat → Bool
  its : List Itm
def Gho.F (x : Gho) (k : Nat) : Prop := GhF x.g x.tb x.iv k
def Gho.At (x : Gho) (w : World) : Prop := GhAt w x.g x.tb x.iv x.T x.its
/-- All blocks of the real side. -/
def Gnd.A (q : Gnd) (k : Nat) : Prop := q.F k ∨ q.G k ∨ k = q.p ∨ k = q.f
def keepC (d p f n b v : Nat) (op : Bool) (N : Int) : Array Value := #[.pointer (some ⟨d, 0, none⟩), .pointer (some ⟨p, 0, none⟩), .pointer (some ⟨f, 0, none⟩), .pointer (some ⟨n, 0, none⟩), .pointer (some ⟨b, 0, none⟩), .pointer (some ⟨v, 0, none⟩), .bool op, .int .i64 N]
theorem Gnd.S_A {q : Gnd} {k : Nat} (h : q.S k) : q.A k := by
  rcases h with h | h
  · exact .inr (.inl h)
  · exact .inr (.inr (.inl h))
theorem Gnd.D_A {q : Gnd} {k : Nat} (h : q.D k) : q.A k := by
  rcases h with h | h | h
  · exact .inl h
  · exact .inr (.inl h)
  · exact .inr (.inr (.inl h))
/-- The keeper's block and the ghosts, beside the forest. -/
structure KK (lo : Nat) (w : World) (kb : Nat) (q : Gnd) (op : Bool) (C P : Vu) (n b v : Gho) (N : Int) : Prop where
  kp : Has w kb (keepC q.d q.p q.f n.g b.g v.g op N) 35
  gn : n.At w
  gb : b.At w
  gv : v.At w
  rb : GR C b.T b.its
  rv : GR P v.T v.its
  dn : ∀ k, n.F k → ¬ q.A k ∧ k ≠ kb ∧ ¬ b.F k ∧ ¬ v.F k ∧ lo ≤ k
  db : ∀ k, b.F k → ¬ q.A k ∧ k ≠ kb ∧ lo ≤ k
  dv : ∀ k, v.F k → ¬ q.A k ∧ k ≠ kb ∧ lo ≤ k
  dk : ¬ q.A kb ∧ lo ≤ kb
  dq : ∀ k, q.A k → lo ≤ k
structure KJ (lo : Nat) (w : World) (kb : Nat) (q : Gnd) (op : Bool) (S C P : Vu) (n b v : Gho) (N : Int) : Prop where
  k : KK lo w kb q op C P n b v N
  fv : FV q w op S
  rn : GR S n.T n.its
  sc : op = false → S = C
  cf : ComF q.com C
/-- How the ground has moved. -/
def QS (q q' : Gnd) : Prop := q' = q ∨ ∃ rs com F', q' = { q with blk := replay q.blk rs, recs := q.recs ++ rs, com := com, F := F' } ∧ CutInv q.blk rs q.com com
/-- What a step leaves. -/
def KP (lo : Nat) (w : World) (kb : Nat) (q : Gnd) (P : Vu) (v : Gho) (N : Int) (w' : World) : Prop :=
  ∃ q' op' S' C' n' b', KJ lo w' kb q' op' S' C' P n' b' v N ∧ QS q q' ∧ Only (fun k => lo ≤ k) w w'
section
variable {lo : Nat} {w w' : World} {kb : Nat} {q : Gnd} {op : Bool} {S C P : Vu} {n b v : Gho} {N : Int}
theorem KK.c0 (h : KK lo w kb q op C P n b v N) : w.cell? ⟨kb, 0, none⟩ = some (.pointer (some ⟨q.d, 0, none⟩)) := by rw [h.kp.cell]; rfl
theorem KK.c1 (h : KK lo w kb q op C P n b v N) : w.cell? ⟨kb, 1, none⟩ = some (.pointer (some ⟨q.p, 0, none⟩)) := by rw [h.kp.cell]; rfl
theorem KK.c2 (h : KK lo w kb q op C P n b v N) : w.cell? ⟨kb, 2, none⟩ = some (.pointer (some ⟨q.f, 0, none⟩)) := by rw [h.kp.cell]; rfl
theorem KK.c3 (h : KK lo w kb q op C P n b v N) : w.cell? ⟨kb, 3, none⟩ = some (.pointer (some ⟨n.g, 0, none⟩)) := by rw [h.kp.cell]; rfl
theorem KK.c4 (h : KK lo w kb q op C P n b v N) : w.cell? ⟨kb, 4, none⟩ = some (.pointer (some ⟨b.g, 0, none⟩)) := by rw [h.kp.cell]; rfl
theorem KK.c5 (h : KK lo w kb q op C P n b v N) : w.cell? ⟨kb, 5, none⟩ = some (.pointer (some ⟨v.g, 0, none⟩)) := by rw [h.kp.cell]; rfl
theorem KK.c6 (h : KK lo w kb q op C P n b v N) : w.cell? ⟨kb, 6, none⟩ = some (.bool op) := by rw [h.kp.cell]; rfl
theorem KK.c7 (h : KK lo w kb q op C P n b v N) : w.cell? ⟨kb, 7, none⟩ = some (.int .i64 N) := by rw [h.kp.cell]; rfl
/-- Whatever touches neither keeper nor ghosts. -/
theorem KK.keep {B : Nat → Prop} (h : KK lo w kb q op C P n b v N) (ho : Only B w w') (hk : ¬ B kb) (hn : ∀ k, n.F k → ¬ B k) (hb : ∀ k, b.F k → ¬ B k) (hv : ∀ k, v.F k → ¬ B k) : KK lo w' kb q op C P n b v N :=
  ⟨h.kp.keep ho hk, GhAt.keep h.gn ho hn, GhAt.keep h.gb ho hb, GhAt.keep h.gv ho hv, h.rb, h.rv, h.dn, h.db, h.dv, h.dk, h.dq⟩
theorem KK.forest (h : KK lo w kb q op C P n b v N) (ho : Only q.S w w') : KK lo w' kb q op C P n b v N :=
  h.keep ho (fun c => h.dk.1 (Gnd.S_A c)) (fun k hk c => (h.dn k hk).1 (Gnd.S_A c)) (fun k hk c => (h.db k hk).1 (Gnd.S_A c)) (fun k hk c => (h.dv k hk).1 (Gnd.S_A c))
theorem KK.quiet (h : KK lo w kb q op C P n b v N) (ho : Only (fun _ => False) w w') : KK lo w' kb q op C P n b v N := h.keep ho (fun h => h) (fun _ _ h => h) (fun _ _ h => h) (fun _ _ h => h)
theorem KK.oS (h : KK lo w kb q op C P n b v N) {w0 : World} (o : Only (fun k => lo ≤ k) w0 w) (ho : Only q.S w w') : Only (fun k => lo ≤ k) w0 w' := o.trans ho (fun k _ hk => h.dq k (Gnd.S_A hk))
theorem KJ.quiet (h : KJ lo w kb q op S C P n b v N) (ho : Only (fun _ => False) w w') : KJ lo w' kb q op S C P n b v N := ⟨h.k.quiet ho, h.fv.quiet ho, h.rn, h.sc, h.cf⟩
theorem KJ.forest (h : KJ lo w kb q op S C P n b v N) (ho : Only q.S w w') (A : FV q w' op S) : KJ lo w' kb q op S C P n b v N := ⟨h.k.forest ho, A, h.rn, h.sc, h.cf⟩
theorem KK.sepN (h : KK lo w kb q op C P n b v N) : ∀ k, GhF n.g n.tb n.iv k → ¬ q.S k := fun k hk c => (h.dn k hk).1 (Gnd.S_A c)
theorem KK.sepB (h : KK lo w kb q op C P n b v N) : ∀ k, GhF b.g b.tb b.iv k → ¬ q.S k := fun k hk c => (h.db k hk).1 (Gnd.S_A c)
theorem KK.sepV (h : KK lo w kb q op C P n b v N) : ∀ k, GhF v.g v.tb v.iv k → ¬ q.S k := fun k hk c => (h.dv k hk).1 (Gnd.S_A c)
/-- The forest stands whatever is written outside it. -/
theorem KK.fvK {B : Nat → Prop} (h : KK lo w kb q op C P n b v N) {op2 : Bool} (A : FV q w op2 S) (ho : Only B w w') (hB : ∀ k, q.A k → ¬ B k) : FV q w' op2 S :=
  A.keep ho (fun k hk => hB k (.inl hk)) (fun k hk => hB k (.inr (.inl hk))) (hB _ (.inr (.inr (.inl rfl)))) (hB _ (.inr (.inr (.inr rfl))))
/-- The ghost Now is another, in place or not. -/
theorem KK.now {B : Nat → Prop} (h : KK lo w kb q op C P n b v N) {n' : Gho} (hg : n'.g = n.g) (G : n'.At w') (hF : ∀ k, n'.F k → n.F k ∨ w.heap.size ≤ k) (hq : ∀ k, q.A k → k < w.heap.size) (ho : Only B w w') (hB : ∀ k, B k → n.F k) (hlo : lo ≤ w.heap.size) : KK lo w' kb q op C P n' b v N := by
  refine ⟨?_, G, GhAt.keep h.gb ho (fun k hk c => (h.dn k (hB k c)).2.2.1 hk), GhAt.keep h.gv ho (fun k hk c => (h.dn k (hB k c)).2.2.2.1 hk), h.rb, h.rv, fun k hk => ?_, h.db, h.dv, h.dk, h.dq⟩
  · have := h.kp.keep ho (fun c => (h.dn _ (hB _ c)).2.1 rfl)
    rw [hg]
    exact this
  · rcases hF k hk with c | c
    · exact h.dn k c
    · refine ⟨fun d => ?_, fun d => ?_, fun d => ?_, fun d => ?_, by omega⟩
      · have := hq k d; omega
      · have := h.kp.lt; omega
      · have := GhAt.lt h.gb k d; omega
      · have := GhAt.lt h.gv k d; omega
theorem FV.Alt (A : FV q w op S) : ∀ k, q.A k → k < w.heap.size := by
  obtain ⟨view, F, A, I, rfl⟩ := A
  rintro k (h | h | h | h)
  · exact A.pg.inF k h
  · exact A.pg.inG k h
  · rw [h]; exact A.pg.plt
  · rw [h]; exact A.has.lt
theorem KJ.low (h : KJ lo w kb q op S C P n b v N) : lo ≤ w.heap.size := by
  have := h.k.kp.lt
  have := h.k.dk.2
  omega
theorem KJ.post (h : KJ lo w kb q op S C P n b v N) {q0 : Gnd} {w0 : World} (hq : QS q0 q) (ho : Only (fun k => lo ≤ k) w0 w) : KP lo w0 kb q0 P v N w := ⟨q, op, S, C, n, b, h, hq, ho⟩
theorem KJ.same (h : KJ lo w kb q op S C P n b v N) {w0 : World} (ho : Only (fun k => lo ≤ k) w0 w) : KP lo w0 kb q P v N w := h.post (.inl rfl) ho
end
end Go.Proofs.Qxb6500410aGreat
