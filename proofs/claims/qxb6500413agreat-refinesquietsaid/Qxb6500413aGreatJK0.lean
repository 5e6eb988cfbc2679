/-
  OWN WORK. THE TABLE LAW: the state of the walk (the store and the ghost).
-/
import Derived.Test.Qxb6500413aGreatJD
import Derived.Test.Qxb6500413aGreatJS5
import Derived.Test.Qxb6500413aGreatECk
import Derived.Test.Qxb6500413aGreatEBe
import Derived.Test.Qxb6500413aGreatEUn
namespace Go.Proofs.Qxb6500413aGreat
open Go.RowKit Go.PlainAid
set_option linter.unusedSimpArgs false
set_option linter.unusedVariables false

/-- The blocks of a list of the ghost. -/
def GLa (v : Value) (l : List GE) (k : Nat) : Prop := GLm v l k ∨ GLi l k
/-- The store and the ghost. -/
structure TJ (lo : Nat) (w : World) (q : Gnd) (x g : Nat) (op : Bool) (S C : Vu) (T TC : List (Tb × Hd)) (cv mv : Value) (cl ml : List GE) : Prop where
  st : ST q w x op S
  la : Lay S T
  gh : GH w g cv cl mv ml op
  gc : GP (cl.map (·.t)) (dbOf T)
  cf : ComF q.com C
  lc : Lay C TC
  gm : GP (ml.map (·.t)) (dbOf TC)
  sg : ¬ q.A g ∧ g ≠ x ∧ lo ≤ g
  sc : ∀ k, GLa cv cl k → ¬ q.A k ∧ k ≠ x ∧ lo ≤ k
  sm : ∀ k, GLa mv ml k → ¬ q.A k ∧ k ≠ x ∧ lo ≤ k
  qlo : ∀ k, q.A k → lo ≤ k
  xlo : lo ≤ x
section
variable {lo : Nat} {w w' : World} {q : Gnd} {x g : Nat} {op : Bool} {S C : Vu} {T TC : List (Tb × Hd)} {cv mv : Value} {cl ml : List GE}
theorem TJ.low (J : TJ lo w q x g op S C T TC cv mv cl ml) : lo ≤ w.heap.size := by have := J.gh.has.lt; have := J.sg.2.2; omega
theorem TJ.quiet (J : TJ lo w q x g op S C T TC cv mv cl ml) (ho : Only (fun _ => False) w w') : TJ lo w' q x g op S C T TC cv mv cl ml :=
  ⟨J.st.quiet ho, J.la, J.gh.quiet ho, J.gc, J.cf, J.lc, J.gm, J.sg, J.sc, J.sm, J.qlo, J.xlo⟩
/-- The store has moved, the ghost has not. -/
theorem TJ.look (J : TJ lo w q x g op S C T TC cv mv cl ml) (st : ST q w' x op S) (ho : Only q.S w w') : TJ lo w' q x g op S C T TC cv mv cl ml :=
  ⟨st, J.la, J.gh.keep ho (fun h => J.sg.1 (Gnd.S_A h)) (fun k hk h => (J.sc k hk).1 (Gnd.S_A h)) (fun k hk h => (J.sm k hk).1 (Gnd.S_A h)), J.gc, J.cf, J.lc, J.gm, J.sg, J.sc, J.sm, J.qlo, J.xlo⟩
theorem TJ.sepC (J : TJ lo w q x g op S C T TC cv mv cl ml) : ∀ k, GLm cv cl k ∨ GLi cl k → ¬ q.S k := fun k hk h => (J.sc k hk).1 (Gnd.S_A h)
theorem TJ.sepM (J : TJ lo w q x g op S C T TC cv mv cl ml) : ∀ k, GLm mv ml k ∨ GLi ml k → ¬ q.S k := fun k hk h => (J.sm k hk).1 (Gnd.S_A h)
/-- What a step leaves. -/
def TsP (lo : Nat) (w : World) (q : Gnd) (x g : Nat) (TC : List (Tb × Hd)) (cv : Value) (cl : List GE) (y : Ending) (w' : World) : Prop :=
  y = .returned (.bool true) ∧ ∃ q' op' S' C' T' TC' cv' mv' cl' ml', TJ lo w' q' x g op' S' C' T' TC' cv' mv' cl' ml' ∧ ((q' = q ∧ dbOf TC' = dbOf TC) ∨ ∃ rs com wa wb, q' = q.done rs com wa wb ∧ w.heap.size ≤ wa.heap.size ∧ CutInv q.blk rs q.com com) ∧ (∀ k, GLm cv' cl' k → GLm cv cl k ∨ w.heap.size ≤ k) ∧ Only (fun k => q.D k ∨ k = g ∨ GLm cv cl k) w w'
theorem TsP.stay (J : TJ lo w q x g op S C T TC cv mv cl ml) (st : ST q w' x op S) (ho : Only q.S w w') : TsP lo w q x g TC cv cl (.returned (.bool true)) w' :=
  ⟨rfl, q, op, S, C, T, TC, cv, mv, cl, ml, J.look st ho, .inl ⟨rfl, rfl⟩, fun k hk => .inl hk, ho.mono (fun k _ h => .inl (by rcases h with h | h; exact .inr (.inl h); exact .inr (.inr h)))⟩
theorem done_A {rs : List (Nat × ByteArray)} {com : List ByteArray} {wa wb : World} {k : Nat} (h : (q.done rs com wa wb).A k) : q.A k ∨ wa.heap.size ≤ k := by
  rcases h with (h | h) | h | h | h
  · exact .inl (.inl h)
  · exact .inr h.1
  · exact .inl (.inr (.inl h))
  · exact .inl (.inr (.inr (.inl h)))
  · exact .inl (.inr (.inr (.inr h)))
/-- The ghost's step behind the store's. -/
theorem GH.seps {w1 w2 : World} {q' : Gnd} {B : Nat → Prop} (hB : ∀ k, B k → k = g ∨ GLm cv cl k) (sg : ¬ q'.A g ∧ g ≠ x) (sc : ∀ k, GLa cv cl k → ¬ q'.A k ∧ k ≠ x) {op' : Bool} {S' : Vu} (st : ST q' w1 x op' S') (ho : Only B w1 w2) : ST q' w2 x op' S' :=
  st.keep ho (fun k hk hb => by
    rcases hB k hb with rfl | h
    · rcases hk with hk | hk
      · exact sg.1 hk
      · exact sg.2 hk
    · rcases hk with hk | hk
      · exact (sc k (.inl h)).1 hk
      · exact (sc k (.inl h)).2 hk)
end
end Go.Proofs.Qxb6500413aGreat
