/-
  OWN WORK. THE TABLE LAW: both sides side by side; what a step leaves.
-/
import Derived.Test.Qxb6500413aGreatYL8
import Derived.Test.Qxb6500413aGreatJK5
namespace Go.Proofs.Qxb6500413aGreat
open Go.RowKit Go.PlainAid
set_option linter.unusedSimpArgs false
set_option linter.unusedVariables false

structure YJ (lo : Nat) (w : World) (q : Gnd) (x z : Nat) (op : Bool) (S C : Vu) (T TC : List (Tb × Hd)) (U : Db) (hist : Option Db) (H : Nat → Prop) : Prop where
  st : ST q w x op S
  la : Lay S T
  za : YAt w z (dbOf T) (dbOf TC) U hist op H
  cf : ComF q.com C
  lc : Lay C TC
  sp : ∀ k, H k → ¬ q.A k ∧ k ≠ x ∧ lo ≤ k
  ql : ∀ k, q.A k → lo ≤ k
  xl : lo ≤ x
  hh : (hist = none ∧ U = dbOf TC) ∨ hist = some (dbOf TC)
/-- What a step leaves. -/
def YR (lo : Nat) (w : World) (q : Gnd) (x z : Nat) (TC : List (Tb × Hd)) (U : Db) (H : Nat → Prop) (cm : Bool) (e : Ending) (w' : World) : Prop :=
  e = .returned (.bool true) ∧ ∃ q' op' S' C' T' TC' hist' H', YJ lo w' q' x z op' S' C' T' TC' U hist' H' ∧ ((q' = q ∧ dbOf TC' = dbOf TC) ∨ (cm = true ∧ ∃ rs com wa wb, q' = q.done rs com wa wb ∧ w.heap.size ≤ wa.heap.size ∧ CutInv q.blk rs q.com com)) ∧ (∀ k, H' k → H k ∨ w.heap.size ≤ k) ∧ Only (fun k => q.A k ∨ H k) w w'
section
variable {lo : Nat} {w w1 w2 : World} {q : Gnd} {x z : Nat} {op op1 cm : Bool} {S C S1 : Vu} {T TC T1 : List (Tb × Hd)} {U : Db} {hist : Option Db} {H H2 : Nat → Prop}
theorem YJ.sepS (J : YJ lo w q x z op S C T TC U hist H) : ∀ k, H k → ¬ q.S k := fun k hk c => (J.sp k hk).1 (Gnd.S_A c)
theorem YJ.quiet (J : YJ lo w q x z op S C T TC U hist H) (ho : Only (fun _ => False) w w1) : YJ lo w1 q x z op S C T TC U hist H := ⟨J.st.quiet ho, J.la, J.za.quiet ho, J.cf, J.lc, J.sp, J.ql, J.xl, J.hh⟩
theorem YJ.look (J : YJ lo w q x z op S C T TC U hist H) (st : ST q w1 x op S) (ho : Only q.S w w1) : YJ lo w1 q x z op S C T TC U hist H := ⟨st, J.la, J.za.keep ho J.sepS, J.cf, J.lc, J.sp, J.ql, J.xl, J.hh⟩
theorem YJ.low (J : YJ lo w q x z op S C T TC U hist H) : lo ≤ w.heap.size := by
  have := J.za.nem
  have := (J.sp z J.za.hm).2.2
  omega
/-- A look: nothing has turned. -/
theorem YJ.pure (J : YJ lo w q x z op S C T TC U hist H) (st : ST q w1 x op S) (ho : Only q.S w w1) : YR lo w q x z TC U H cm (.returned (.bool true)) w1 :=
  ⟨rfl, q, op, S, C, T, TC, hist, H, J.look st ho, .inl ⟨rfl, rfl⟩, fun k hk => .inl hk, ho.mono (fun k _ h => .inl (Gnd.S_A h))⟩
/-- Both have turned; nothing was committed. -/
theorem YJ.step {C1 : Vu} {TC1 : List (Tb × Hd)} (J : YJ lo w q x z op S C T TC U hist H) (st1 : ST q w1 x op1 S1) (la1 : Lay S1 T1) (o1 : Only q.S w w1) (Z2 : YAt w2 z (dbOf T1) (dbOf TC) U hist op1 H2) (hH : ∀ k, H2 k → H k ∨ w1.heap.size ≤ k) (o2 : Only H w1 w2) : YR lo w q x z TC U H cm (.returned (.bool true)) w2 := by
  have s1 := o1.size
  have al := J.st.fv.Alt
  have xl := J.st.has.lt
  have lw := J.low
  have st2 : ST q w2 x op1 S1 := st1.keep o2 (fun k hk hh => by
    rcases hk with hk | hk
    · exact (J.sp k hh).1 hk
    · exact (J.sp k hh).2.1 hk)
  refine ⟨rfl, q, op1, S1, C, T1, TC, hist, H2, ⟨st2, la1, Z2, J.cf, J.lc, fun k hk => ?_, J.ql, J.xl, J.hh⟩, .inl ⟨rfl, rfl⟩, fun k hk => (hH k hk).imp id (fun c => by omega), ?_⟩
  · rcases hH k hk with c | c
    · exact J.sp k c
    · exact ⟨fun d => by have := al k d; omega, by omega, by omega⟩
  · exact (o1.mono (fun k _ h => .inl (Gnd.S_A h))).trans o2 (fun k _ h => .inr h)
theorem YR.low {w0 : World} {e : Ending} (o : Only (fun _ => False) w0 w) (h : YR lo w q x z TC U H cm e w1) : YR lo w0 q x z TC U H cm e w1 := by
  obtain ⟨he, q', op', S', C', T', TC', hist', H', J, hq, hH, oo⟩ := h
  have s := o.size
  refine ⟨he, q', op', S', C', T', TC', hist', H', J, ?_, fun k hk => (hH k hk).imp id (fun c => by omega), (o.mono (fun _ _ e => e.elim)).trans oo (fun _ _ e => e)⟩
  rcases hq with h | ⟨h1, rs, com, wa, wb, h2, h3, h4⟩
  · exact .inl h
  · exact .inr ⟨h1, rs, com, wa, wb, h2, by omega, h4⟩
/-- A commit. -/
theorem YJ.commit {rs : List (Nat × ByteArray)} {com : List ByteArray} (J : YJ lo w q x z true S C T TC U none H) (st1 : ST (q.done rs com w w1) w1 x false S) (cf : ComF com S) (ci : CutInv q.blk rs q.com com) (o1 : Only q.D w w1) (Z2 : YAt w2 z (dbOf T) (dbOf T) U (some (dbOf T)) false (Ext H w1 w2)) (o2 : Only (fun k => k = z) w1 w2) : YR lo w q x z TC U H true (.returned (.bool true)) w2 := by
  have s1 := o1.size
  have al := J.st.fv.Alt
  have al1 := st1.fv.Alt
  have xl := J.st.has.lt
  have lw := J.low
  have hz := J.sp z J.za.hm
  have zl := J.za.nem
  have nA : ∀ k, k < w.heap.size → ¬ q.A k → ¬ (q.done rs com w w1).A k := fun k hk h c => by
    rcases done_A c with d | d
    · exact h d
    · omega
  have st2 : ST (q.done rs com w w1) w2 x false S := st1.keep o2 (fun k hk e => by
    subst e
    rcases hk with hk | hk
    · exact nA k zl hz.1 hk
    · exact hz.2.1 hk)
  refine ⟨rfl, q.done rs com w w1, false, S, S, T, T, some (dbOf T), Ext H w1 w2, ⟨st2, J.la, Z2, cf, J.la, fun k hk => ?_, fun k hk => ?_, J.xl, .inr rfl⟩, .inr ⟨rfl, rs, com, w, w1, rfl, Nat.le_refl _, ci⟩, fun k hk => ?_, ?_⟩
  · rcases hk with c | c
    · have := J.sp k c
      exact ⟨nA k (J.za.inn k c) this.1, this.2⟩
    · exact ⟨fun d => by have := al1 k d; omega, by omega, by omega⟩
  · rcases done_A hk with d | d
    · exact J.ql k d
    · omega
  · rcases hk with c | c
    · exact .inl c
    · exact .inr (by omega)
  · exact (o1.mono (fun k _ h => .inl (Gnd.D_A h))).trans o2 (fun k _ e => .inr (by rw [e]; exact J.za.hm))
end
end Go.Proofs.Qxb6500413aGreat
