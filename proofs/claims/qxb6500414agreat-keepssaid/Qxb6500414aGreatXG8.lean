/-
  OWN WORK. THE TXN LAW: the walk Serial: what it starts with.
-/
import Derived.Test.Qxb6500414aGreatXG7
import Derived.Test.Qxb6500414aGreatXB0
import Derived.Test.Qxb6500414aGreatXL8
import Derived.Test.Qxb6500414aGreatXMu0
namespace Go.Proofs.Qxb6500414aGreat
open Go.RowKit Go.PlainAid
set_option linter.unusedSimpArgs false
set_option linter.unusedVariables false

theorem Xs0.lk0 (s : Nat) (nm : ByteArray) : Xs0.lk s nm = 0 := by
  unfold Xs.lk
  split
  · rfl
  · split
    · rfl
    · split <;> rfl
theorem xs0_ok {D : Db} (G : DGd D) : XOk Xs0 D := by
  refine ⟨G, ⟨fun i hi => ⟨fun h => (by cases h), fun ⟨s, _, h⟩ => absurd rfl h⟩, fun i hi _ => rfl, fun i hi h => (by cases h), fun i j hi hj h => (by cases h), fun i s hi hs => ⟨Int.le_refl _, by show (0 : Int) ≤ 2; omega⟩, fun i s hi hs h => absurd rfl h, fun i s o hi hs ho hne h => rfl⟩, fun s hs => WsG.nil G, fun s hs c hc => (by cases hc), fun s hs h => rfl⟩
theorem RX.new {q : Gnd} {w : World} {g x : Nat} {S : Vu} {T : List (Tb × Hd)} (st : ST q w x false S) (la : Lay S T) (cf : ComF q.com S) (xm : XM w g x Xs0) (hg : ¬ q.A g ∧ g ≠ x) : RX q w g x (Mu0 (dbOf T)) (fun k => k = g) := by
  have hM : ∀ k, ¬ Xs0.M k := fun k ⟨s, _, h⟩ => by cases h
  have hI : ∀ k, ¬ Xs0.I k := fun k ⟨s, _, h⟩ => by
    obtain ⟨c, hc, _⟩ := h
    cases hc
  refine ⟨⟨Xs0, S, T, ⟨st, xm, fun k hk => ?_⟩, la, cf, xs0_ok la.dgd, ⟨rfl, fun s hs => rfl, fun s nm hs => (Xs0.lk0 s nm).symm, fun s hs => (seeD_nil _).symm⟩, fun k hk => ?_⟩, fun k hk => ?_⟩
  · rcases hk with h | h | h
    · rw [h]; exact hg
    · exact absurd h (hM k)
    · exact absurd h (hI k)
  · rcases hk with h | h | h
    · exact h
    · exact absurd h (hM k)
    · exact absurd h (hI k)
  · have e : k = g := hk
    subst e
    exact ⟨hg.1, hg.2, xm.lt k (.inl rfl)⟩
/-- The ghost at its start. -/
def GhM.z (tv : Value) (l : List GE) : GhM := ⟨tv, l, fun _ => .slice none 0 0, fun _ => [], fun _ => false⟩
theorem GhAt.new {w : World} {tv : Value} {l : List GE} {D : Db} (hM : ML w tv l) (ht : l.map (·.t) = D) (G : DOk D) : GhAt (w.alloc (.cells (ghC (GhM.z tv l)) 42)) w.heap.size (GhM.z tv l) D := by
  have o1 : Only (fun _ => False) w (w.alloc (.cells (ghC (GhM.z tv l)) 42)) := (Only.refl _ _).alloc _
  exact ⟨⟨stoG, Has.new w _ _, ghC_0 _, hM.keep o1 (fun _ _ h => h) (fun _ _ h => h), ht, G⟩, fun s hs => RcL.nil _, fun s r hs hr hne k h => (by cases h), fun s hs k ⟨y, hy, _⟩ => (by cases hy), fun s hs => (by show (0 : Nat) ≤ 64; omega), fun s hs y hy => (by cases hy)⟩
theorem SerI.new (D : Db) (tv : Value) (l : List GE) : SerI (Mu0 D) (GhM.z tv l) D := ⟨rfl, fun s hs h => (by cases h)⟩
section
variable {q : Gnd} {w w' : World} {g x : Nat} {M : Mu} {K : Nat → Prop}
theorem RX.comd (R : RX q w g x M K) : ComD q.com M.com ∧ q.com.length = 80 := by
  obtain ⟨X, S, T, hx, la, cf, ok, sh, hk⟩ := R.ex
  exact ⟨⟨S, cf.toS, .inl ⟨T, la, sh.com.symm⟩⟩, hx.st.fv.lcom⟩
theorem RX.dk (R : RX q w g x M K) : DiskAt w q.d q.blk q.base q.recs q.F := by
  obtain ⟨X, S, T, hx, _⟩ := R.ex
  exact hx.st.fv.dk
theorem RX.still (R : RX q w g x M K) : CutX q.blk [] (fun X => ComD X M.com) (fun X => ComD X M.com) := by
  have hc := R.comd
  obtain ⟨X, S, T, hx, _⟩ := R.ex
  exact hx.st.fv.still.toX hc.2 hc.2 hc.1 hc.1
theorem RX.mark (R : RX q w g x M K) (hd : DiskAt w' q.d q.blk q.blk [] (Ext q.F w w')) (ho : Only q.F w w') : RX (q.mark w w') w' g x M K := by
  have hkA := R.kA
  have hlt := R.Alt
  have sz := ho.size
  have nA : ∀ k, k < w.heap.size → ¬ q.A k → ¬ (q.mark w w').A k := fun k hk h c => by
    rcases Gnd.mark_A c with d | d
    · exact h d
    · omega
  obtain ⟨X, S, T, hx, la, cf, ok, sh, hk⟩ := R.ex
  have xl := hx.xm.lt
  refine ⟨⟨X, S, T, ⟨⟨hx.st.fv.marked hd ho, hx.st.has.keep ho (fun h => hx.st.nx (.inl h)), nA x hlt.2 hx.st.nx⟩, hx.xm.keep ho (fun h => (hx.off g (.inl rfl)).1 (.inl h)) (fun k hk h => (hx.off k (.inr (.inl hk))).1 (.inl h)) (fun k hk h => (hx.off k (.inr (.inr hk))).1 (.inl h)), fun k h => ⟨nA k (xl k h) (hx.off k h).1, (hx.off k h).2⟩⟩, la, cf, ok, sh, hk⟩, fun k h => ?_⟩
  have h1 := hkA k h
  exact ⟨nA k h1.2.2 h1.1, h1.2.1, by omega⟩
end
/-- The walk's state between two ops: the store, the ghost, the block of what lies below, the cut's law. -/
structure SW (lo : Nat) (w : World) (kb : Nat) (q : Gnd) (g x kG : Nat) (M : Mu) (K : Nat → Prop) (m : GhM) (DW : Db) : Prop where
  rx : RX q w g x M K
  gh : GhAt w kG m M.com
  se : SerI M m M.com
  sp : ∀ k, m.A kG k → ¬ q.A k ∧ k ≠ x ∧ ¬ K k
  bx : Has w kb (jbC q.d x) 30
  kq : ¬ q.A kb ∧ kb ≠ x ∧ ¬ K kb ∧ ¬ m.A kG kb
  cu : CutX q.base q.recs (fun X => ComD X DW) (fun X => ComD X M.com)
  lo : ∀ k, q.A k ∨ k = x ∨ K k ∨ m.A kG k ∨ k = kb → lo ≤ k
section
variable {lo : Nat} {q : Gnd} {w w' : World} {kb g x kG : Nat} {M : Mu} {K : Nat → Prop} {m : GhM} {DW : Db}
theorem SW.quiet (h : SW lo w kb q g x kG M K m DW) (ho : Only (fun _ => False) w w') : SW lo w' kb q g x kG M K m DW :=
  ⟨h.rx.quiet ho, h.gh.quiet ho, h.se, h.sp, h.bx.keep ho (fun e => e), h.kq, h.cu, h.lo⟩
theorem SW.mark (h : SW lo w kb q g x kG M K m DW) (hd : DiskAt w' q.d q.blk q.blk [] (Ext q.F w w')) (ho : Only q.F w w') : SW lo w' kb (q.mark w w') g x kG M K m M.com := by
  have sz := ho.size
  have nA : ∀ k, k < w.heap.size → ¬ q.A k → ¬ (q.mark w w').A k := fun k hk h c => by
    rcases Gnd.mark_A c with d | d
    · exact h d
    · omega
  refine ⟨h.rx.mark hd ho, h.gh.keep ho (fun k hk c => (h.sp k hk).1 (.inl c)), h.se, fun k hk => ⟨nA k (h.gh.lt k hk) (h.sp k hk).1, (h.sp k hk).2⟩, h.bx.keep ho (fun c => h.kq.1 (.inl c)), ⟨nA kb h.bx.lt h.kq.1, h.kq.2⟩, h.rx.still, fun k hk => ?_⟩
  rcases hk with c | c
  · rcases Gnd.mark_A c with d | d
    · exact h.lo k (.inl d)
    · have h1 := h.lo kb (.inr (.inr (.inr (.inr rfl))))
      have h2 := h.bx.lt
      omega
  · exact h.lo k (.inr c)
/-- Where the cut falls. -/
theorem SW.pick (h : SW lo w kb q g x kG M K m DW) (a : Int) : ∃ X D, X.length = 80 ∧ Shows (recov (replay q.base (q.recs.take a.toNat))) X ∧ ComD X D := by
  obtain ⟨X, lX, hX, hor, _, _⟩ := h.cu.pick a.toNat
  rcases hor with c | c
  · exact ⟨X, _, lX, hX, c⟩
  · exact ⟨X, _, lX, hX, c⟩
end
end Go.Proofs.Qxb6500414aGreat
