/-
  OWN WORK. THE B-TREE LAW: the keeper at a mark, at the building.
-/
import Derived.Test.Qxb6500410aGreatBKl
import Derived.Test.Qxb6500410aGreatBKt
import Derived.Test.Qxb6500410aGreatOpsDef
namespace Go.Proofs.Qxb6500410aGreat
open Go.RowKit Go.PlainAid
set_option linter.unusedSimpArgs false
set_option linter.unusedVariables false

/-- The ground behind a mark. -/
def Gnd.mark (q : Gnd) (w w' : World) : Gnd := ⟨q.f, q.p, q.l, q.d, q.blk, q.blk, [], q.com, Ext q.F w w', q.G⟩
section
variable {lo : Nat} {w w' : World} {kb : Nat} {q : Gnd} {op : Bool} {S C P V : Vu} {n b v : Gho} {N : Int} {was : List ByteArray}
theorem FV.dk (A : FV q w op S) : DiskAt w q.d q.blk q.base q.recs q.F := by
  obtain ⟨view, F, A, I, rfl⟩ := A
  exact A.pg.dk
theorem FV.lcom (A : FV q w op S) : q.com.length = 80 := by
  obtain ⟨view, F, A, I, rfl⟩ := A
  exact A.pg.lcom
theorem FV.still (A : FV q w op S) : CutInv q.blk [] q.com q.com := by
  obtain ⟨view, F, A, I, rfl⟩ := A
  exact A.pg.still
theorem FV.marked (A : FV q w op S) (hd : DiskAt w' q.d q.blk q.blk [] (Ext q.F w w')) (ho : Only q.F w w') : FV (q.mark w w') w' op S := by
  obtain ⟨view, F, A, I, rfl⟩ := A
  have hfl := A.has.lt
  refine ⟨view, F, ⟨A.pg.marked hd ho, A.has.keep ho A.fF, A.fG, ?_, A.fp⟩, I, rfl⟩
  rintro (h | h)
  · exact A.fF h
  · have : w.heap.size ≤ q.f := h.1
    omega
theorem Gnd.mark_A {k : Nat} (h : (q.mark w w').A k) : q.A k ∨ (w.heap.size ≤ k ∧ k < w'.heap.size) := by
  rcases h with (h | h) | h | h | h
  · exact .inl (.inl h)
  · exact .inr h
  · exact .inl (.inr (.inl h))
  · exact .inl (.inr (.inr (.inl h)))
  · exact .inl (.inr (.inr (.inr h)))
theorem KJ.marked (J : KJ lo w kb q op S C P n b v N) (hd : DiskAt w' q.d q.blk q.blk [] (Ext q.F w w')) (ho : Only q.F w w') : KJ lo w' kb (q.mark w w') op S C P n b v N := by
  have K := J.k.keep ho (fun h => J.k.dk.1 (.inl h)) (fun k hk h => (J.k.dn k hk).1 (.inl h)) (fun k hk h => (J.k.db k hk).1 (.inl h)) (fun k hk h => (J.k.dv k hk).1 (.inl h))
  have kl := J.k.kp.lt
  have nl := GhAt.lt J.k.gn
  have bl := GhAt.lt J.k.gb
  have vl := GhAt.lt J.k.gv
  have hlo := J.low
  have nA : ∀ k, k < w.heap.size → ¬ q.A k → ¬ (q.mark w w').A k := fun k hk h c => by
    rcases Gnd.mark_A c with d | d
    · exact h d
    · omega
  refine ⟨⟨K.kp, K.gn, K.gb, K.gv, K.rb, K.rv, fun k hk => ?_, fun k hk => ?_, fun k hk => ?_, ?_, fun k hk => ?_⟩, J.fv.marked hd ho, J.rn, J.sc, J.cf⟩
  · have := J.k.dn k hk
    exact ⟨nA k (nl k hk) this.1, this.2⟩
  · have := J.k.db k hk
    exact ⟨nA k (bl k hk) this.1, this.2⟩
  · have := J.k.dv k hk
    exact ⟨nA k (vl k hk) this.1, this.2⟩
  · exact ⟨nA kb kl J.k.dk.1, J.k.dk.2⟩
  · rcases Gnd.mark_A hk with d | d
    · exact J.k.dq k d
    · omega
/-- Prev is Base. -/
theorem KJ.olden (J : KJ lo w kb q op S C P n b v N) : KJ lo (w.setCell ⟨kb, 5, none⟩ (.pointer (some ⟨b.g, 0, none⟩))) kb q op S C C n b b N ∧ Only (fun k => k = kb) w (w.setCell ⟨kb, 5, none⟩ (.pointer (some ⟨b.g, 0, none⟩))) := by
  obtain ⟨ho, a1, a2, a3⟩ := J.k.own 5 (.pointer (some ⟨b.g, 0, none⟩))
  exact ⟨⟨⟨J.k.kp.setCell 5 _, a1, a2, a2, J.k.rb, J.k.rb, fun k hk => ⟨(J.k.dn k hk).1, (J.k.dn k hk).2.1, (J.k.dn k hk).2.2.1, (J.k.dn k hk).2.2.1, (J.k.dn k hk).2.2.2.2⟩, J.k.db, J.k.db, J.k.dk, J.k.dq⟩, J.k.fvK J.fv ho (fun k hk e => J.k.dk.1 (by rw [← e]; exact hk)), J.rn, J.sc, J.cf⟩, ho⟩
/-- The steps are noted. -/
theorem KJ.noted (J : KJ lo w kb q op S C P n b v N) (M : Int) : KJ lo (w.setCell ⟨kb, 7, none⟩ (.int .i64 M)) kb q op S C P n b v M ∧ Only (fun k => k = kb) w (w.setCell ⟨kb, 7, none⟩ (.int .i64 M)) := by
  obtain ⟨ho, a1, a2, a3⟩ := J.k.own 7 (.int .i64 M)
  exact ⟨⟨⟨J.k.kp.setCell 7 _, a1, a2, a3, J.k.rb, J.k.rv, J.k.dn, J.k.db, J.k.dv, J.k.dk, J.k.dq⟩, J.k.fvK J.fv ho (fun k hk e => J.k.dk.1 (by rw [← e]; exact hk)), J.rn, J.sc, J.cf⟩, ho⟩
/-- Behind a step of the script. -/
theorem KW.step {q1 q2 : Gnd} {op2 : Bool} {S2 C2 : Vu} {n2 b2 v2 : Gho} {w2 : World} (hb : q1.base = q1.blk) (hr : q1.recs = []) (hs : CutInv q1.blk [] q1.com q1.com) (hc : ComF q1.com C) (lc : q1.com.length = 80) (J : KJ lo w2 kb q2 op2 S2 C2 C n2 b2 v2 (q2.recs.length)) (hq : QS q1 q2) : KW lo w2 kb q2 op2 S2 C2 C n2 b2 v2 q1.com := by
  refine ⟨J, ?_, hc.toS, lc⟩
  rcases hq with rfl | ⟨rs, com, F', rfl, h⟩
  · rw [hb, hr]
    exact hs.wide
  · show CutI q1.base (q1.recs ++ rs) q1.com com
    rw [hb, hr, List.nil_append]
    exact h.wide
/-- Shows of the ghost Now is always true. -/
theorem KJ.shows (J : KJ lo w kb q op S C P n b v N) : Calls Tryz.prog 14 #[.pointer (some ⟨q.f, 0, none⟩), .pointer (some ⟨n.g, 0, none⟩), .bool op] w fun e w' => e = .returned (.bool true) ∧ KJ lo w' kb q op S C P n b v N ∧ Only q.S w w' := by
  refine (shows_any J.fv J.k.gn J.rn J.k.sepN op).mono ?_
  rintro e w' ⟨bx, rfl, hb, A, o⟩
  obtain rfl := hb.mpr ⟨rfl, rfl⟩
  exact ⟨rfl, J.forest o A, o⟩
end
end Go.Proofs.Qxb6500410aGreat
