/-
  OWN WORK. THE TABLE LAW: the walk's state through a cut.
-/
import Derived.Test.Qxb6500413aGreatYK0
namespace Go.Proofs.Qxb6500413aGreat
open Go.RowKit Go.PlainAid
set_option linter.unusedSimpArgs false
set_option linter.unusedVariables false

section
variable {lo : Nat} {w0 w w1 w2 : World} {K : Nat → Prop} {q q' : Gnd} {x z zb : Nat} {op op' : Bool} {S C : Vu} {T TC : List (Tb × Hd)} {U PD : Db} {hist : Option Db} {H Hb : Nat → Prop}
/-- Where a cut falls. -/
theorem YLs.pick (L : YLs lo w0 K q x z zb op S C T TC U PD hist H Hb w) (a : Int) : ∃ X D, X.length = 80 ∧ Shows (recov (replay q.base (q.recs.take a.toNat))) X ∧ ComD X D ∧ (D = PD ∨ D = dbOf TC) ∧ (a ≤ 0 → D = PD) ∧ ((q.recs.length : Int) ≤ a → D = dbOf TC) := by
  obtain ⟨X, lX, hX, hor, h0, h1⟩ := L.cu.pick a.toNat
  by_cases hP : ComD X PD
  · refine ⟨X, PD, lX, hX, hP, .inl rfl, fun _ => rfl, fun h => hP.uniq (h1 (by omega))⟩
  · have hQ : ComD X (dbOf TC) := hor.resolve_left hP
    exact ⟨X, dbOf TC, lX, hX, hQ, .inr rfl, fun h => absurd (h0 (by omega)) hP, fun _ => rfl⟩
/-- Another store, opened since over another ground, that shows the same. -/
theorem YLs.swap {q2 : Gnd} {x2 : Nat} {S2 S1 : Vu} {T2 T1 : List (Tb × Hd)} {D : Db} (L : YLs lo w0 K q x z zb false S1 S1 T1 T1 (dbOf T1) (dbOf T1) none H Hb w) (L2 : YLs lo w0 K q x z zb false S1 S1 T1 T1 (dbOf T1) (dbOf T1) none H Hb w2) (st : ST q2 w2 x2 false S2) (la : Lay S2 T2) (cf : ComF q2.com S2) (cu : CutX q2.base q2.recs (fun X => ComD X D) (fun X => ComD X D)) (hD : dbOf T2 = dbOf T1) (hDD : D = dbOf T1) (nA : ∀ k, q2.A k → w.heap.size ≤ k) (nx : w.heap.size ≤ x2) : YLs lo w0 K q2 x2 z zb false S2 S2 T2 T2 (dbOf T2) (dbOf T2) none H Hb w2 := by
  obtain ⟨Sb, opb, Zb⟩ := L.b
  have hlo := L.low
  subst hDD
  obtain ⟨Sb2, opb2, Zb2⟩ := L2.b
  refine ⟨⟨st, la, by rw [hD]; exact L2.j.za, cf, la, fun k hk => ⟨fun c => by have := nA k c; have := L.j.za.inn k hk; omega, by have := L.j.za.inn k hk; omega, (L.j.sp k hk).2.2⟩, fun k hk => by have := nA k hk; omega, by omega, .inl ⟨rfl, rfl⟩⟩, ⟨Sb2, opb2, by rw [hD]; exact Zb2⟩, fun k hk => ⟨fun c => by have := nA k c; have := Zb.inn k hk; omega, (L.bs k hk).2.1, by have := Zb.inn k hk; omega, (L.bs k hk).2.2.2⟩, fun k hk => ⟨fun c => by have := nA k c; have := (L.kp k hk).2.2.2.2.2; omega, (L2.kp k hk).2.1, (L2.kp k hk).2.2.1, by have := (L.kp k hk).2.2.2.2.2; omega, (L2.kp k hk).2.2.2.2⟩, by rw [hD]; exact cu, L2.o⟩
end
end Go.Proofs.Qxb6500413aGreat
