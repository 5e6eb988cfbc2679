/-
  OWN WORK. QUERY's LAW: what the observers show settles a state just opened; the walk's start (of a script, and behind a cut).
-/
import Derived.Test.Qxb6500412aGreatQL12
namespace Go.Proofs.Qxb6500412aGreat
open Go.RowKit Go.PlainAid
set_option linter.unusedSimpArgs false
set_option linter.unusedVariables false

theorem Obs.mu0 {D E : Db} (hD : DGd D) (hE : DGd E) (h : Obs (Mu0 D) (Mu0 E)) : D = E := by
  obtain ⟨h1, _, _, h4⟩ := h
  have hn : nmsD D = nmsD E := h1
  refine db_ext hD.srt hE.srt (fun nm => ?_)
  have hs := find_nms hn nm
  cases c : findD D nm with
  | none =>
    rw [c] at hs
    cases d : findD E nm with
    | none => rfl
    | some _ => rw [d] at hs; cases hs
  | some t =>
    rw [c] at hs
    obtain ⟨u, hu⟩ := Option.isSome_iff_exists.mp hs.symm
    rw [hu]
    have hm : nm ∈ namesD E := List.mem_map.mpr ⟨u, (findD_mem hu).1, (findD_mem hu).2⟩
    obtain ⟨k1, k2⟩ := h4 nm hm
    have k3 := (k2 0 (by omega) (by omega)).2
    have k1 : scqD D nm = scqD E nm := k1
    unfold scqD at k1
    rw [c, hu] at k1
    have k3 : viQ (Mu0 D) 0 nm = viQ (Mu0 E) 0 nm := k3
    unfold viQ at k3
    have g0 : gdS (0 : Int) := ⟨by omega, by omega⟩
    rw [if_pos g0, if_pos g0] at k3
    have e1 : findD (Mu0 D).com nm = some t := c
    have e2 : findD (Mu0 E).com nm = some u := hu
    have e3 : tabE ((Mu0 D).see (0 : Int).toNat) nm = t := by unfold tabE; rw [show findD ((Mu0 D).see (0 : Int).toNat) nm = some t from c]; rfl
    have e4 : tabE ((Mu0 E).see (0 : Int).toNat) nm = u := by unfold tabE; rw [show findD ((Mu0 E).see (0 : Int).toNat) nm = some u from hu]; rfl
    rw [e1, e2] at k3
    simp only [e3, e4, Prod.mk.injEq, and_true] at k3
    simp only [Scq.mk.injEq] at k1
    obtain ⟨a1, a2, a3, a4, _⟩ := k1
    have hix : t.ix = u.ix := by
      cases x : t.ix <;> cases y : u.ix <;> rw [x, y] at a4 <;> simp [ixI] at a4
      congr 1; omega
    have hpk : t.pk = u.pk := by omega
    cases t
    cases u
    simp only at a1 a2 hpk hix k3
    simp only [Option.some.injEq, Tb.mk.injEq]
    exact ⟨a1, a2, hpk, hix, k3⟩
section
variable {lo : Nat} {w w' w3 w4 w5 wd : World} {p p3 : Gnd} {k g x k3 g3 x3 : Nat} {M N : Mu} {D : Db} {K K3 : Nat → Prop} {last : Int} {k2 q2 : Nat} {H : Nat → Prop} {kb qb : Nat} {Mb : Mu} {Hb E B : Nat → Prop} {kk : Nat} {R : Rs}
theorem ME.dgd (h : ME w k2 q2 N H) : DGd N.com := by
  obtain ⟨Z, hZ, hS, hA⟩ := h.mx.ex
  exact hS.cok.gd
theorem QR.new {ke : Nat} (rx : RX p w g x M (fun b => b = g)) (hh : Has w' ke #[.pointer (some ⟨g, 0, none⟩), .int .i64 0] 71) (hk : w.heap.size ≤ ke) (o : Only (fun _ => False) w w') : QR p w' ke g x M (fun b => b = g) 0 :=
  ⟨rx.quiet o, hh, fun c => by have := rx.Alt.1 _ c; omega, fun c => by have := rx.Alt.2; omega, fun c => by have := (rx.kA g rfl).2.2; have c' : ke = g := c; omega⟩
theorem WQ.start (qr : QR p w3 k g x (Mu0 D) K 0) (cu : CutX p.base p.recs (fun X => ComD X D) (fun X => ComD X D)) (hlo : ∀ b, RSb p x k K b → lo ≤ b) (los : lo ≤ w3.heap.size) (me : ME w4 k2 q2 (Mu0 D) H) (hk2 : w3.heap.size ≤ k2) (hH : ∀ b, H b → w3.heap.size ≤ b) (o4 : Only (fun _ => False) w3 w4) (mb : ME w5 kb qb (Mu0 D) Hb) (hkb : w4.heap.size ≤ kb) (hHb : ∀ b, Hb b → w4.heap.size ≤ b) (o5 : Only (fun _ => False) w4 w5) (hE : ∀ b, E b → ¬ RSb p x k K b ∧ b < w3.heap.size ∧ lo ≤ b) : WQ lo w5 p k g x (Mu0 D) K 0 k2 q2 (Mu0 D) H kb qb (Mu0 D) Hb E := by
  have z4 := o4.size
  have z5 := o5.size
  have rl : ∀ b, RSb p x k K b → b < w3.heap.size := fun b hb => by
    obtain ⟨h1, h2, h3, h4⟩ := qr.lts
    rcases hb with c | c | c | c
    · exact h1 b c
    · rw [c]; exact h2
    · exact h3 b c
    · rw [c]; exact h4
  have mH : ∀ b, H b ∨ b = k2 → w3.heap.size ≤ b := fun b hb => hb.elim (hH b) (fun e => by rw [e]; exact hk2)
  have mHb : ∀ b, Hb b ∨ b = kb → w4.heap.size ≤ b := fun b hb => hb.elim (hHb b) (fun e => by rw [e]; exact hkb)
  refine ⟨(qr.quiet o4).quiet o5, me.quiet o5, mb, cu, ⟨by omega, by omega⟩, fun b hb => ⟨fun c => by have := rl b c; have := mH b hb; omega, by have := mH b hb; omega⟩, fun b hb => ⟨fun c => by have := rl b c; have := mHb b hb; omega, fun c => by have := me.lt b c; have := mHb b hb; omega, by have := mHb b hb; omega⟩, hlo, fun b hb => ?_, by omega⟩
  have e := hE b hb
  exact ⟨e.1, fun c => by have := mH b c; omega, fun c => by have := mHb b c; omega, by omega, e.2.2⟩
/-- New layers turned; the old ones (as they stood at wd) did not. -/
theorem WQ.far {X : Nat → Prop} (hD : WQ lo wd p k g x M K last k2 q2 N H kb qb Mb Hb E) (h : WQ lo w p k g x M K last k2 q2 N H kb qb Mb Hb E) (o : Only X w w') (hX : ∀ b, X b → wd.heap.size ≤ b) : WQ lo w' p k g x M K last k2 q2 N H kb qb Mb Hb E :=
  h.turn o (fun b c d => by have := hX b c; have := hD.rlt b d; omega) (fun b c d => by have := hX b c; have := hD.me.lt b d; omega) (fun b c d => by have := hX b c; have := hD.mb.lt b d; omega)
/-- Other layers in the place of those that were looked at. -/
theorem WQ.swap (hD : WQ lo wd p k g x (Mu0 D) K last k2 q2 (Mu0 D) H kb qb (Mu0 D) Hb E) (h : WQ lo w p k g x (Mu0 D) K last k2 q2 (Mu0 D) H kb qb (Mu0 D) Hb E) (qr : QR p3 w k3 g3 x3 (Mu0 D) K3 0) (cu : CutX p3.base p3.recs (fun X => ComD X D) (fun X => ComD X D)) (hf : ∀ b, RSb p3 x3 k3 K3 b → wd.heap.size ≤ b) : WQ lo w p3 k3 g3 x3 (Mu0 D) K3 0 k2 q2 (Mu0 D) H kb qb (Mu0 D) Hb E := by
  have fr : ∀ b, b < wd.heap.size → ¬ RSb p3 x3 k3 K3 b := fun b hb c => by have := hf b c; omega
  refine ⟨qr, h.me, h.mb, cu, ⟨by omega, by omega⟩, fun b hb => ⟨fr b (hD.me.lt b hb), (h.sm b hb).2⟩, fun b hb => ⟨fr b (hD.mb.lt b hb), (h.sb b hb).2⟩, fun b hb => ?_, fun b hb => ⟨fr b (hD.ex b hb).2.2.2.1, (h.ex b hb).2⟩, h.los⟩
  have := hf b hb
  have := hD.los
  omega
/-- No answer yet. -/
theorem KpQ.new (w : World) : KpQ (w.alloc (.cells #[.int .i64 0, .int .i64 0, .slice none 0 0, .slice none 0 0, .int .i64 0, .int .i64 0, .slice none 0 0, .slice none 0 0] 54)) w.heap.size (Rs.err 0) (fun _ => False) :=
  ⟨none, 0, 0, none, 0, 0, none, 0, 0, none, 0, 0, Has.new w _ _, RsN.none_ rfl rfl, RsN.none_ rfl rfl, RsB.err 0, fun e => e⟩
end
/-- The walk's state, seen from its variables. -/
def LW (w0 : World) (kw kk : Nat) (xv mv bv pv : Value) (w : World) : Prop := ∃ p k g x M K last k2 q2 H kb qb Mb Hb R B, xv = .pointer (some ⟨k, 0, none⟩) ∧ mv = .pointer (some ⟨k2, 0, none⟩) ∧ bv = .pointer (some ⟨kb, 0, none⟩) ∧ pv = .int .i64 last ∧ Has w kw (jbC p.d g) 30 ∧ KpQ w kk R B ∧ WQ w0.heap.size w p k g x M K last k2 q2 M H kb qb Mb Hb (fun b => b = kw ∨ b = kk ∨ B b) ∧ ¬ (kw = kk ∨ B kw) ∧ Only (fun b => w0.heap.size ≤ b) w0 w
end Go.Proofs.Qxb6500412aGreat
