/-
  OWN WORK. THE LAW OF DIFF: Tweak, the first Del line goes.
-/
import Derived.Test.Qxb6500416aDL18
namespace Go.Proofs.Qxb6500416a
open Go.RowKit Go.PlainAid
set_option linter.unusedSimpArgs false
set_option linter.unusedVariables false

set_option maxRecDepth 100000 in
theorem copyLinesS_any {w : World} (v : Value) (l : List Str) (h : LnS w v l) (hl : l.length ≤ 100000) :
    Calls Try.prog 24 #[v] w fun e w' => ∃ g, e = .returned (.slice (some ⟨g, 0, none⟩) l.length l.length) ∧ OwnL w' (.slice (some ⟨g, 0, none⟩) l.length l.length) l ∧ Only (fun _ => False) w w' ∧ w.heap.size ≤ g ∧ g < w'.heap.size := by
  obtain ⟨a, cap, rfl, hc⟩ := h
  have hm := drun_make_strs w l.length (by omega)
  have hcp := drun_copy_strs w l.length a cap l rfl hc
  have HR := hide (And.intro (lineV_own w l l.length rfl (by omega)) (And.intro ((Only.refl (fun _ => False) w).alloc (.cells (lineV l).toArray 9)) (show w.heap.size < (w.alloc (.cells (lineV l).toArray 9)).heap.size by simp)))
  clear hc
  go_enter Try.func24, Try.ntmps24
  go_wp2_with fail
  go_ret
  exact ⟨_, rfl, (unhide HR).1, (unhide HR).2.1, Nat.le_refl _, (unhide HR).2.2⟩
section
variable {B : Nat} {w w' : World} {l e g cap : Nat} {mp pv r0 r1 k0 k1 k2 k3 : Value} {tx : ByteArray} {hs : List HV} {p : List Hk} {A0 A1 : List Fl} {L : List Str} {F R M : Nat → Prop}
/-- A new block joins the registers. -/
theorem LS.grow (h : LS B w l e mp pv r0 r1 k0 k1 k2 k3 tx hs p A0 A1 L F R M) (ho : Only (fun _ => False) w w') (q : Nat) (h1 : w.heap.size ≤ q) (h2 : q < w'.heap.size) : LS B w' l e mp pv r0 r1 k0 k1 k2 k3 tx hs p A0 A1 L F (fun y => R y ∨ y = q) M :=
  h.regs (Has.keep h.lw ho (fun h => h)) ((h.pat.keep ho (fun _ _ h => h)).mono (fun y _ hy => .inl hy)) h.dst h.pb (ownsRow_keep h.f0 ho (fun _ _ h => h)) (ownsRow_keep h.f1 ho (fun _ _ h => h)) h.n0 h.n1 (fun y hy => .inl (h.rf y hy)) h.r01 ho (fun y hy => hy.elim) (fun y hy => by
    rcases hy with hy | hy
    · exact .inl hy
    · subst hy; exact .inr ⟨h1, h2⟩)
/-- Del of hunk a becomes a new list. -/
theorem LS.newDel {n0 : Nat} (h : LS B w l e mp (.slice (some ⟨g, 0, none⟩) n0 cap) r0 r1 k0 k1 k2 k3 tx hs p A0 A1 L F R M) (a : Nat) (ha : a < p.length) (q n c : Nat) (D : List Str) (ho : Only (fun _ => False) w w') (hq : w.heap.size ≤ q) (hq' : q < w'.heap.size) (hv : OwnL w' (.slice (some ⟨q, 0, none⟩) n c) D) (hD : D.length ≤ 2049) (hS : ∀ x ∈ D, x.length ≤ 9223372036854775807) : LI B (w'.setCell ⟨g, a * 3 + 1, none⟩ (.slice (some ⟨q, 0, none⟩) n c)) l := by
  have has : a < hs.length := by have := h.pat.len; omega
  have h1 := h.grow ho q hq hq'
  have hk := h.pb.all p[a] (List.getElem_mem ha)
  have hd := h.dst
  have hq2 : some q ∉ hvB hs := fun hm => by have := (h.pat.2.1.blk q hm).2; omega
  have P := h1.pat.set1 a ha has (.slice (some ⟨q, 0, none⟩) n c) D hv (fun y hy => by simp [Value.ownBlock] at hy; exact .inr hy.symm)
  refine (h1.row P (hd.set a has _ ?_ ?_) (h.pb.set a ⟨hD, hk.ins, hS, hk.si, hk.lo, hk.hi⟩)).li
  · intro y hy hy'
    simp [Value.ownBlock] at hy
    subst hy
    apply hq2
    have e := self_parts hs a has
    rw [e, hvB_app, hvB_cons]
    have hy2 : hs[a].iv.ownBlock = some q := hy'
    rw [hy2]
    simp
  · intro y hy
    rcases hy with hy | hy
    · simp [Value.ownBlock] at hy
      subst hy
      exact .inr (.inr hq2)
    · exact .inr (.inl hy)
end
end Go.Proofs.Qxb6500416a
