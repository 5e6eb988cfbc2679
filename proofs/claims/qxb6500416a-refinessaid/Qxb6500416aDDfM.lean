/-
  OWN WORK. THE DEFINITIONS: DiffLines.
-/
import Derived.Test.Qxb6500416aDMaM
import Derived.Deep.RegionLaw
namespace Go.Proofs.Qxb6500416a
open Go.RowKit Go.PlainAid
set_option linter.unusedSimpArgs false
set_option linter.unusedVariables false

/-- A hunk in the midst of its making. -/
structure HbI (W1 : World) (H0 gh : Nat) (at0 : Int) (dv nv : Value) (D N : List Str) (ov : Value) (out : List Hk) (wr : World) : Prop where
  h : Has wr gh #[.int .i64 at0, dv, nv] 62
  d : OwnL wr dv D
  n : OwnL wr nv N
  fd : ∀ y, dv.ownBlock = some y ∨ nv.ownBlock = some y → H0 ≤ y
  dn : ∀ y, dv.ownBlock = some y → nv.ownBlock ≠ some y
  gl : H0 ≤ gh
  H : W1.heap.size ≤ H0
  p : ∃ hs, PatO wr ov hs out (fun y => W1.heap.size ≤ y ∧ y < H0) ∧ Dst hs
  ho : Only (fun _ => False) W1 wr
section
variable {W1 : World} {H0 gh : Nat} {at0 : Int} {dv nv : Value} {D N : List Str} {ov : Value} {out : List Hk} {wr w' w1 : World} {v' : Value} {s : Str} {n : Nat}
theorem HbI.quiet (h : HbI W1 H0 gh at0 dv nv D N ov out wr) (ho : Only (fun _ => False) wr w') : HbI W1 H0 gh at0 dv nv D N ov out w' := by
  obtain ⟨hs, hp, hdt⟩ := h.p
  exact ⟨h.h.keep ho (fun h => h), h.d.keep ho (fun _ _ h => h), h.n.keep ho (fun _ _ h => h), h.fd, h.dn, h.gl, h.H, ⟨hs, hp.keep ho (fun _ _ h => h), hdt⟩, h.ho.trans ho (fun _ _ h => h)⟩
theorem lineV_snoc (D : List Str) (s : Str) : lineV D ++ [.string (sb s)] = lineV (D ++ [s]) := by simp [lineV]
theorem HbI.pushD (h : HbI W1 H0 gh at0 dv nv D N ov out wr) (oG : Only (fun y => dv.ownBlock = some y) wr w1) (hown : w1.ownsRow 0 9 1 v' n (lineV D ++ [.string (sb s)])) (hn : n = D.length + 1) (hwhere : ∀ k, v'.ownBlock = some k → dv.ownBlock = some k ∨ k = wr.heap.size + 1) :
    HbI W1 H0 gh at0 v' nv (D ++ [s]) N ov out (w1.setCell ⟨gh, 1, none⟩ v') := by
  obtain ⟨hs, hp, hdt⟩ := h.p
  have hs0 := h.h.lt
  have ngh : ∀ y, dv.ownBlock = some y → y ≠ gh := ownsRow_ne h.d.row h.h (by decide)
  have hh := h.h.keep oG (fun e => ngh gh e rfl)
  have oS := donly1 (w := w1) (p := gh) 1 v'
  subst hn
  rw [lineV_snoc] at hown
  have hown' : OwnL w1 v' (D ++ [s]) := OwnL.of (by rw [List.length_append]; exact hown)
  have nlt := ownsRow_lt h.n.row
  refine ⟨by simpa using hh.setCell 1 v', hown'.keep oS (fun y hy ey => ownsRow_ne hown'.row hh (by decide) y hy ey), ?_, ?_, ?_, h.gl, h.H, ⟨hs, ?_, hdt⟩, ?_⟩
  · exact (h.n.keep oG (fun y hy e => h.dn y e hy)).keep oS (fun y hy ey => ownsRow_ne h.n.row h.h (by decide) y hy ey)
  · intro y hy
    rcases hy with hy | hy
    · rcases hwhere y hy with e | e
      · exact h.fd y (.inl e)
      · have := h.gl; omega
    · exact h.fd y (.inr hy)
  · intro y hy hy'
    have := nlt y hy'
    rcases hwhere y hy with e | e
    · exact h.dn y e hy'
    · omega
  · have g1 := hp.keep oG (fun y hy e => by have := h.fd y (.inl e); omega)
    exact g1.keep oS (fun y hy e => by have := h.gl; omega)
  · refine (h.ho.trans oG (fun y hy e => ?_)).trans oS (fun y hy e => ?_)
    · have := h.fd y (.inl e); have := h.H; omega
    · have := h.gl; have := h.H; omega
theorem HbI.pushN (h : HbI W1 H0 gh at0 dv nv D N ov out wr) (oG : Only (fun y => nv.ownBlock = some y) wr w1) (hown : w1.ownsRow 0 9 1 v' n (lineV N ++ [.string (sb s)])) (hn : n = N.length + 1) (hwhere : ∀ k, v'.ownBlock = some k → nv.ownBlock = some k ∨ k = wr.heap.size + 1) :
    HbI W1 H0 gh at0 dv v' D (N ++ [s]) ov out (w1.setCell ⟨gh, 2, none⟩ v') := by
  obtain ⟨hs, hp, hdt⟩ := h.p
  have hs0 := h.h.lt
  have ngh : ∀ y, nv.ownBlock = some y → y ≠ gh := ownsRow_ne h.n.row h.h (by decide)
  have hh := h.h.keep oG (fun e => ngh gh e rfl)
  have oS := donly1 (w := w1) (p := gh) 2 v'
  subst hn
  rw [lineV_snoc] at hown
  have hown' : OwnL w1 v' (N ++ [s]) := OwnL.of (by rw [List.length_append]; exact hown)
  have dlt := ownsRow_lt h.d.row
  refine ⟨by simpa using hh.setCell 2 v', ?_, hown'.keep oS (fun y hy ey => ownsRow_ne hown'.row hh (by decide) y hy ey), ?_, ?_, h.gl, h.H, ⟨hs, ?_, hdt⟩, ?_⟩
  · exact (h.d.keep oG (fun y hy e => h.dn y hy e)).keep oS (fun y hy ey => ownsRow_ne h.d.row h.h (by decide) y hy ey)
  · intro y hy
    rcases hy with hy | hy
    · exact h.fd y (.inl hy)
    · rcases hwhere y hy with e | e
      · exact h.fd y (.inr e)
      · have := h.gl; omega
  · intro y hy hy'
    have := dlt y hy
    rcases hwhere y hy' with e | e
    · exact h.dn y hy e
    · omega
  · have g1 := hp.keep oG (fun y hy e => by have := h.fd y (.inr e); omega)
    exact g1.keep oS (fun y hy e => by have := h.gl; omega)
  · refine (h.ho.trans oG (fun y hy e => ?_)).trans oS (fun y hy e => ?_)
    · have := h.fd y (.inr e); have := h.H; omega
    · have := h.gl; have := h.H; omega
theorem HbI.start (hP : PI W1 ov out wr) (at0 : Int) : HbI W1 wr.heap.size wr.heap.size at0 (.slice none 0 0) (.slice none 0 0) [] [] ov out (wr.alloc (.cells #[.int .i64 at0, .slice none 0 0, .slice none 0 0] 62)) := by
  obtain ⟨⟨hs, hp, hdt⟩, ho⟩ := hP
  refine ⟨Has.new wr _ _, OwnL.nil _, OwnL.nil _, fun y hy => by simp [Value.ownBlock] at hy, fun y hy => by simp [Value.ownBlock] at hy, Nat.le_refl _, ho.size, ⟨hs, ?_, hdt⟩, ho.alloc _⟩
  exact (hp.mono (G' := fun y => W1.heap.size ≤ y ∧ y < wr.heap.size) (fun y hy hg => ⟨hg, hy⟩)).keep ((Only.refl (fun _ => False) wr).alloc _) (fun _ _ h => h)
theorem HbI.fin {o : Obj} {hs : List HV} (h : HbI W1 H0 gh at0 dv nv D N ov out wr) (hp : PatO wr ov hs out (fun y => W1.heap.size ≤ y ∧ y < H0)) (hdt : Dst hs) (hown : w'.ownsRow 0 62 3 v' n (hvCells hs ++ [.int .i64 at0, dv, nv])) (hn : n = hs.length + 1)
    (hgrow : (wr.alloc o).grownBy w' ov.ownBlock) (hwhere : ∀ k, v'.ownBlock = some k → ov.ownBlock = some k ∨ k = wr.heap.size + 1) : PI W1 v' (out ++ [⟨at0, D, N⟩]) w' :=
  PI.push (h := ⟨at0, dv, nv⟩) (hp.mono (fun y _ hg => hg.1)) (hdt.snoc (fun y hy hm => by have := h.fd y (.inl hy); have := (hp.2.1.blk y hm).1.2; omega) (fun y hy hm => by have := h.fd y (.inr hy); have := (hp.2.1.blk y hm).1.2; omega) h.dn) h.ho ⟨rfl, h.d, h.n, fun y hy => by have := h.fd y hy; have := h.H; omega⟩ hown hn hgrow hwhere
end
end Go.Proofs.Qxb6500416a
