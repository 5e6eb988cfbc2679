/-
  OWN WORK. THE OBJECT LAW's WALK: its parts.
-/
import Derived.Test.Qxb6500419aOL4
namespace Go.Proofs.Qxb6500419a
open Go.RowKit
set_option linter.unusedSimpArgs false
set_option linter.unusedVariables false

theorem newO {w w' : World} {k : Nat} (h : Ext (fun _ => False) w w' k) : w.heap.size ≤ k ∧ k < w'.heap.size := by
  rcases h with h | h
  · exact h.elim
  · exact h

/-- What holds at every round's head. -/
structure OVI (w : World) (vb s m mb : Nat) (wr : World) : Prop where
  ex : ∃ d D B recs ob rt hist F H ob0 rt0 G, OJ wr s d m D B recs ob rt hist F H ∧ (∃ hist0, MAt wr mb ob0 rt0 hist0 G) ∧ D = replayB B recs ∧ (∀ kk, kk < recs.length → Img (replayB B (recs.take kk)) rt0 (per ob0)) ∧ Img B rt0 (per ob0) ∧ (recs = [] → per ob = per ob0 ∧ rt = rt0) ∧ (∀ r ∈ recs, r.1 < 145) ∧ recs.length ≤ 3 ∧
    Has wr vb #[.pointer (some ⟨d, 0, none⟩)] 29 ∧ (∀ x, F x ∨ H x ∨ G x ∨ x = s → w.heap.size ≤ x ∧ x ≠ vb) ∧ (∀ x, G x → ¬ (F x ∨ H x ∨ x = s))
  bel : Below w.heap.size w wr
  vb : w.heap.size ≤ vb

theorem OVI.keep {w : World} {vb s m mb : Nat} {wr w' : World} (h : OVI w vb s m mb wr) (ho : Only (fun _ => False) wr w') : OVI w vb s m mb w' := by
  obtain ⟨⟨d, D, B, recs, ob, rt, hist, F, H, ob0, rt0, G, j, ⟨hist0, hb⟩, h1, h2, h3, h4, h5, h6, h7, h8, h9⟩, hbel, hvb⟩ := h
  exact ⟨⟨d, D, B, recs, ob, rt, hist, F, H, ob0, rt0, G, j.quiet ho, ⟨hist0, hb.quiet ho⟩, h1, h2, h3, h4, h5, h6, h7.keep ho (fun h => h), h8, h9⟩, Only.bel hbel ho (fun _ h => h.elim), hvb⟩

/-- What the cut found, and must still be there behind it. -/
structure OVK (vb top d : Nat) (D B : Nat → Nat) (recs : List Rec) (F : Nat → Prop) (m : Nat) (ob : Nat → Ob) (rt : Nat) (H : Nat → Prop) (mb : Nat) (ob0 : Nat → Ob) (rt0 : Nat) (G : Nat → Prop) (b0 ko : Nat) (oc : Array Value) (w0 w : World) : Prop where
  dk : DevAt w d D B recs F
  md : ∃ hist, MAt w m ob rt hist H
  mb : ∃ hist, MAt w mb ob0 rt0 hist G
  kb : Has w b0 #[.pointer (some ⟨d, 0, none⟩)] 29
  kop : Has w ko oc 38
  lt : ∀ k, F k ∨ H k ∨ G k ∨ k = b0 ∨ k = ko → k < top ∧ k ≠ vb
  bel : Below w0.heap.size w0 w
  h0 : w0.heap.size ≤ top ∧ w0.heap.size ≤ vb
  le : top ≤ w.heap.size

section
variable {vb top d : Nat} {D B : Nat → Nat} {recs : List Rec} {F : Nat → Prop} {m : Nat} {ob : Nat → Ob} {rt : Nat} {H : Nat → Prop} {mb : Nat} {ob0 : Nat → Ob} {rt0 : Nat} {G : Nat → Prop} {b0 ko : Nat} {oc : Array Value} {w0 w : World}
theorem OVK.keep {S : Nat → Prop} {w' : World} (h : OVK vb top d D B recs F m ob rt H mb ob0 rt0 G b0 ko oc w0 w) (ho : Only S w w') (hS : ∀ k, S k → top ≤ k ∨ k = vb) : OVK vb top d D B recs F m ob rt H mb ob0 rt0 G b0 ko oc w0 w' := by
  have off : ∀ k, F k ∨ H k ∨ G k ∨ k = b0 ∨ k = ko → ¬ S k := fun k hk hs => by
    have := h.lt k hk
    rcases hS k hs with h | h <;> omega
  have h0 := h.h0
  obtain ⟨hist, hm⟩ := h.md
  obtain ⟨hist0, hb⟩ := h.mb
  exact ⟨h.dk.keep ho (fun k hk => off k (.inl hk)), ⟨hist, hm.keep ho (fun k hk => off k (.inr (.inl hk)))⟩, ⟨hist0, hb.keep ho (fun k hk => off k (.inr (.inr (.inl hk))))⟩, h.kb.keep ho (off _ (.inr (.inr (.inr (.inl rfl))))), h.kop.keep ho (off _ (.inr (.inr (.inr (.inr rfl))))), h.lt,
    Only.bel h.bel ho (fun k hk => by rcases hS k hk with h | h <;> omega), h.h0, Nat.le_trans h.le ho.size⟩
theorem OVK.quiet {w' : World} (h : OVK vb top d D B recs F m ob rt H mb ob0 rt0 G b0 ko oc w0 w) (ho : Only (fun _ => False) w w') : OVK vb top d D B recs F m ob rt H mb ob0 rt0 G b0 ko oc w0 w' := h.keep ho (fun _ h => h.elim)
end

/-- The layer opened over a cut image. -/
structure OVN (vb lo hi s d : Nat) (D0 : Nat → Nat) (po : Nat → Ob) (rt : Nat) (F : Nat → Prop) (w : World) : Prop where
  os : OS w s d D0 D0 [] po rt F
  kv : Has w vb #[.pointer (some ⟨d, 0, none⟩)] 29
  rg : ∀ k, F k ∨ k = s → lo ≤ k ∧ k < hi ∧ k ≠ vb
  vh : vb < hi
  le : hi ≤ w.heap.size

section
variable {vb lo hi s d : Nat} {D0 : Nat → Nat} {po : Nat → Ob} {rt : Nat} {F : Nat → Prop} {w : World}
theorem OVN.keep {S : Nat → Prop} {w' : World} (h : OVN vb lo hi s d D0 po rt F w) (ho : Only S w w') (hS : ∀ k, S k → hi ≤ k) : OVN vb lo hi s d D0 po rt F w' := by
  have hv := h.vh
  refine ⟨h.os.keep ho (fun hs => ?_) (fun k hk hs => ?_), h.kv.keep ho (fun hs => ?_), h.rg, h.vh, Nat.le_trans h.le ho.size⟩
  · have := hS _ hs; have := h.rg s (.inr rfl); omega
  · have := hS k hs; have := h.rg k (.inl hk); omega
  · have := hS _ hs; omega
theorem OVN.quiet {w' : World} (h : OVN vb lo hi s d D0 po rt F w) (ho : Only (fun _ => False) w w') : OVN vb lo hi s d D0 po rt F w' := h.keep ho (fun _ h => h.elim)

/-- Two models of the table behind the recovery, and the layer: the round's end. -/
theorem OVN.fin {w0 : World} {m mb : Nat} {hist hist0 : Value} {H G : Nat → Prop} (h : OVN vb lo hi s d D0 po rt F w) (hm : MAt w m po rt hist H) (hb : MAt w mb po rt hist0 G) (hlo : w0.heap.size ≤ lo) (hbel : Below w0.heap.size w0 w) (hvb : w0.heap.size ≤ vb)
    (hH : ∀ k, H k → w0.heap.size ≤ k ∧ k ≠ vb ∧ ¬ (F k ∨ k = s)) (hG : ∀ k, G k → w0.heap.size ≤ k ∧ k ≠ vb ∧ ¬ (F k ∨ k = s) ∧ ¬ H k) : OVI w0 vb s m mb w := by
  refine ⟨⟨d, D0, D0, [], po, rt, hist, F, H, po, rt, G, ⟨h.os, hm, fun k hk => (hH k hk).2.2⟩, ⟨hist0, hb⟩, rfl, fun kk hk => by simp at hk, h.os.img, fun _ => ⟨rfl, rfl⟩, fun r hr => by simp at hr, by simp, h.kv, ?_, ?_⟩, hbel, hvb⟩
  · rintro x (hx | hx | hx | hx)
    · have := h.rg x (.inl hx); omega
    · have := hH x hx; omega
    · have := hG x hx; omega
    · have := h.rg x (.inr hx); omega
  · rintro k hk (e | e | e)
    · exact (hG k hk).2.2.1 (.inl e)
    · exact (hG k hk).2.2.2 e
    · exact (hG k hk).2.2.1 (.inr e)
end

/-- The zero device shows the empty table. -/
theorem img_zero : Img (fun _ => 0) 0 (fun _ => Ob.free) := by
  refine ⟨fun _ _ => .inl rfl, fun _ _ _ => rfl, fun _ _ h => by simp [Ob.free] at h, fun _ _ => List.nodup_nil, fun _ _ _ _ _ b hb => by simp [Ob.free] at hb, ⟨rfl, by omega, fun h => absurd rfl h, fun i hi => ?_, fun _ _ _ => rfl⟩, ?_⟩
  · rw [if_neg (by simp [last_free])]
  · intro i j _ _ h1; simp [live_free] at h1
theorem per_free : per (fun _ => Ob.free) = fun _ => Ob.free := rfl
theorem Img.idle {D : Nat → Nat} {rt : Nat} {ob : Nat → Ob} (h : Img D rt (per ob)) : (∀ i, In i → (per ob i).st = 0 ∨ (per ob i).st = 2) ∧ (∀ i, In i → (per ob i).st = 0 → (per ob i).kd = 0 ∧ (per ob i).dat = []) :=
  ⟨h.st, fun i hi h0 => by rw [h.free i hi h0]; exact ⟨rfl, rfl⟩⟩
theorem Same3.cnt {ob ob' : Nat → Ob} (h : Same3 ob ob') : cntF ob = cntF ob' := by
  unfold cntF
  apply cntTo_congr
  intro i hi
  unfold isFree
  by_cases h0 : i = 0
  · subst h0; rfl
  · rw [(h i ⟨by omega, by omega⟩).1]
end Go.Proofs.Qxb6500419a
