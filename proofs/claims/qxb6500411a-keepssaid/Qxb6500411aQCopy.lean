/-
  OWN WORK. THE PAGER LAW's BOOK: NewBook, CopyBook.
-/
import Derived.Test.Qxb6500411aQBook
namespace Go.Proofs.Qxb6500411a
open Go.RowKit
set_option linter.unusedSimpArgs false
set_option linter.unusedVariables false

theorem Has.setRow {w : World} {k : Nat} {c : Array Value} {t : TypeId} (h : Has w k c t) (d : Array Value) : Has (w.setRow k d) k d t := by
  have h' : w.heap[k]? = some (.cells c t) := h
  show (w.setRow k d).heap[k]? = some (.cells d t)
  unfold World.setRow
  simp [Array.getElem?_modify, h']
theorem Only.setRow {S : Nat → Prop} {a w : World} (h : Only S a w) {k : Nat} (hk : k < a.heap.size → S k) (d : Array Value) : Only S a (w.setRow k d) := by
  refine ⟨h.os, h.tape, h.output, ?_, ?_⟩
  · have := h.size
    unfold World.setRow
    simpa using this
  · intro i hi hS
    have hne : k ≠ i := fun e => hS (by subst e; exact hk hi)
    have := h.block i hi hS
    unfold World.setRow
    simp only [Array.getElem?_modify, if_neg hne]
    exact this

theorem run_copy_bools_at (w : World) (b c : Nat) (xs ys : List Bool) (hb : Has w b (bools ys) 4) (hc : Has w c (bools xs) 4) (hl : xs.length = ys.length) (ty : TypeId) (n : Nat) (hn : xs.length = n) :
    (Builtin.copy_ #[48, 48] ty #[.slice (some ⟨b, 0, none⟩) n n, .slice (some ⟨c, 0, none⟩) n n]).run Try.prog w = .ok (goInt n) (w.setRow b (bools xs)) := by
  subst hn
  obtain ⟨i, hi, hz, hs, hbb⟩ := info_parts Try.infoBool
  have h := run_copy_row (P := Try.prog) w 48 48 ty 4 b 0 xs.length xs.length ⟨c, 0, none⟩ xs.length xs.length (bools ys) 4 (xs.map Value.bool)
    Try.underlying48 (by rw [hi]; simp [hs]) hb (by simp) ?_ (by simp [hl]) ?_
  · rw [h]
    simp [bools, hl]
    rw [List.drop_of_length_le (by simp), List.append_nil]
  · intro j v hv
    rw [addr_add, hc.cell]
    simpa [bools] using hv
  · intro v hv
    simp only [List.mem_map] at hv
    obtain ⟨a, _, rfl⟩ := hv
    rfl
theorem run_copy_strs_at (w : World) (b c : Nat) (xs ys : List ByteArray) (hb : Has w b (strs ys) 61) (hc : Has w c (strs xs) 61) (hl : xs.length = ys.length) (ty : TypeId) (n : Nat) (hn : xs.length = n) :
    (Builtin.copy_ #[49, 49] ty #[.slice (some ⟨b, 0, none⟩) n n, .slice (some ⟨c, 0, none⟩) n n]).run Try.prog w = .ok (goInt n) (w.setRow b (strs xs)) := by
  subst hn
  obtain ⟨i, hi, hz, hs, hbb⟩ := info_parts Try.infoBlock
  have h := run_copy_row (P := Try.prog) w 49 49 ty 61 b 0 xs.length xs.length ⟨c, 0, none⟩ xs.length xs.length (strs ys) 61 (xs.map Value.string)
    Try.underlying49 (by rw [hi]; simp [hs]) hb (by simp) ?_ (by simp [hl]) ?_
  · rw [h]
    simp [strs, hl]
    rw [List.drop_of_length_le (by simp), List.append_nil]
  · intro j v hv
    rw [addr_add, hc.cell]
    simpa [strs] using hv
  · intro v hv
    simp only [List.mem_map] at hv
    obtain ⟨a, _, rfl⟩ := hv
    rfl

set_option maxRecDepth 100000 in
theorem newBook_any (w : World) :
    Calls Try.prog 8 #[] w fun e w' => e = .returned (.pointer (some ⟨w.heap.size, 0, none⟩)) ∧ BookAt w' w.heap.size (nots 72) (empties 72) (Ext (fun _ => False) w w') ∧ Only (fun _ => False) w w' := by
  have hm1 : ∀ w, (Instr.makeSlice 48 (.int .i64 72) (.int .i64 72)).run Try.prog w = .ok (.slice (some ⟨w.heap.size, 0, none⟩) 72 72) (w.alloc (.cells (bools (nots 72)) 4)) := fun w => run_make_bools w 72 (by omega)
  have hm2 : ∀ w, (Instr.makeSlice 49 (.int .i64 72) (.int .i64 72)).run Try.prog w = .ok (.slice (some ⟨w.heap.size, 0, none⟩) 72 72) (w.alloc (.cells (strs (empties 72)) 61)) := fun w => run_make_strs w 72 (by omega)
  go_enter Try.func8, Try.ntmps8
  go_wp2
  go_ret
  refine ⟨rfl, ⟨⟨w.heap.size + 1, w.heap.size + 1 + 1, ((Has.new _ _ _).alloc _).alloc _, ?_, ?_, .inr ?_, .inr ?_, .inr ?_⟩, by simp, by simp, ?_⟩, (((Only.refl _ w).alloc _).alloc _).alloc _⟩
  · exact Has.alloc (Has.new' _ _ _ _ (by simp)) _
  · exact Has.new' _ _ _ _ (by simp)
  · first | (simp; done) | (simp; omega)
  · first | (simp; done) | (simp; omega)
  · first | (simp; done) | (simp; omega)
  · exact Ext.in (fun _ h => h.elim) (by simp; omega)

set_option maxRecDepth 100000 in
set_option maxHeartbeats 1000000 in
theorem copyBook_any {w : World} {g : Nat} {used : List Bool} {pg : List ByteArray} {F : Nat → Prop} (h : BookAt w g used pg F) :
    Calls Try.prog 14 #[.pointer (some ⟨g, 0, none⟩)] w fun e w' => e = .returned (.pointer (some ⟨w.heap.size, 0, none⟩)) ∧ BookAt w' w.heap.size used pg (Ext (fun _ => False) w w') ∧ Only (fun _ => False) w w' := by
  go_enter Try.func14, Try.ntmps14
  go_wp2_with fail
  refine (newBook_any w).mono ?_
  rintro e w1 ⟨rfl, h1, ho1⟩
  have hB := h.keep ho1 (fun _ _ h => h)
  obtain ⟨⟨b0, b1, g1, g2, g3, f, f0, f1⟩, lu, lp, hi⟩ := hB
  obtain ⟨⟨c0, c1, k1, k2, k3, e, e0, e1⟩, lu', lp', hi'⟩ := h1
  have hgi := h.inn
  have ne0 : c0 ≠ b0 := fun h => by subst h; have := hgi _ f0; rcases e0 with e0 | e0; exact e0; omega
  have ne1 : c1 ≠ b1 := fun h => by subst h; have := hgi _ f1; rcases e1 with e1 | e1; exact e1; omega
  have l0 : w.heap.size ≤ c0 := by rcases e0 with e0 | e0; exact e0.elim; exact e0.1
  have l1 : w.heap.size ≤ c1 := by rcases e1 with e1 | e1; exact e1.elim; exact e1.1
  have q0 := g1.cell 0
  have q1 := k1.cell 0
  have cp1 := fun ty => run_copy_bools_at w1.drew c0 b0 used (nots 72) k2.drew g2.drew (by simpa using lu) ty 72 lu
  have o2 : Only (fun k => k = c0) w1 (w1.drew.setRow c0 (bools used)) := (Only.refl (fun k => k = c0) w1).drew.setRow (fun _ => rfl) _
  have hgl := hgi _ f
  have hb1l := hgi _ f1
  have G1 := g1.keep o2 (fun e => by omega)
  have G3 := g3.keep o2 (fun e => by omega)
  have K1 := k1.keep o2 (k1.ne k2 (by decide))
  have K3 := k3.keep o2 (k3.ne k2 (by decide))
  have K2 := k2.drew.setRow (bools used)
  go_wp2_with fail
  go_region
  go_wp2_with fail
  generalize w1.drew.setRow c0 (bools used) = w2 at *
  clear q0 q1 cp1
  have q0 := G1.cell 1
  have q1 := K1.cell 1
  have cp2 := fun ty => run_copy_strs_at w2.drew c1 b1 pg (empties 72) K3.drew G3.drew (by simpa using lp) ty 72 lp
  have o3 : Only (fun k => k = c1) w2 (w2.drew.setRow c1 (strs pg)) := (Only.refl (fun k => k = c1) w2).drew.setRow (fun _ => rfl) _
  have M1 := K1.keep o3 (K1.ne K3 (by decide))
  have M2 := K2.keep o3 (K2.ne K3 (by decide))
  have M3 := K3.drew.setRow (strs pg)
  have oall : Only (fun _ => False) w (w2.drew.setRow c1 (strs pg)) := (ho1.trans o2 (fun i hi e => by omega)).trans o3 (fun i hi e => by omega)
  have s2 := o2.size
  have s3 := o3.size
  go_region
  go_wp2_with fail
  go_ret
  have up : ∀ k, Ext (fun _ => False) w w1 k → Ext (fun _ => False) w (w2.drew.setRow c1 (strs pg)) k := by
    intro k hk; rcases hk with hk | hk
    · exact hk.elim
    · exact .inr ⟨hk.1, by omega⟩
  exact ⟨rfl, ⟨⟨c0, c1, M1, M2, M3, up _ e, up _ e0, up _ e1⟩, lu, lp, Ext.in (fun _ h => h.elim) oall.size⟩, oall⟩
end Go.Proofs.Qxb6500411a
