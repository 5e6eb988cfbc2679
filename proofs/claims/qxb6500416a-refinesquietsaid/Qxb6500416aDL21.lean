/-
  OWN WORK. THE LAW OF DIFF: a line is appended to a list of a patch.
-/
import Derived.Test.Qxb6500416aDL20
namespace Go.Proofs.Qxb6500416a
open Go.RowKit Go.PlainAid
set_option linter.unusedSimpArgs false
set_option linter.unusedVariables false

theorem HvOk.swap {S : Nat → Prop} {w w' : World} {G : Nat → Prop} (ho : Only S w w') {hv : HV} {kv : Hk} (h1 : HvOk1 w' G hv kv) : ∀ {hs : List HV} {ks : List Hk} (i : Nat), HvOk w G hs ks → i < hs.length → (∀ y, some y ∈ hvB (hs.take i) ∨ some y ∈ hvB (hs.drop (i + 1)) → ¬ S y) → HvOk w' G (hs.set i hv) (ks.set i kv)
  | [], [], i, _, hi, _ => by simp at hi
  | h :: hs, k :: ks, 0, hh, _, hS => ⟨h1, HvOk.keepB ho hh.2 (fun y hy => hS y (.inr (by simpa using hy)))⟩
  | h :: hs, k :: ks, i + 1, hh, hi, hS => by
    have m : ∀ y, (h.dv.ownBlock = some y ∨ h.iv.ownBlock = some y) → ¬ S y := fun y hy => hS y (.inl (by
      rw [List.take_succ_cons, hvB_cons]
      rcases hy with e | e
      · simp [e]
      · simp [e]))
    exact ⟨⟨hh.1.at_, hh.1.del.keep ho (fun y hy => m y (.inl hy)), hh.1.ins.keep ho (fun y hy => m y (.inr hy)), hh.1.inn⟩, HvOk.swap ho h1 i hh.2 (by simpa using hi) (fun y hy => hS y (by
      rcases hy with e | e
      · refine .inl ?_
        rw [List.take_succ_cons, hvB_cons]
        simp [e]
      · exact .inr (by simpa using e)))⟩
  | [], k :: ks, _, hh, _, _ => hh.elim
  | h :: hs, [], _, hh, _, _ => hh.elim

/-- pushIns: a list of hunk a is appended to, or moves to a new block. -/
theorem LS.pushIns {B : Nat} {w w' : World} {l e g cap n0 : Nat} {mp r0 r1 k0 k1 k2 k3 : Value} {tx : ByteArray} {hs : List HV} {p : List Hk} {A0 A1 : List Fl} {L : List Str} {F R M : Nat → Prop} (h : LS B w l e mp (.slice (some ⟨g, 0, none⟩) n0 cap) r0 r1 k0 k1 k2 k3 tx hs p A0 A1 L F R M) (a : Nat) (ha : a < p.length) (has : a < hs.length) (v : Value) (D : List Str) (ho : Only (fun y => hs[a].iv.ownBlock = some y) w w') (hv : OwnL w' v D) (hb : ∀ y, v.ownBlock = some y → hs[a].iv.ownBlock = some y ∨ (w.heap.size ≤ y ∧ y < w'.heap.size)) (hD : D.length ≤ 2049) (hS : ∀ x ∈ D, x.length ≤ 9223372036854775807) : LI B (w'.setCell ⟨g, a * 3 + 2, none⟩ v) l := by
  have hn : n0 = hs.length := by
    obtain ⟨_, h1 | ⟨g', cap', cur, e1, _⟩⟩ := h.pat.1
    · exact absurd h1.1 (by simp)
    · simp at e1; exact e1.2.1
  subst hn
  have hap := h.pat.apart
  have hself := self_parts hs a has
  have hd := h.dst
  rw [hself, dst_parts] at hd
  obtain ⟨d1, d2, d3, d4, d5⟩ := hd
  have hk := h.pb.all p[a] (List.getElem_mem ha)
  have hh := h.pat.2.1.get a has ha
  have hR : R g := h.pat.2.2 g rfl
  have md : ∀ y, hs[a].dv.ownBlock = some y → some y ∈ hvB hs := fun y hy => by rw [hself, hvB_app, hvB_cons, hy]; simp
  have mi : ∀ y, hs[a].iv.ownBlock = some y → some y ∈ hvB hs := fun y hy => by rw [hself, hvB_app, hvB_cons, hy]; simp
  have mo : ∀ y, some y ∈ hvB (hs.take a) ∨ some y ∈ hvB (hs.drop (a + 1)) → some y ∈ hvB hs := fun y hy => by
    rw [hself, hvB_app, hvB_cons]
    rcases hy with hy | hy
    · exact List.mem_append_left _ hy
    · exact List.mem_append_right _ (by simp [hy])
  have hW := donly1 (w := w') (p := g) (a * 3 + 2) v
  have oT : Only (fun y => hs[a].iv.ownBlock = some y ∨ y = g) w (w'.setCell ⟨g, a * 3 + 2, none⟩ v) := (ho.mono (fun y _ hy => .inl hy)).trans (hW.mono (T := fun y => hs[a].iv.ownBlock = some y ∨ y = g) (fun y _ hy => .inr hy)) (fun _ _ hy => hy)
  obtain ⟨cg, hgh⟩ := own_ty h.pat.1 g rfl
  have hgh' := hgh.keep ho (fun e => hap g (mi g e) rfl)
  have vg : ∀ y, v.ownBlock = some y → ¬ y = g := fun y hy e => by
    obtain ⟨c', hc'⟩ := own_ty hv.row y hy
    subst e
    exact Has.ne hc' hgh' (by decide) rfl
  have hrow := row_set (ownsRow_keep h.pat.1 ho (fun y hy e => by simp [Value.ownBlock] at hy; subst hy; exact hap g (mi g e) rfl)) (i := a * 3 + 2) (by omega) v
  rw [hvc_set2 hs a has] at hrow
  have inn : ∀ y, v.ownBlock = some y → (R y ∨ (w.heap.size ≤ y ∧ y < w'.heap.size)) := fun y hy => by
    rcases hb y hy with h1 | h1
    · exact .inl (hh.inn y (.inr h1))
    · exact .inr h1
  have h1 : HvOk1 (w'.setCell ⟨g, a * 3 + 2, none⟩ v) (fun y => R y ∨ (w.heap.size ≤ y ∧ y < w'.heap.size)) ⟨hs[a].at_, hs[a].dv, v⟩ ⟨p[a].at_, p[a].del, D⟩ := ⟨hh.at_, hh.del.keep oT (fun y hy e => by rcases e with e | e; exact d3 y hy e; exact hap y (md y hy) e), hv.keep hW vg, fun y hy => by
    rcases hy with hy | hy
    · exact .inl (hh.inn y (.inl hy))
    · exact inn y hy⟩
  have hsw := HvOk.swap oT h1 a (h.pat.2.1.monoG (fun y hy => .inl hy)) has (fun y hy hs' => by
    rcases hs' with e | e
    · rcases hy with hy | hy
      · exact (d4 y (.inr e)).1 hy
      · exact (d4 y (.inr e)).2 hy
    · exact hap y (mo y hy) e)
  have nR : ∀ y, r0.ownBlock = some y ∨ r1.ownBlock = some y → ¬ (hs[a].iv.ownBlock = some y ∨ y = g) := fun y hy hs' => by
    have hf : ∃ c, Has w y c 60 := by
      rcases hy with hy | hy
      · exact own_ty h.f0 y hy
      · exact own_ty h.f1 y hy
    obtain ⟨c, hc⟩ := hf
    rcases hs' with e | e
    · obtain ⟨c', hc'⟩ := h.pat.2.1.ty y (mi y e)
      exact Has.ne hc hc' (by decide) rfl
    · subst e
      exact Has.ne hc hgh (by decide) rfl
  have hlen : (hs.set a ⟨hs[a].at_, hs[a].dv, v⟩).length = hs.length := by simp
  refine (h.regs (R' := fun y => R y ∨ (w.heap.size ≤ y ∧ y < w'.heap.size)) (Has.keep h.lw oT (fun e => ?_)) ⟨by rw [hlen]; exact hrow, hsw, fun y hy => .inl (h.pat.2.2 y hy)⟩ (h.dst.set a has _ ?_ ?_) (h.pb.set a ⟨hk.del, hD, hk.sd, hS, hk.lo, hk.hi⟩) (ownsRow_keep h.f0 oT (fun y hy => nR y (.inl hy))) (ownsRow_keep h.f1 oT (fun y hy => nR y (.inr hy))) h.n0 h.n1 (fun y hy => .inl (h.rf y hy)) h.r01 oT (fun y hy => ?_) (fun y hy => ?_)).li
  · rcases e with e | e
    · exact h.lR (hh.inn l (.inr e))
    · exact h.lR (e ▸ hR)
  · intro y hy hy'
    have hv2 : v.ownBlock = some y := hy'
    have ho2 : hs[a].dv.ownBlock = some y := hy
    rcases hb y hv2 with h1 | h1
    · exact d3 y ho2 h1
    · have := (h.pat.2.1.blk y (md y ho2)).2; omega
  · intro y hy
    rcases hy with hy | hy
    · exact .inl hy
    · have hv2 : v.ownBlock = some y := hy
      rcases hb y hv2 with h1 | h1
      · exact .inr (.inl h1)
      · exact .inr (.inr (fun hm => by have := (h.pat.2.1.blk y hm).2; omega))
  · rcases hy with e | e
    · exact .inr (hh.inn y (.inr e))
    · exact .inr (e ▸ hR)
  · rcases hy with e | e
    · exact .inl e
    · exact .inr (by simpa using e)

/-- pushDel: a list of hunk a is appended to, or moves to a new block. -/
theorem LS.pushDel {B : Nat} {w w' : World} {l e g cap n0 : Nat} {mp r0 r1 k0 k1 k2 k3 : Value} {tx : ByteArray} {hs : List HV} {p : List Hk} {A0 A1 : List Fl} {L : List Str} {F R M : Nat → Prop} (h : LS B w l e mp (.slice (some ⟨g, 0, none⟩) n0 cap) r0 r1 k0 k1 k2 k3 tx hs p A0 A1 L F R M) (a : Nat) (ha : a < p.length) (has : a < hs.length) (v : Value) (D : List Str) (ho : Only (fun y => hs[a].dv.ownBlock = some y) w w') (hv : OwnL w' v D) (hb : ∀ y, v.ownBlock = some y → hs[a].dv.ownBlock = some y ∨ (w.heap.size ≤ y ∧ y < w'.heap.size)) (hD : D.length ≤ 2049) (hS : ∀ x ∈ D, x.length ≤ 9223372036854775807) : LI B (w'.setCell ⟨g, a * 3 + 1, none⟩ v) l := by
  have hn : n0 = hs.length := by
    obtain ⟨_, h1 | ⟨g', cap', cur, e1, _⟩⟩ := h.pat.1
    · exact absurd h1.1 (by simp)
    · simp at e1; exact e1.2.1
  subst hn
  have hap := h.pat.apart
  have hself := self_parts hs a has
  have hd := h.dst
  rw [hself, dst_parts] at hd
  obtain ⟨d1, d2, d3, d4, d5⟩ := hd
  have hk := h.pb.all p[a] (List.getElem_mem ha)
  have hh := h.pat.2.1.get a has ha
  have hR : R g := h.pat.2.2 g rfl
  have md : ∀ y, hs[a].dv.ownBlock = some y → some y ∈ hvB hs := fun y hy => by rw [hself, hvB_app, hvB_cons, hy]; simp
  have mi : ∀ y, hs[a].iv.ownBlock = some y → some y ∈ hvB hs := fun y hy => by rw [hself, hvB_app, hvB_cons, hy]; simp
  have mo : ∀ y, some y ∈ hvB (hs.take a) ∨ some y ∈ hvB (hs.drop (a + 1)) → some y ∈ hvB hs := fun y hy => by
    rw [hself, hvB_app, hvB_cons]
    rcases hy with hy | hy
    · exact List.mem_append_left _ hy
    · exact List.mem_append_right _ (by simp [hy])
  have hW := donly1 (w := w') (p := g) (a * 3 + 1) v
  have oT : Only (fun y => hs[a].dv.ownBlock = some y ∨ y = g) w (w'.setCell ⟨g, a * 3 + 1, none⟩ v) := (ho.mono (fun y _ hy => .inl hy)).trans (hW.mono (T := fun y => hs[a].dv.ownBlock = some y ∨ y = g) (fun y _ hy => .inr hy)) (fun _ _ hy => hy)
  obtain ⟨cg, hgh⟩ := own_ty h.pat.1 g rfl
  have hgh' := hgh.keep ho (fun e => hap g (md g e) rfl)
  have vg : ∀ y, v.ownBlock = some y → ¬ y = g := fun y hy e => by
    obtain ⟨c', hc'⟩ := own_ty hv.row y hy
    subst e
    exact Has.ne hc' hgh' (by decide) rfl
  have hrow := row_set (ownsRow_keep h.pat.1 ho (fun y hy e => by simp [Value.ownBlock] at hy; subst hy; exact hap g (md g e) rfl)) (i := a * 3 + 1) (by omega) v
  rw [hvc_set1 hs a has] at hrow
  have inn : ∀ y, v.ownBlock = some y → (R y ∨ (w.heap.size ≤ y ∧ y < w'.heap.size)) := fun y hy => by
    rcases hb y hy with h1 | h1
    · exact .inl (hh.inn y (.inl h1))
    · exact .inr h1
  have h1 : HvOk1 (w'.setCell ⟨g, a * 3 + 1, none⟩ v) (fun y => R y ∨ (w.heap.size ≤ y ∧ y < w'.heap.size)) ⟨hs[a].at_, v, hs[a].iv⟩ ⟨p[a].at_, D, p[a].ins⟩ := ⟨hh.at_, hv.keep hW vg, hh.ins.keep oT (fun y hy e => by rcases e with e | e; exact d3 y e hy; exact hap y (mi y hy) e), fun y hy => by
    rcases hy with hy | hy
    · exact inn y hy
    · exact .inl (hh.inn y (.inr hy))⟩
  have hsw := HvOk.swap oT h1 a (h.pat.2.1.monoG (fun y hy => .inl hy)) has (fun y hy hs' => by
    rcases hs' with e | e
    · rcases hy with hy | hy
      · exact (d4 y (.inl e)).1 hy
      · exact (d4 y (.inl e)).2 hy
    · exact hap y (mo y hy) e)
  have nR : ∀ y, r0.ownBlock = some y ∨ r1.ownBlock = some y → ¬ (hs[a].dv.ownBlock = some y ∨ y = g) := fun y hy hs' => by
    have hf : ∃ c, Has w y c 60 := by
      rcases hy with hy | hy
      · exact own_ty h.f0 y hy
      · exact own_ty h.f1 y hy
    obtain ⟨c, hc⟩ := hf
    rcases hs' with e | e
    · obtain ⟨c', hc'⟩ := h.pat.2.1.ty y (md y e)
      exact Has.ne hc hc' (by decide) rfl
    · subst e
      exact Has.ne hc hgh (by decide) rfl
  have hlen : (hs.set a ⟨hs[a].at_, v, hs[a].iv⟩).length = hs.length := by simp
  refine (h.regs (R' := fun y => R y ∨ (w.heap.size ≤ y ∧ y < w'.heap.size)) (Has.keep h.lw oT (fun e => ?_)) ⟨by rw [hlen]; exact hrow, hsw, fun y hy => .inl (h.pat.2.2 y hy)⟩ (h.dst.set a has _ ?_ ?_) (h.pb.set a ⟨hD, hk.ins, hS, hk.si, hk.lo, hk.hi⟩) (ownsRow_keep h.f0 oT (fun y hy => nR y (.inl hy))) (ownsRow_keep h.f1 oT (fun y hy => nR y (.inr hy))) h.n0 h.n1 (fun y hy => .inl (h.rf y hy)) h.r01 oT (fun y hy => ?_) (fun y hy => ?_)).li
  · rcases e with e | e
    · exact h.lR (hh.inn l (.inl e))
    · exact h.lR (e ▸ hR)
  · intro y hy hy'
    have hv2 : v.ownBlock = some y := hy
    have ho2 : hs[a].iv.ownBlock = some y := hy'
    rcases hb y hv2 with h1 | h1
    · exact d3 y h1 ho2
    · have := (h.pat.2.1.blk y (mi y ho2)).2; omega
  · intro y hy
    rcases hy with hy | hy
    · have hv2 : v.ownBlock = some y := hy
      rcases hb y hv2 with h1 | h1
      · exact .inl h1
      · exact .inr (.inr (fun hm => by have := (h.pat.2.1.blk y hm).2; omega))
    · exact .inr (.inl hy)
  · rcases hy with e | e
    · exact .inr (hh.inn y (.inl e))
    · exact .inr (e ▸ hR)
  · rcases hy with e | e
    · exact .inl e
    · exact .inr (by simpa using e)
end Go.Proofs.Qxb6500416a
