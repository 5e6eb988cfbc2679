/-
  OWN WORK. THE TXN LAW: the walk Serial: one step of it.
-/
import Derived.Test.Qxb6500414aGreatXG8
namespace Go.Proofs.Qxb6500414aGreat
open Go.RowKit Go.PlainAid
set_option linter.unusedSimpArgs false
set_option linter.unusedVariables false

/-- Between PlayReal and Follow. -/
structure SM (lo : Nat) (w : World) (kb : Nat) (q : Gnd) (g x kG : Nat) (M M' : Mu) (K : Nat → Prop) (m : GhM) (am : AnM) (an : An) : Prop where
  rx : RX q w g x M' K
  gh : GhAt w kG m M.com
  se : SerI M m M.com
  ok : MuOk M
  sp : ∀ k, m.A kG k → ¬ q.A k ∧ k ≠ x ∧ ¬ K k
  sa : ∀ k, AnB am k → ¬ q.A k ∧ k ≠ x ∧ ¬ K k ∧ ¬ m.T kG k
  at_ : AnAt w am an
  bx : Has w kb (jbC q.d x) 30
  kq : ¬ q.A kb ∧ kb ≠ x ∧ ¬ K kb ∧ ¬ m.A kG kb ∧ ¬ AnB am kb
  cu : CutX q.base q.recs (fun X => ComD X M.com) (fun X => ComD X M'.com)
  lo : ∀ k, q.A k ∨ k = x ∨ K k ∨ m.A kG k ∨ k = kb ∨ AnB am k → lo ≤ k
section
variable {lo : Nat} {q : Gnd} {w w' : World} {kb g x kG : Nat} {M M' : Mu} {K : Nat → Prop} {m : GhM} {DW : Db} {am : AnM} {an : An} {kd a bb cc : Int} {s t : ByteArray} {e : Ending}
theorem SM.quiet (h : SM lo w kb q g x kG M M' K m am an) (ho : Only (fun _ => False) w w') : SM lo w' kb q g x kG M M' K m am an :=
  ⟨h.rx.quiet ho, h.gh.quiet ho, h.se, h.ok, h.sp, h.sa, h.at_.quiet ho, h.bx.keep ho (fun e => e), h.kq, h.cu, h.lo⟩
/-- PlayReal, out of a state that was marked. -/
theorem SW.real (h : SW lo w kb q g x kG M K m M.com) (hb : q.base = q.blk) (hr : q.recs = []) (hp : PrP q w g x M K kd a bb cc s t e w') : ∃ M' an am q' K', e = .returned (.agg (anC am an)) ∧ MuOp M a bb cc s t kd M' an ∧ SM lo w' kb q' g x kG M M' K' m am an ∧ Only (fun k => lo ≤ k) w w' ∧ (∀ k, K' k → K k ∨ w.heap.size ≤ k) ∧ (∀ k, q'.A k → q.A k ∨ w.heap.size ≤ k) ∧ Only (fun k => q.A k ∨ K k) w w' := by
  obtain ⟨M', an, am, he, hop, hA, hAb, hh⟩ := hp
  have glt := h.gh.lt
  have kbl := h.bx.lt
  have hAl := h.rx.Alt
  have los : lo ≤ w.heap.size := by have := h.lo kb (.inr (.inr (.inr (.inr rfl)))); omega
  have mu := h.rx.mu
  rcases hh with ⟨K', rx, hK, hs, hcom, ho⟩ | ⟨hck, he0, rfl, rs, com, wa, wb, K', rx, hwa, ci, hK, ho⟩
  · have kln : ∀ k, k < w.heap.size → ¬ K k → ¬ K' k := fun k hl h1 c => by
      rcases hK k c with d | d
      · exact h1 d
      · omega
    refine ⟨M', an, am, q, K', he, hop, ⟨rx, h.gh.keep ho (fun k hk c => ?_), h.se, mu, fun k hk => ⟨(h.sp k hk).1, (h.sp k hk).2.1, kln k (glt k hk) (h.sp k hk).2.2⟩, fun k hk => ⟨(hs k hk).2, fun c => ?_, (hs k hk).1, fun c => ?_⟩, hA, h.bx.keep ho (fun c => ?_), ⟨h.kq.1, h.kq.2.1, kln kb kbl h.kq.2.2.1, h.kq.2.2.2, fun c => ?_⟩, ?_, fun k hk => ?_⟩, ho.mono (fun k _ c => ?_), hK, fun k hk => .inl hk, ho.mono (fun _ _ c => c.imp Gnd.S_A id)⟩
    · rcases c with c | c
      · exact (h.sp k hk).1 (Gnd.S_A c)
      · exact (h.sp k hk).2.2 c
    · have := hAb k hk; have := hAl.2; omega
    · have := hAb k hk; have := glt k (.inl c); omega
    · rcases c with c | c
      · exact h.kq.1 (Gnd.S_A c)
      · exact h.kq.2.2.1 c
    · have := hAb kb c; omega
    · have := h.cu; rw [hcom]; exact this
    · rcases hk with c | c | c | c | c | c
      · exact h.lo k (.inl c)
      · exact h.lo k (.inr (.inl c))
      · rcases hK k c with d | d
        · exact h.lo k (.inr (.inr (.inl d)))
        · omega
      · exact h.lo k (.inr (.inr (.inr (.inl c))))
      · exact h.lo k (.inr (.inr (.inr (.inr c))))
      · have := hAb k c; omega
    · rcases c with c | c
      · exact h.lo k (.inl (Gnd.S_A c))
      · exact h.lo k (.inr (.inr (.inl c)))
  · have kln : ∀ k, k < w.heap.size → ¬ K k → ¬ K' k := fun k hl h1 c => by
      rcases hK k c with d | d
      · exact h1 d
      · omega
    have qln : ∀ k, (q.done rs com wa wb).A k → q.A k ∨ w.heap.size ≤ k := fun k c => by
      rcases Gnd.done_A c with d | d
      · exact .inl d
      · exact .inr (by omega)
    have qn : ∀ k, k < w.heap.size → ¬ q.A k → ¬ (q.done rs com wa wb).A k := fun k hl h1 c => by
      rcases qln k c with d | d
      · exact h1 d
      · omega
    refine ⟨M', an, AnM.z, q.done rs com wa wb, K', he, hop, ⟨rx, h.gh.keep ho (fun k hk c => ?_), h.se, mu, fun k hk => ⟨qn k (glt k hk) (h.sp k hk).1, (h.sp k hk).2.1, kln k (glt k hk) (h.sp k hk).2.2⟩, fun k hk => absurd hk AnB.z, hA, h.bx.keep ho (fun c => ?_), ⟨qn kb kbl h.kq.1, h.kq.2.1, kln kb kbl h.kq.2.2.1, h.kq.2.2.2, AnB.z⟩, ?_, fun k hk => ?_⟩, ho.mono (fun k _ c => ?_), hK, qln, ho⟩
    · rcases c with c | c
      · exact (h.sp k hk).1 c
      · exact (h.sp k hk).2.2 c
    · rcases c with c | c
      · exact h.kq.1 c
      · exact h.kq.2.2.1 c
    · have e1 : (q.done rs com wa wb).base = q.blk := hb
      have e2 : (q.done rs com wa wb).recs = rs := by show q.recs ++ rs = rs; rw [hr]; rfl
      rw [e1, e2]
      exact ci.toX h.rx.comd.2 rx.comd.2 h.rx.comd.1 rx.comd.1
    · rcases hk with c | c | c | c | c | c
      · rcases qln k c with d | d
        · exact h.lo k (.inl d)
        · omega
      · exact h.lo k (.inr (.inl c))
      · rcases hK k c with d | d
        · exact h.lo k (.inr (.inr (.inl d)))
        · omega
      · exact h.lo k (.inr (.inr (.inr (.inl c))))
      · exact h.lo k (.inr (.inr (.inr (.inr c))))
      · exact absurd c AnB.z
    · rcases c with c | c
      · exact h.lo k (.inl c)
      · exact h.lo k (.inr (.inr (.inl c)))
/-- Follow. -/
theorem SM.follow (h : SM lo w kb q g x kG M M' K m am an) (hf : FoP q w g x M' K kG m am e w') : e = .returned (.bool true) ∧ ∃ m2, SW lo w' kb q g x kG M' K m2 M.com ∧ Only (fun k => lo ≤ k) w w' := by
  obtain ⟨he, m2, sh2, gh, se, rx, hA, hT, ho⟩ := hf
  obtain rfl := se.1
  have hl := h.rx.Alt
  have hk := h.rx.kA
  have kbl := h.bx.lt
  have los : lo ≤ w.heap.size := by have := h.lo kb (.inr (.inr (.inr (.inr (.inl rfl))))); omega
  refine ⟨he, m2, ⟨rx, gh, se, fun k hm => ?_, h.bx.keep ho (fun c => ?_), ⟨h.kq.1, h.kq.2.1, h.kq.2.2.1, fun c => ?_⟩, h.cu, fun k hk' => ?_⟩, ho.mono (fun k _ c => ?_)⟩
  · rcases hA k hm with c | c | c
    · exact h.sp k c
    · exact ⟨(h.sa k c).1, (h.sa k c).2.1, (h.sa k c).2.2.1⟩
    · exact ⟨fun d => (by have := hl.1 k d; omega), fun d => (by have := hl.2; omega), fun d => (by have := (hk k d).2.2; omega)⟩
  · rcases c with c | c
    · exact h.kq.1 (Gnd.S_A c)
    · exact h.kq.2.2.2.1 (.inl c)
  · rcases hA kb c with c | c | c
    · exact h.kq.2.2.2.1 c
    · exact h.kq.2.2.2.2 c
    · omega
  · rcases hk' with c | c | c | c | c
    · exact h.lo k (.inl c)
    · exact h.lo k (.inr (.inl c))
    · exact h.lo k (.inr (.inr (.inl c)))
    · rcases hA k c with d | d | d
      · exact h.lo k (.inr (.inr (.inr (.inl d))))
      · exact h.lo k (.inr (.inr (.inr (.inr (.inr d)))))
      · omega
    · exact h.lo k (.inr (.inr (.inr (.inr (.inl c)))))
  · rcases c with c | c
    · exact h.lo k (.inl (Gnd.S_A c))
    · exact h.lo k (.inr (.inr (.inr (.inl (.inl c)))))
end
end Go.Proofs.Qxb6500414aGreat
