/-
  OWN WORK. THE TABLE LAW's GROUND: below.go; what a cut of a whole step leaves.
-/
import Derived.Test.Qxb6500412aGreatEBr
namespace Go.Proofs.Qxb6500412aGreat
open Go.RowKit Go.PlainAid
set_option linter.unusedSimpArgs false
set_option linter.unusedVariables false

theorem Shows.eq {D X Y : List ByteArray} (hx : Shows D X) (hy : Shows D Y) (lx : X.length = 80) (ly : Y.length = 80) : X = Y := by
  apply List.ext_getElem (by omega)
  intro i h1 h2
  have := (hx i (by omega)).symm.trans (hy i (by omega))
  rw [List.getD_eq_getElem?_getD, List.getD_eq_getElem?_getD, List.getElem?_eq_getElem h1, List.getElem?_eq_getElem h2] at this
  exact this
/-- What a cut of the step just played may leave: images with P or with Q. -/
structure CutX (base : List ByteArray) (recs : List (Nat × ByteArray)) (P Q : List ByteArray → Prop) : Prop where
  len : base.length = 153
  sz : ∀ x ∈ base, x.size = 128
  keys : ∀ r ∈ recs, r.1 < 153
  rsz : ∀ r ∈ recs, r.2.size = 128
  short : recs.length ≤ 500
  either : ∀ k, ∃ X, X.length = 80 ∧ Shows (recov (replay base (recs.take k))) X ∧ (P X ∨ Q X)
  foot : ∃ X, X.length = 80 ∧ Shows (recov (replay base (recs.take 0))) X ∧ P X
  work : ∀ k, recs.length ≤ k → ∃ X, X.length = 80 ∧ Shows (recov (replay base (recs.take k))) X ∧ Q X
section
variable {base : List ByteArray} {recs : List (Nat × ByteArray)} {P Q R : List ByteArray → Prop}
theorem CutInv.toX {was com : List ByteArray} (h : CutInv base recs was com) (lw : was.length = 80) (lc : com.length = 80) (hP : P was) (hQ : Q com) : CutX base recs P Q :=
  ⟨h.len, h.sz, h.keys, h.rsz, by have := h.short; omega, fun k => by
    rcases h.either k with c | c
    · exact ⟨was, lw, c, .inl hP⟩
    · exact ⟨com, lc, c, .inr hQ⟩, ⟨was, lw, h.foot, hP⟩, fun k hk => ⟨com, lc, h.work k hk, hQ⟩⟩
theorem CutX.image_len (h : CutX base recs P Q) (k : Nat) : (replay base (recs.take k)).length = 153 := by simpa using h.len
theorem CutX.image_sz (h : CutX base recs P Q) (k : Nat) : ∀ x ∈ replay base (recs.take k), x.size = 128 := replay_sizes _ _ h.sz (fun r hr => h.rsz r (List.mem_of_mem_take hr))
theorem CutX.again (h : CutX base recs P Q) (k : Nat) {X : List ByteArray} (lX : X.length = 80) (hX : Shows (recov (replay base (recs.take k))) X) {R : List ByteArray → Prop} (hR : R X) : CutX (replay base (recs.take k)) (recRecs (replay base (recs.take k))) R R := by
  have hs : ∀ j, Shows (recov (replay (replay base (recs.take k)) ((recRecs (replay base (recs.take k))).take j))) X := fun j => by rw [recov_idem]; exact hX
  exact ⟨h.image_len k, h.image_sz k, recRecs_in _, recRecs_size _ (h.image_len k) (h.image_sz k), Nat.le_trans (recRecs_length _) (by omega), fun j => ⟨X, lX, hs j, .inl hR⟩, ⟨X, lX, hs 0, hR⟩, fun j _ => ⟨X, lX, hs j, hR⟩⟩
theorem CutX.inv (h : CutX base recs P Q) (k : Nat) {X : List ByteArray} (lX : X.length = 80) (hX : Shows (recov (replay base (recs.take k))) X) : Inv (recov (replay base (recs.take k))) false [] X X (nots 80) :=
  Inv.fresh (by rw [recov_length]; exact h.image_len k) (recov_sizes _ (h.image_len k) (h.image_sz k)) (recov_zero _) hX lX
/-- Where the cut falls. -/
theorem CutX.pick (h : CutX base recs P Q) (k : Nat) : ∃ X, X.length = 80 ∧ Shows (recov (replay base (recs.take k))) X ∧ (P X ∨ Q X) ∧ (k = 0 → P X) ∧ (recs.length ≤ k → Q X) := by
  by_cases h0 : k = 0
  · subst h0
    obtain ⟨X, lX, sX, pX⟩ := h.foot
    refine ⟨X, lX, sX, .inl pX, fun _ => pX, fun hk => ?_⟩
    obtain ⟨Y, lY, sY, qY⟩ := h.work 0 hk
    rw [Shows.eq sX sY lX lY]
    exact qY
  · by_cases h1 : recs.length ≤ k
    · obtain ⟨X, lX, sX, qX⟩ := h.work k h1
      exact ⟨X, lX, sX, .inr qX, fun c => absurd c h0, fun _ => qX⟩
    · obtain ⟨X, lX, sX, pX⟩ := h.either k
      exact ⟨X, lX, sX, pX, fun c => absurd c h0, fun c => absurd c h1⟩
/-- A step, and one that follows on it. -/
theorem CutX.join {com com' : List ByteArray} {rs rt : List (Nat × ByteArray)} (h : CutX base rs P P) (g : CutInv (replay base rs) rt com com') (lw : com.length = 80) (lc : com'.length = 80) (hP : P com) (hQ : Q com') (hs : rs.length ≤ 350) : CutX base (rs ++ rt) P Q := by
  have hr : ∀ k, rs.length ≤ k → replay base ((rs ++ rt).take k) = replay (replay base rs) (rt.take (k - rs.length)) := fun k hk => by
    rw [List.take_append, List.take_of_length_le hk, replay_append]
  have hl : ∀ k, k ≤ rs.length → replay base ((rs ++ rt).take k) = replay base (rs.take k) := fun k hk => by
    rw [List.take_append_of_le_length hk]
  refine ⟨h.len, h.sz, fun r hr' => ?_, fun r hr' => ?_, ?_, fun k => ?_, ?_, fun k hk => ?_⟩
  · rcases List.mem_append.mp hr' with c | c
    · exact h.keys r c
    · exact g.keys r c
  · rcases List.mem_append.mp hr' with c | c
    · exact h.rsz r c
    · exact g.rsz r c
  · rw [List.length_append]
    have := g.short
    omega
  · by_cases c : k ≤ rs.length
    · rw [hl k c]
      obtain ⟨X, lX, sX, pX⟩ := h.either k
      exact ⟨X, lX, sX, .inl (by rcases pX with d | d <;> exact d)⟩
    · rw [hr k (by omega)]
      rcases g.either (k - rs.length) with d | d
      · exact ⟨com, lw, d, .inl hP⟩
      · exact ⟨com', lc, d, .inr hQ⟩
  · rw [hl 0 (by omega)]
    exact h.foot
  · rw [List.length_append] at hk
    rw [hr k (by omega)]
    exact ⟨com', lc, g.work _ (by omega), hQ⟩
theorem CutX.mono {P' Q' : List ByteArray → Prop} (h : CutX base recs P Q) (hP : ∀ X, P X → P' X) (hQ : ∀ X, Q X → Q' X) : CutX base recs P' Q' :=
  ⟨h.len, h.sz, h.keys, h.rsz, h.short, fun k => by
    obtain ⟨X, a, b, c⟩ := h.either k
    exact ⟨X, a, b, c.imp (hP X) (hQ X)⟩, by
    obtain ⟨X, a, b, c⟩ := h.foot
    exact ⟨X, a, b, hP X c⟩, fun k hk => by
    obtain ⟨X, a, b, c⟩ := h.work k hk
    exact ⟨X, a, b, hQ X c⟩⟩
end
def jbC (d f : Nat) : Array Value := #[.pointer (some ⟨d, 0, none⟩), .pointer (some ⟨f, 0, none⟩)]
def jbV (d f : Nat) : Value := .agg (jbC d f)
theorem gzeros_getD (n j : Nat) (h : j < n) : (zeros n).getD j emptyB = zeroB := by
  unfold zeros
  rw [List.getD_eq_getElem?_getD, List.getElem?_replicate, if_pos h]; rfl
theorem ginv_zero : Inv (zeros 153) false [] (zeros 80) (zeros 80) (nots 80) := by
  refine Inv.fresh (by simp) (fun x hx => ?_) ?_ (fun b hb => ?_) (by simp)
  · unfold zeros at hx
    rw [List.mem_replicate] at hx
    rw [hx.2, zeroB_size]
  · rw [gzeros_getD 153 0 (by omega)]; exact zeroB_byte
  · rw [gzeros_getD 153 _ (by omega), gzeros_getD 80 _ hb]

theorem FV.dk {q : Gnd} {w : World} {op : Bool} {S : Vu} (A : FV q w op S) : DiskAt w q.d q.blk q.base q.recs q.F := by
  obtain ⟨view, F, A, I, rfl⟩ := A
  exact A.pg.dk
theorem FV.lcom {q : Gnd} {w : World} {op : Bool} {S : Vu} (A : FV q w op S) : q.com.length = 80 := by
  obtain ⟨view, F, A, I, rfl⟩ := A
  exact A.pg.lcom
theorem FV.still {q : Gnd} {w : World} {op : Bool} {S : Vu} (A : FV q w op S) : CutInv q.blk [] q.com q.com := by
  obtain ⟨view, F, A, I, rfl⟩ := A
  exact A.pg.still
def Gnd.mark (q : Gnd) (w w' : World) : Gnd := ⟨q.f, q.p, q.l, q.d, q.blk, q.blk, [], q.com, Ext q.F w w', q.G⟩
theorem FV.marked {q : Gnd} {w w' : World} {op : Bool} {S : Vu} (A : FV q w op S) (hd : DiskAt w' q.d q.blk q.blk [] (Ext q.F w w')) (ho : Only q.F w w') : FV (q.mark w w') w' op S := by
  obtain ⟨view, F, A, I, rfl⟩ := A
  have hfl := A.has.lt
  refine ⟨view, F, ⟨A.pg.marked hd ho, A.has.keep ho A.fF, A.fG, ?_, A.fp⟩, I, rfl⟩
  rintro (h | h)
  · exact A.fF h
  · have : w.heap.size ≤ q.f := h.1
    omega
theorem Gnd.mark_A {q : Gnd} {w w' : World} {k : Nat} (h : (q.mark w w').A k) : q.A k ∨ (w.heap.size ≤ k ∧ k < w'.heap.size) := by
  rcases h with (h | h) | h | h | h
  · exact .inl (.inl h)
  · exact .inr h
  · exact .inl (.inr (.inl h))
  · exact .inl (.inr (.inr (.inl h)))
  · exact .inl (.inr (.inr (.inr h)))
theorem comS_zero : ComS (zeros 80) (fun _ => none) := .inl ⟨NV_zero, rfl⟩
end Go.Proofs.Qxb6500412aGreat
