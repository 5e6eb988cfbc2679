/-
  OWN WORK. THE MODEL pagerm.Pager: over, New, Crashed, Clone.
-/
import Derived.Test.Qxb6500411aGreatNPgC
namespace Go.Proofs.Qxb6500411aGreat
open Go.RowKit
set_option linter.unusedSimpArgs false
set_option linter.unusedVariables false

/-- Three states of one kind, laid one by one over a new block. -/
theorem MPAt.laid {w : World} {q s0 s1 s2 : Nat} {uc : List Bool} {pc : List ByteArray} {um : List Bool} {pm : List ByteArray} {ub : List Bool} {pb : List ByteArray} {hv : Value} {op : Bool} {F0 F1 F2 : Nat → Prop} {w' : World}
    (h1 : Has w' q #[.pointer (some ⟨s0, 0, none⟩), .pointer (some ⟨s1, 0, none⟩), .pointer (some ⟨s2, 0, none⟩), hv, .bool op] 55) (h2 : StAt w' s0 uc pc F0) (h3 : StAt w' s1 um pm F1) (h4 : StAt w' s2 ub pb F2) (h5 : w'.ownsRow 0 50 1 hv 0 [])
    (hq : w.heap.size = q) (hh : ∀ k, hv.ownBlock = some k → w.heap.size ≤ k ∧ k < w'.heap.size ∧ k ≠ q ∧ ¬ F0 k ∧ ¬ F1 k ∧ ¬ F2 k) (e0 : ∀ x, F0 x → w.heap.size < x ∧ ¬ F1 x ∧ ¬ F2 x) (e1 : ∀ x, F1 x → w.heap.size < x) (e2 : ∀ x, F2 x → w.heap.size < x) :
    MPAt w' q uc pc um pm ub pb none op (Ext (fun _ => False) w w') := by
  have hin : ∀ x, F1 x ∨ F2 x → x < w'.heap.size := by
    rintro x (h | h)
    · exact h3.inn x h
    · exact h4.inn x h
  refine ⟨⟨s0, s1, s2, hv, F0, fun x => F1 x ∨ F2 x, h1, h2, h3.mono (fun x hx => .inl hx) hin, h4.mono (fun x hx => .inr hx) hin, h5, ?_, .inr ⟨by omega, h1.lt⟩, ?_, ?_⟩, Ext.in (fun _ h => h.elim) (by have := h1.lt; omega)⟩
  · intro k hk
    have := hh k hk
    exact ⟨.inr ⟨by omega, by omega⟩, this.2.2.1, this.2.2.2.1, fun h => by rcases h with h | h; exact this.2.2.2.2.1 h; exact this.2.2.2.2.2 h⟩
  · intro x hx
    have := e0 x hx
    exact ⟨.inr ⟨by omega, h2.inn x hx⟩, by omega, fun h => by rcases h with h | h; exact this.2.1 h; exact this.2.2 h⟩
  · rintro x (hx | hx)
    · have := e1 x hx; exact ⟨.inr ⟨by omega, h3.inn x hx⟩, by omega⟩
    · have := e2 x hx; exact ⟨.inr ⟨by omega, h4.inn x hx⟩, by omega⟩

set_option maxRecDepth 100000 in
set_option maxHeartbeats 1000000 in
theorem nover_any {w : World} {s : Nat} {u : List Bool} {g : List ByteArray} {F : Nat → Prop} (h : StAt w s u g F) :
    Calls Tryz.prog 31 #[.pointer (some ⟨s, 0, none⟩)] w fun e w' => e = .returned (.pointer (some ⟨w.heap.size, 0, none⟩)) ∧ MPAt w' w.heap.size u g u g u g none false (Ext (fun _ => False) w w') ∧ Only (fun _ => False) w w' := by
  have hi := h.inn
  have o0 : Only (fun _ => False) w (w.alloc (.cells #[.pointer none, .pointer none, .pointer none, .slice none 0 0, .bool false] 55)) := (Only.refl _ w).alloc _
  have k0 := Has.new w #[.pointer none, .pointer none, .pointer none, .slice none 0 0, .bool false] 55
  have h0 := h.keep o0 (fun _ _ h => h)
  have C1 := hide (sclone_any h0)
  go_enter Tryz.func31, Tryz.ntmps31
  go_wp2_with fail
  refine (unhide C1).mono ?_
  rintro e w1 ⟨rfl, n1, ho1⟩
  have s1 := ho1.size
  simp only [World.size_alloc] at n1 s1 ⊢
  have k1 := k0.keep ho1 (fun h => h)
  have c1 := k1.cell 1
  have z1 := k1.free 1
  have k2 := k1.setCell 1 (.pointer (some ⟨w.heap.size + 1, 0, none⟩))
  have o2 := PAt.only1 (w := w1) (p := w.heap.size) 1 (.pointer (some ⟨w.heap.size + 1, 0, none⟩))
  have s2 : (w1.setCell ⟨w.heap.size, 1, none⟩ (.pointer (some ⟨w.heap.size + 1, 0, none⟩))).heap.size = w1.heap.size := by simp
  have h2 := (h0.keep ho1 (fun _ _ h => h)).keep o2 (fun x hx e => by have := hi x hx; omega)
  have C2 := hide (sclone_any h2)
  have N1 : ∀ x, Ext (fun _ => False) (w.alloc (.cells #[.pointer none, .pointer none, .pointer none, .slice none 0 0, .bool false] 55)) w1 x → w.heap.size + 1 ≤ x ∧ x < w1.heap.size := fun x hx => by have := newN hx; simpa using this
  generalize Ext (fun _ => False) (w.alloc (.cells #[.pointer none, .pointer none, .pointer none, .slice none 0 0, .bool false] 55)) w1 = E1 at n1 N1
  have m2 := n1.keep o2 (fun x hx e => by have := N1 x hx; omega)
  clear C1
  go_wp2_with fail
  refine (unhide C2).mono ?_
  rintro e w3 ⟨rfl, n3, ho3⟩
  have s3 := ho3.size
  rw [s2] at n3 s3
  rw [s2]
  have k3 := k2.keep ho3 (fun h => h)
  have c0 := k3.cell 0
  have z0 := k3.free 0
  simp at c0
  have k4 := k3.setCell 0 (.pointer (some ⟨w1.heap.size, 0, none⟩))
  have o4 := PAt.only1 (w := w3) (p := w.heap.size) 0 (.pointer (some ⟨w1.heap.size, 0, none⟩))
  have s4 : (w3.setCell ⟨w.heap.size, 0, none⟩ (.pointer (some ⟨w1.heap.size, 0, none⟩))).heap.size = w3.heap.size := by simp
  have h4 := (h2.keep ho3 (fun _ _ h => h)).keep o4 (fun x hx e => by have := hi x hx; omega)
  have C3 := hide (sclone_any h4)
  have N3 : ∀ x, Ext (fun _ => False) (w1.setCell ⟨w.heap.size, 1, none⟩ (.pointer (some ⟨w.heap.size + 1, 0, none⟩))) w3 x → w1.heap.size ≤ x ∧ x < w3.heap.size := fun x hx => by have := newN hx; rwa [s2] at this
  generalize Ext (fun _ => False) (w1.setCell ⟨w.heap.size, 1, none⟩ (.pointer (some ⟨w.heap.size + 1, 0, none⟩))) w3 = E3 at n3 N3
  have m4 := (m2.keep ho3 (fun _ _ h => h)).keep o4 (fun x hx e => by have := N1 x hx; omega)
  have l4 := n3.keep o4 (fun x hx e => by have := N3 x hx; omega)
  clear C2 c1 z1
  go_wp2_with fail
  refine (unhide C3).mono ?_
  rintro e w5 ⟨rfl, n5, ho5⟩
  have s5 := ho5.size
  rw [s4] at n5 s5
  rw [s4]
  have k5 := k4.keep ho5 (fun h => h)
  have c2 := k5.cell 2
  have z2 := k5.free 2
  simp at c2
  have k6 := k5.setCell 2 (.pointer (some ⟨w3.heap.size, 0, none⟩))
  have o6 := PAt.only1 (w := w5) (p := w.heap.size) 2 (.pointer (some ⟨w3.heap.size, 0, none⟩))
  have N5 : ∀ x, Ext (fun _ => False) (w3.setCell ⟨w.heap.size, 0, none⟩ (.pointer (some ⟨w1.heap.size, 0, none⟩))) w5 x → w3.heap.size ≤ x ∧ x < w5.heap.size := fun x hx => by have := newN hx; rwa [s4] at this
  generalize Ext (fun _ => False) (w3.setCell ⟨w.heap.size, 0, none⟩ (.pointer (some ⟨w1.heap.size, 0, none⟩))) w5 = E5 at n5 N5
  have m6 := (m4.keep ho5 (fun _ _ h => h)).keep o6 (fun x hx e => by have := N1 x hx; omega)
  have l6 := (l4.keep ho5 (fun _ _ h => h)).keep o6 (fun x hx e => by have := N3 x hx; omega)
  have j6 := n5.keep o6 (fun x hx e => by have := N5 x hx; omega)
  clear C3 c0 z0
  go_wp2_with fail
  go_ret
  refine ⟨rfl, MPAt.laid (by simpa using k6) l6 m6 j6 (World.ownsRow_nil _ _ _ _) rfl (fun k hk => by simp [Value.ownBlock] at hk) ?_ ?_ ?_, ?_⟩
  · intro x hx
    have := N3 x hx
    exact ⟨by omega, fun h => by have := N1 x h; omega, fun h => by have := N5 x h; omega⟩
  · intro x hx; have := N1 x hx; omega
  · intro x hx; have := N5 x hx; omega
  · exact (((((o0.trans ho1 (fun _ _ h => h)).trans o2 (fun i hi e => by omega)).trans ho3 (fun _ _ h => h)).trans o4 (fun i hi e => by omega)).trans ho5 (fun _ _ h => h)).trans o6 (fun i hi e => by omega)

set_option maxRecDepth 100000 in
theorem nnew_any (w : World) :
    Calls Tryz.prog 11 #[] w fun e w' => ∃ q, e = .returned (.pointer (some ⟨q, 0, none⟩)) ∧ MPAt w' q (nots 72) (zeros 72) (nots 72) (zeros 72) (nots 72) (zeros 72) none false (Ext (fun _ => False) w w') ∧ Only (fun _ => False) w w' := by
  go_enter Tryz.func11, Tryz.ntmps11
  go_wp2_with fail
  refine (sfresh_any w).mono ?_
  rintro e w1 ⟨rfl, h1, o1⟩
  have C1 := hide (nover_any h1)
  go_wp2_with fail
  refine (unhide C1).mono ?_
  rintro e w2 ⟨rfl, h2, o2⟩
  go_wp2_with fail
  go_ret
  have o3 := o1.trans o2 (fun _ _ h => h)
  have s1 := o1.size
  refine ⟨_, rfl, h2.mono (G := Ext (fun _ => False) w w2) (fun k hk => ?_) (Ext.in (fun _ h => h.elim) o3.size), o3⟩
  have := newN hk
  exact .inr ⟨by omega, this.2⟩

section
variable {w : World} {q : Nat} {uc : List Bool} {pc : List ByteArray} {um : List Bool} {pm : List ByteArray} {ub : List Bool} {pb : List ByteArray} {hist : Option (List Bool × List ByteArray)} {op : Bool} {F : Nat → Prop}

set_option maxRecDepth 100000 in
set_option maxHeartbeats 1000000 in
theorem ncrashed_none (h : MPAt w q uc pc um pm ub pb none op F) :
    Calls Tryz.prog 24 #[.pointer (some ⟨q, 0, none⟩)] w fun e w' => e = .returned (.pointer (some ⟨w.heap.size, 0, none⟩)) ∧ MPAt w' w.heap.size ub pb ub pb ub pb none false (Ext (fun _ => False) w w') ∧ Only (fun _ => False) w w' := by
  obtain ⟨⟨s0, s1, s2, hv, F0, F1, h1, h2, h3, h4, h5, fh, f, f0, f1⟩, hi⟩ := h
  obtain ⟨a, cap, hsh⟩ := h5.shape
  rw [hsh] at h1
  have c3 := h1.cell 3
  have c2 := h1.cell 2
  unfold nhistLen at c2 c3
  have C1 := hide (nover_any h4)
  have inner : Calls Tryz.prog 53 #[.pointer (some ⟨q, 0, none⟩), .int .i64 0] w fun e w' => e = .returned (.pointer (some ⟨w.heap.size, 0, none⟩)) ∧ MPAt w' w.heap.size ub pb ub pb ub pb none false (Ext (fun _ => False) w w') ∧ Only (fun _ => False) w w' := by
    go_enter Tryz.func53, Tryz.ntmps53
    go_wp2_with fail
    refine (unhide C1).mono ?_
    rintro e w2 ⟨rfl, h2⟩
    go_wp2_with fail
    go_ret
    exact ⟨rfl, h2⟩
  have C2 := hide inner
  clear inner C1
  go_enter Tryz.func24, Tryz.ntmps24
  go_wp2_with fail
  refine (unhide C2).mono ?_
  rintro e w2 ⟨rfl, h2⟩
  go_wp2_with fail
  go_ret
  exact ⟨rfl, h2⟩

set_option maxRecDepth 100000 in
set_option maxHeartbeats 1000000 in
theorem ncrashed_some {u : List Bool} {g : List ByteArray} (h : MPAt w q uc pc um pm ub pb (some (u, g)) op F) :
    Calls Tryz.prog 24 #[.pointer (some ⟨q, 0, none⟩)] w fun e w' => e = .returned (.pointer (some ⟨w.heap.size, 0, none⟩)) ∧ MPAt w' w.heap.size u g u g u g none false (Ext (fun _ => False) w w') ∧ Only (fun _ => False) w w' := by
  obtain ⟨⟨s0, s1, s2, hv, F0, F1, h1, h2, h3, h4, ⟨hk, ho, hX⟩, fh, f, f0, f1⟩, hi⟩ := h
  rcases ho.2 with ⟨_, hz⟩ | ⟨g', cap, cur', hv', _, hg, hc1, hc2, hcs, htk⟩
  · omega
  rw [hv'] at h1
  have c3 := h1.cell 3
  have hg' : Has w g' cur' 50 := hg
  have q0 := hg'.cell 0
  have q' : cur'[0]? = some (.pointer (some ⟨hk, 0, none⟩)) := by
    have := congrArg (fun l : List Value => l[0]?) htk
    simpa [List.getElem?_take] using this
  rw [q'] at q0
  clear q'
  have C1 := hide (nover_any hX)
  have inner : Calls Tryz.prog 53 #[.pointer (some ⟨q, 0, none⟩), .int .i64 1] w fun e w' => e = .returned (.pointer (some ⟨w.heap.size, 0, none⟩)) ∧ MPAt w' w.heap.size u g u g u g none false (Ext (fun _ => False) w w') ∧ Only (fun _ => False) w w' := by
    go_enter Tryz.func53, Tryz.ntmps53
    go_wp2_with fail
    refine (unhide C1).mono ?_
    rintro e w2 ⟨rfl, h2⟩
    go_wp2_with fail
    go_ret
    exact ⟨rfl, h2⟩
  have C2 := hide inner
  clear inner C1
  go_enter Tryz.func24, Tryz.ntmps24
  go_wp2_with fail
  refine (unhide C2).mono ?_
  rintro e w2 ⟨rfl, h2⟩
  go_wp2_with fail
  go_ret
  exact ⟨rfl, h2⟩
theorem run_make_nhist (w : World) :
    (Instr.makeSlice 53 (.int .i64 0) (.int .i64 0)).run Tryz.prog w = .ok (.slice (some ⟨w.heap.size, 0, none⟩) 0 0) (w.alloc (.cells #[] 50)) := by
  obtain ⟨i, hi, hz, hs, hb⟩ := info_parts Tryz.infoNState
  have := run_make (P := Tryz.prog) w 53 50 i _ Tryz.underlying53 hi hz .i64 .i64 0 0 (by omega) (by omega) (by omega) (by omega)
  rw [this]
  simp [hs, Value.cells, madeCells_one]

set_option maxRecDepth 100000 in
set_option maxHeartbeats 2000000 in
theorem nclone_any (h : MPAt w q uc pc um pm ub pb none op F) :
    Calls Tryz.prog 13 #[.pointer (some ⟨q, 0, none⟩)] w fun e w' => e = .returned (.pointer (some ⟨w.heap.size, 0, none⟩)) ∧ MPAt w' w.heap.size uc pc um pm ub pb none op (Ext (fun _ => False) w w') ∧ Only (fun _ => False) w w' := by
  obtain ⟨⟨s0, s1, s2, hv, F0, F1, h1, h2, h3, h4, h5, fh, f, f0, f1⟩, hi⟩ := h
  obtain ⟨a, cap, hsh⟩ := h5.shape
  rw [hsh] at h1
  unfold nhistLen at h1
  have hmk := run_make_nhist
  have hql := hi _ f
  have o0 : Only (fun _ => False) w (w.alloc (.cells #[.pointer none, .pointer none, .pointer none, .slice none 0 0, .bool op] 55)) := (Only.refl _ w).alloc _
  have k0 := Has.new w #[.pointer none, .pointer none, .pointer none, .slice none 0 0, .bool op] 55
  have q4 := h1.cell 4
  have g0 := h1.keep o0 (fun h => h)
  have q0 := g0.cell 0
  have C1 := hide (sclone_any (h2.keep o0 (fun _ _ h => h)))
  have hi0 : ∀ x, F0 x → x < w.heap.size := fun x hx => hi _ (f0 x hx).1
  have hi1 : ∀ x, F1 x → x < w.heap.size := fun x hx => hi _ (f1 x hx).1
  go_enter Tryz.func13, Tryz.ntmps13
  go_wp2_with fail
  refine (unhide C1).mono ?_
  rintro e w1 ⟨rfl, n1, ho1⟩
  have s1z := ho1.size
  simp only [World.size_alloc] at n1 s1z ⊢
  have k1 := k0.keep ho1 (fun h => h)
  have c0 := k1.cell 0
  have z0 := k1.free 0
  have k2 := k1.setCell 0 (.pointer (some ⟨w.heap.size + 1, 0, none⟩))
  have o2 := PAt.only1 (w := w1) (p := w.heap.size) 0 (.pointer (some ⟨w.heap.size + 1, 0, none⟩))
  have s2z : (w1.setCell ⟨w.heap.size, 0, none⟩ (.pointer (some ⟨w.heap.size + 1, 0, none⟩))).heap.size = w1.heap.size := by simp
  have g2 := (g0.keep ho1 (fun h => h)).keep o2 (by omega)
  have q1 := g2.cell 1
  have hB := ((h3.keep o0 (fun _ _ h => h)).keep ho1 (fun _ _ h => h)).keep o2 (fun x hx e => by have := hi1 x hx; omega)
  have hC := ((h4.keep o0 (fun _ _ h => h)).keep ho1 (fun _ _ h => h)).keep o2 (fun x hx e => by have := hi1 x hx; omega)
  have C2 := hide (sclone_any hB)
  have N1 : ∀ x, Ext (fun _ => False) (w.alloc (.cells #[.pointer none, .pointer none, .pointer none, .slice none 0 0, .bool op] 55)) w1 x → w.heap.size + 1 ≤ x ∧ x < w1.heap.size := fun x hx => by have := newN hx; simpa using this
  generalize Ext (fun _ => False) (w.alloc (.cells #[.pointer none, .pointer none, .pointer none, .slice none 0 0, .bool op] 55)) w1 = E1 at n1 N1
  have m2 := n1.keep o2 (fun x hx e => by have := N1 x hx; omega)
  clear C1
  go_wp2_with fail
  refine (unhide C2).mono ?_
  rintro e w3 ⟨rfl, n3, ho3⟩
  have s3z := ho3.size
  rw [s2z] at n3 s3z
  rw [s2z]
  have k3 := k2.keep ho3 (fun h => h)
  have c1 := k3.cell 1
  have z1 := k3.free 1
  simp at c1
  have k4 := k3.setCell 1 (.pointer (some ⟨w1.heap.size, 0, none⟩))
  have o4 := PAt.only1 (w := w3) (p := w.heap.size) 1 (.pointer (some ⟨w1.heap.size, 0, none⟩))
  have s4z : (w3.setCell ⟨w.heap.size, 1, none⟩ (.pointer (some ⟨w1.heap.size, 0, none⟩))).heap.size = w3.heap.size := by simp
  have g4 := (g2.keep ho3 (fun h => h)).keep o4 (by omega)
  have q2 := g4.cell 2
  have hD := (hC.keep ho3 (fun _ _ h => h)).keep o4 (fun x hx e => by have := hi1 x hx; omega)
  have C3 := hide (sclone_any hD)
  have N3 : ∀ x, Ext (fun _ => False) (w1.setCell ⟨w.heap.size, 0, none⟩ (.pointer (some ⟨w.heap.size + 1, 0, none⟩))) w3 x → w1.heap.size ≤ x ∧ x < w3.heap.size := fun x hx => by have := newN hx; rwa [s2z] at this
  generalize Ext (fun _ => False) (w1.setCell ⟨w.heap.size, 0, none⟩ (.pointer (some ⟨w.heap.size + 1, 0, none⟩))) w3 = E3 at n3 N3
  have m4 := (m2.keep ho3 (fun _ _ h => h)).keep o4 (fun x hx e => by have := N1 x hx; omega)
  have l4 := n3.keep o4 (fun x hx e => by have := N3 x hx; omega)
  clear C2 c0 z0
  go_wp2_with fail
  refine (unhide C3).mono ?_
  rintro e w5 ⟨rfl, n5, ho5⟩
  have s5z := ho5.size
  rw [s4z] at n5 s5z
  rw [s4z]
  have k5 := k4.keep ho5 (fun h => h)
  have c2 := k5.cell 2
  have z2 := k5.free 2
  have c3 := k5.cell 3
  have z3 := k5.free 3
  simp at c2 c3
  have g5 := g4.keep ho5 (fun h => h)
  have q3 := g5.cell 3
  have N5 : ∀ x, Ext (fun _ => False) (w3.setCell ⟨w.heap.size, 1, none⟩ (.pointer (some ⟨w1.heap.size, 0, none⟩))) w5 x → w3.heap.size ≤ x ∧ x < w5.heap.size := fun x hx => by have := newN hx; rwa [s4z] at this
  generalize Ext (fun _ => False) (w3.setCell ⟨w.heap.size, 1, none⟩ (.pointer (some ⟨w1.heap.size, 0, none⟩))) w5 = E5 at n5 N5
  have hqn : q ≠ w.heap.size := by omega
  have hn5 : w.heap.size < w5.heap.size := by omega
  have hqn5 : q < w5.heap.size := by omega
  clear C3 c1 z1
  go_wp2_with fail
  refine wp_loop_rounds 1 ?_
  rw [rounds_succ]
  go_wp2_with fail
  go_ret
  have k6 := ((k5.setCell 2 (.pointer (some ⟨w3.heap.size, 0, none⟩))).setCell 3 (.slice (some ⟨w5.heap.size, 0, none⟩) 0 0)).alloc (.cells #[] 50)
  have o6 := ((PAt.only1 (w := w5) (p := w.heap.size) 2 (.pointer (some ⟨w3.heap.size, 0, none⟩))).trans (PAt.only1 (p := w.heap.size) 3 (.slice (some ⟨w5.heap.size, 0, none⟩) 0 0)) (fun _ _ h => h)).alloc (.cells #[] 50)
  have m6 := (m4.keep ho5 (fun _ _ h => h)).keep o6 (fun x hx e => by have := N1 x hx; omega)
  have l6 := (l4.keep ho5 (fun _ _ h => h)).keep o6 (fun x hx e => by have := N3 x hx; omega)
  have j6 := n5.keep o6 (fun x hx e => by have := N5 x hx; omega)
  refine ⟨rfl, MPAt.laid (by simpa using k6) m6 l6 j6 ?_ rfl ?_ ?_ ?_ ?_, ?_⟩
  · refine ⟨by simp, .inr ⟨_, _, #[], rfl, by omega, ?_, by simp, by simp, by simp, by simp⟩⟩
    exact Has.new' _ _ _ _ (by simp)
  · intro k hk
    simp [Value.ownBlock] at hk
    subst hk
    refine ⟨by omega, by simp, by omega, fun h => by have := N1 _ h; omega, fun h => by have := N3 _ h; omega, fun h => by have := N5 _ h; omega⟩
  · intro x hx
    have := N1 x hx
    exact ⟨by omega, fun h => by have := N3 x h; omega, fun h => by have := N5 x h; omega⟩
  · intro x hx; have := N3 x hx; omega
  · intro x hx; have := N5 x hx; omega
  · exact (((((o0.trans ho1 (fun _ _ h => h)).trans o2 (fun i hi e => by omega)).trans ho3 (fun _ _ h => h)).trans o4 (fun i hi e => by omega)).trans ho5 (fun _ _ h => h)).trans o6 (fun i hi e => by omega)
end
end Go.Proofs.Qxb6500411aGreat
