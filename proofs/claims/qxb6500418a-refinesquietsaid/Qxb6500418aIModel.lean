/-
  OWN WORK. THE INDEX's MODEL: New, Set, Del, Get, List, Load.
-/
import Derived.Test.Qxb6500418aIApi4
namespace Go.Proofs.Qxb6500418a
open Go.RowKit Go.PlainAid
set_option linter.unusedSimpArgs false
set_option linter.unusedVariables false

/-- The model m holds the list L; H: its blocks. -/
structure XAt (w : World) (m : Nat) (L : List Fl) (H : Nat → Prop) : Prop where
  ex : ∃ v, Has w m #[v] 51 ∧ FilesIn w v L ∧ ∀ y, v.ownBlock = some y → H y ∧ y ≠ m
  own : H m
  inn : ∀ k, H k → k < w.heap.size

section
variable {w : World} {m : Nat} {L : List Fl} {H : Nat → Prop}
theorem XAt.keep {S : Nat → Prop} {w' : World} (h : XAt w m L H) (ho : Only S w w') (hS : ∀ k, H k → ¬ S k) : XAt w' m L H := by
  obtain ⟨⟨v, h1, h2, h3⟩, h4, h5⟩ := h
  exact ⟨⟨v, h1.keep ho (hS m h4), h2.keep ho (fun k hk => hS k (h3 k hk).1), h3⟩, h4, fun k hk => Nat.lt_of_lt_of_le (h5 k hk) ho.size⟩
theorem XAt.quiet {w' : World} (h : XAt w m L H) (ho : Only (fun _ => False) w w') : XAt w' m L H := h.keep ho (fun _ _ h => h)
theorem XAt.lt (h : XAt w m L H) : m < w.heap.size := h.inn m h.own
theorem XAt.more {w0 : World} {H0 : Nat → Prop} (h : XAt w m L H) (hi : ∀ k, H k → Ext H0 w0 w k) (hH : ∀ k, H0 k → k < w0.heap.size) (hs : w0.heap.size ≤ w.heap.size) : XAt w m L (Ext H0 w0 w) := by
  obtain ⟨⟨v, h1, h2, h3⟩, h4, h5⟩ := h
  exact ⟨⟨v, h1, h2, fun y hy => ⟨hi y (h3 y hy).1, (h3 y hy).2⟩⟩, hi m h4, Ext.in hH hs⟩

theorem xnew_any (w : World) :
    Calls Try.prog 9 #[] w fun e w' => e = .returned (.pointer (some ⟨w.heap.size, 0, none⟩)) ∧ XAt w' w.heap.size [] (Ext (fun _ => False) w w') ∧ Only (fun _ => False) w w' := by
  have hk := Has.new w #[.slice none 0 0] 51
  go_enter Try.func9, Try.ntmps9
  go_wp2_with fail
  go_ret
  refine ⟨rfl, ⟨⟨_, hk, (OwnF.nil _).in_, fun y hy => by simp [Value.ownBlock] at hy⟩, .inr ⟨Nat.le_refl _, by simp⟩, Ext.in (fun _ h => h.elim) (by simp)⟩, (Only.refl _ w).alloc _⟩

/-- The list becomes another, laid in an array of its own. -/
theorem XAt.put (h : XAt w m L H) {v : Value} {L' : List Fl} {w1 : World} (ho : Only (fun _ => False) w w1) (hv : OwnF w1 v L') (hvo : ∀ y, v.ownBlock = some y → w.heap.size ≤ y) :
    XAt (w1.setCell ⟨m, 0, none⟩ v) m L' (Ext H w w1) ∧ Only H w (w1.setCell ⟨m, 0, none⟩ v) := by
  have hml := h.lt
  obtain ⟨⟨v0, h1, h2, h3⟩, h4, h5⟩ := h
  have k1 := (h1.keep ho (fun h => h)).setCell 0 v
  have o1 : Only (fun k => k = m) w1 (w1.setCell ⟨m, 0, none⟩ v) := (Only.refl (fun k => k = m) w1).setCell (p := ⟨m, 0, none⟩) (fun _ => rfl) _
  have hs := ho.size
  refine ⟨⟨⟨v, by simpa using k1, hv.in_.keep o1 (fun y hy e => by have := hvo y hy; omega), fun y hy => ⟨.inr ⟨hvo y hy, ownsRow_lt hv y hy⟩, by have := hvo y hy; omega⟩⟩, .inl h4, fun k hk => ?_⟩, ?_⟩
  · have := Ext.in h5 hs k hk
    simpa using this
  · exact (ho.mono (fun _ _ h => h.elim)).trans o1 (fun i hi e => e ▸ h4)

theorem xlist_any (h : XAt w m L H) (hlen : L.length ≤ 1000) :
    Calls Try.prog 19 #[.pointer (some ⟨m, 0, none⟩)] w fun e w' => ∃ v', e = .returned v' ∧ OwnF w' v' L ∧ (∀ y, v'.ownBlock = some y → w.heap.size ≤ y) ∧ Only (fun _ => False) w w' := by
  obtain ⟨⟨v, h1, h2, h3⟩, h4, h5⟩ := h
  have c0 := h1.cell 0
  have C1 := hide (copyFiles_any v L h2 hlen)
  go_enter Try.func19, Try.ntmps19
  go_wp2_with fail
  refine (unhide C1).mono ?_
  rintro e w' ⟨v', rfl, hv, hb, ho⟩
  go_wp2_with fail
  go_ret
  exact ⟨_, rfl, hv, hb, ho⟩

set_option maxRecDepth 100000 in
theorem xload_any (h : XAt w m L H) (u : Value) (l : List Fl) (hu : FilesIn w u l) :
    Calls Try.prog 30 #[.pointer (some ⟨m, 0, none⟩), u] w fun e w' => e = .returned (.int .i64 (checkF l : Nat)) ∧ XAt w' m (if checkF l = 0 then l else L) (Ext H w w') ∧ Only H w w' := by
  have hml := h.lt
  have C1 := checkFiles_any u l hu
  have h8 : checkF l = 0 → l.length ≤ 1000 := by
    intro h
    unfold checkF at h
    by_cases h8 : 8 < l.length
    · rw [if_pos h8] at h; omega
    · omega
  by_cases h0 : checkF l = 0
  · rw [if_pos h0]
    rw [h0] at C1 ⊢
    have C1 := hide C1
    have C2 := hide (fun (w1 : World) (hx : Only (fun _ => False) w w1) => copyFiles_any u l (hu.keep hx (fun _ _ h => h)) (h8 h0))
    clear h8 h0
    go_enter Try.func30, Try.ntmps30
    go_wp2_with fail
    refine (unhide C1).mono ?_
    rintro e w1 ⟨rfl, ho1⟩
    go_wp2_with fail
    refine (unhide C2 _ ho1).mono ?_
    rintro e w2 ⟨v', rfl, hv, hb, ho2⟩
    have s1 := ho1.size
    have s2 := ho2.size
    have hp := h.put (ho1.trans ho2 (fun _ _ h => h)) hv (fun y hy => Nat.le_trans s1 (hb y hy))
    have hx := h.quiet (ho1.trans ho2 (fun _ _ h => h))
    obtain ⟨v0, k0, _, _⟩ := hx.ex
    have c0 := k0.cell 0
    have z0 := k0.free 0
    obtain ⟨a', cap', rfl⟩ := ownsRow_shape hv
    have HP := hide hp
    clear hp hx C1 C2 hv hb
    go_wp2_with fail
    go_ret
    refine ⟨rfl, ?_, (unhide HP).2⟩
    refine (unhide HP).1.more (fun k hk => ?_) h.inn (by simp; omega)
    rcases hk with hk | hk
    · exact .inl hk
    · exact .inr ⟨hk.1, by simpa using hk.2⟩
  · rw [if_neg h0]
    generalize checkF l = er at *
    have e1 : ((er : Int) != 0) = true := by simp; omega
    have C1 := hide C1
    clear h0 h8
    go_enter Try.func30, Try.ntmps30
    go_wp2_with fail
    refine (unhide C1).mono ?_
    rintro e w1 ⟨rfl, ho1⟩
    go_wp2_with fail
    go_ret
    exact ⟨rfl, (h.quiet ho1).more (fun k hk => .inl hk) h.inn ho1.size, ho1.mono (fun _ _ h => h.elim)⟩

theorem findI_range (L : List Fl) (p : ByteArray) : findI L p = -1 ∨ ∃ (i : Nat) (h : i < L.length), findI L p = i ∧ L[i].path = p := by
  unfold findI
  cases hf : L.findIdx? (fun f => decide (f.path = p)) with
  | none => exact .inl rfl
  | some i =>
    right
    rw [List.findIdx?_eq_some_iff_getElem] at hf
    obtain ⟨hi, hp, _⟩ := hf
    exact ⟨i, hi, rfl, by simpa using hp⟩

set_option maxRecDepth 100000 in
theorem xdel_any (h : XAt w m L H) (p : ByteArray) (hlen : L.length ≤ 1000) :
    Calls Try.prog 23 #[.pointer (some ⟨m, 0, none⟩), .string p] w fun e w' => e = .returned (.int .i64 (if findI L p = -1 then 13 else 0)) ∧ XAt w' m (withoutL L p) (Ext H w w') ∧ Only H w w' := by
  have hml := h.lt
  obtain ⟨v0, k0, hv0, hw0⟩ := h.ex
  have c0 := k0.cell 0
  have C1 := find_any v0 L p hv0 (by omega)
  rcases findI_range L p with hf | ⟨i, hi, hf, hp⟩
  · rw [if_pos hf]
    rw [hf] at C1
    have C1 := hide C1
    have hsame : withoutL L p = L := by
      unfold withoutL
      rw [List.filter_eq_self]
      intro f hf'
      obtain ⟨j, hj, rfl⟩ := List.getElem_of_mem hf'
      have hne : L[j].path ≠ p := fun e => by
        have : L.findIdx? (fun f => decide (f.path = p)) = none := by
          unfold findI at hf
          cases hq : L.findIdx? (fun f => decide (f.path = p)) with
          | none => rfl
          | some i => rw [hq] at hf; simp at hf
        rw [List.findIdx?_eq_none_iff] at this
        have := this L[j] (List.getElem_mem hj)
        rw [e] at this
        simp at this
      simpa using hne
    rw [hsame]
    clear hf hsame
    go_enter Try.func23, Try.ntmps23
    go_wp2_with fail
    refine (unhide C1).mono ?_
    rintro e w1 ⟨rfl, rfl⟩
    go_wp2_with fail
    go_ret
    exact ⟨rfl, h.more (fun k hk => .inl hk) h.inn (Nat.le_refl _), Only.refl _ _⟩
  · rw [if_neg (by omega)]
    rw [hf] at C1
    have C1 := hide C1
    have C2 := hide (without_any v0 L p hv0 hlen)
    clear hf hp
    go_enter Try.func23, Try.ntmps23
    go_wp2_with fail
    refine (unhide C1).mono ?_
    rintro e w1 ⟨rfl, rfl⟩
    go_wp2_with fail
    refine (unhide C2).mono ?_
    rintro e w2 ⟨v', rfl, hv, hb, ho2⟩
    have s2 := ho2.size
    have hp := h.put ho2 hv hb
    have k2 := k0.keep ho2 (fun h => h)
    have c0 := k2.cell 0
    have z0 := k2.free 0
    obtain ⟨a', cap', rfl⟩ := ownsRow_shape hv
    have HP := hide hp
    clear hp C1 C2 hv hb
    go_wp2_with fail
    go_ret
    refine ⟨rfl, ?_, (unhide HP).2⟩
    refine (unhide HP).1.more (fun k hk => ?_) h.inn (by simp; omega)
    rcases hk with hk | hk
    · exact .inl hk
    · exact .inr ⟨hk.1, by simpa using hk.2⟩

def zeroFl : Fl := ⟨⟨#[]⟩, ⟨#[]⟩, 0⟩
def getL (L : List Fl) (p : ByteArray) : Fl := match L.findIdx? (fun f => decide (f.path = p)) with | some i => L.getD i zeroFl | none => zeroFl
set_option maxRecDepth 100000 in
theorem xget_any (h : XAt w m L H) (p : ByteArray) (hlen : L.length ≤ 1000) :
    Calls Try.prog 25 #[.pointer (some ⟨m, 0, none⟩), .string p] w fun e w' => e = .returned (.tuple #[.agg #[.string (getL L p).path, .string (getL L p).data, .int .i64 (getL L p).mode], .int .i64 (if findI L p = -1 then 13 else 0)]) ∧ Only (fun _ => False) w w' := by
  have hml := h.lt
  obtain ⟨v0, k0, hv0, hw0⟩ := h.ex
  have o1 : Only (fun _ => False) w (w.alloc (.cells #[.string ⟨#[]⟩, .string ⟨#[]⟩, .int .i64 0] 40)) := (Only.refl _ w).alloc _
  have k1 := k0.keep o1 (fun h => h)
  have c0 := k1.cell 0
  have r0 := Has.new w #[.string ⟨#[]⟩, .string ⟨#[]⟩, .int .i64 0] 40
  have r1 := ((r0.setCell 0 (.string ⟨#[]⟩)).setCell 1 (.string ⟨#[]⟩)).setCell 2 (.int .i64 0)
  have q0 := r0.cell 0
  have q1 := r0.cell 1
  have q2 := r0.cell 2
  have z0 := r0.free 0
  have z1 := r0.free 1
  have z2 := r0.free 2
  have C1 := find_any v0 L p (hv0.keep o1 (fun _ _ h => h)) (by omega)
  have hgen : ∀ i (hi : i < L.length), findI L p = i → getL L p = L[i] := by
    intro i hi hf
    unfold findI at hf
    unfold getL
    cases hq : L.findIdx? (fun f => decide (f.path = p)) with
    | none => rw [hq] at hf; simp at hf
    | some j =>
      rw [hq] at hf
      simp at hf
      have : j = i := by omega
      subst this
      simp [List.getD, hi]
  have hgn : findI L p = -1 → getL L p = zeroFl := by
    intro hf
    unfold findI at hf
    unfold getL
    cases hq : L.findIdx? (fun f => decide (f.path = p)) with
    | none => rfl
    | some j => rw [hq] at hf; simp at hf
  rcases findI_range L p with hf | ⟨i, hi, hf, hp⟩
  · rw [if_pos hf, hgn hf]
    rw [hf] at C1
    have C1 := hide C1
    clear hf hgen hgn r1
    go_enter Try.func25, Try.ntmps25
    go_wp2_with fail
    refine (unhide C1).mono ?_
    rintro e w1 ⟨rfl, rfl⟩
    go_wp2_with fail
    refine bodyPost_ret (v := .tuple #[.agg #[.string ⟨#[]⟩, .string ⟨#[]⟩, .int .i64 0], .int .i64 13]) (by simp [results, Try.results25, go_sem, q0, q1, q2]) rfl ?_
    exact ⟨rfl, (Only.refl _ w).alloc _⟩
  · rw [if_neg (by omega), hgen i hi hf]
    rw [hf] at C1
    have C1 := hide C1
    obtain ⟨a, cap, rfl, hc⟩ := hv0
    obtain ⟨g, rfl, hcell⟩ := hc (by omega)
    obtain ⟨d0, d1, d2⟩ := hcell i hi
    have hgl : g < w.heap.size := World.block_lt_of_cell? w _ d0
    have hbk := o1.block g hgl (fun h => h)
    have d0 := (World.cell?_of_block hbk).trans d0
    have d1 := (World.cell?_of_block hbk).trans d1
    have d2 := (World.cell?_of_block hbk).trans d2
    have a2 : (i : Int) < (L.length : Int) := by omega
    have ngw : g ≠ w.heap.size := by omega
    clear hf hgen hgn r1 hp hcell hc hbk
    generalize L[i] = li at *
    have r1 := ((r0.setCell 0 (.string li.path)).setCell 1 (.string li.data)).setCell 2 (.int .i64 li.mode)
    have p0 := r1.cell 0
    have p1 := r1.cell 1
    have p2 := r1.cell 2
    simp at p0 p1 p2
    go_enter Try.func25, Try.ntmps25
    go_wp2_with fail
    refine (unhide C1).mono ?_
    rintro e w1 ⟨rfl, rfl⟩
    go_wp2_with fail
    refine bodyPost_ret (v := .tuple #[.agg #[.string li.path, .string li.data, .int .i64 li.mode], .int .i64 0]) (by simp [results, Try.results25, go_sem, p0, p1, p2]) rfl ?_
    exact ⟨rfl, (Only.refl _ w).alloc _⟩
end
end Go.Proofs.Qxb6500418a
